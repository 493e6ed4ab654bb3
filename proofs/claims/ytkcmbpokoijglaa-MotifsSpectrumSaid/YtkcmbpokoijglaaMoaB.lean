/- Plain law of MotifsNames: other names, the same instances; the beginning of a list has not more; there are few instances. -/
import Derived.Test.YtkcmbpokoijglaaMotX
import Derived.Test.YtkcmbpokoijglaaMotZ
set_option linter.unusedVariables false
namespace CoMot
/-- The first index that may come next. -/
def stA (at' : List Nat) : Nat := match at'.getLast? with | some b => b + 1 | none => 0
theorem range_len {α : Type} (f : Nat → List α) (n s : Nat) (hs : s ≤ n) (hf : ∀ i, i < n → (f i).length ≤ if s ≤ i then 2 ^ (n - 1 - i) else 0) : ∀ j, j ≤ n → ((List.range j).flatMap f).length + 2 ^ (n - max s j) ≤ 2 ^ (n - s) := by
  intro j
  induction j with
  | zero => intro _; simp
  | succ j ih =>
    intro hj
    have h1 := ih (by omega)
    have h2 := hf j (by omega)
    rw [List.range_succ, List.flatMap_append, List.length_append, List.flatMap_singleton]
    by_cases hsj : s ≤ j
    · rw [if_pos hsj] at h2
      rw [Nat.max_eq_right hsj] at h1
      rw [Nat.max_eq_right (by omega)]
      have e : n - j = (n - 1 - j) + 1 := by omega
      have e2 : n - (j + 1) = n - 1 - j := by omega
      rw [e, Nat.pow_succ] at h1
      rw [e2]
      omega
    · rw [if_neg hsj] at h2
      rw [Nat.max_eq_left (by omega)] at h1
      rw [Nat.max_eq_left (by omega)]
      omega
theorem sub_few (l : List Tick) (w : Int) (fits : List Step → Bool) : ∀ k at' m ns, stA at' ≤ l.length → (sub l w fits k at' m ns).length ≤ 2 ^ (l.length - stA at') := by
  intro k
  induction k with
  | zero => intro at' m ns _; exact Nat.one_le_two_pow
  | succ k ih =>
    intro at' m ns hs
    rw [sub_succ]
    have := range_len (one l w fits k at' m ns) l.length (stA at') hs (fun i hi => ?_) l.length (Nat.le_refl _)
    · exact Nat.le_trans (Nat.le_add_right _ _) this
    · unfold one
      rw [List.getElem?_eq_getElem hi]
      simp only
      by_cases hn : nextB l w at' l[i] i = true
      · rw [if_pos hn]
        have hle : stA at' ≤ i := by
          unfold nextB at hn
          unfold stA
          cases h1 : at'.head? with
          | none =>
            have : at' = [] := List.head?_eq_none_iff.1 h1
            subst this; simp
          | some a =>
            cases h2 : at'.getLast? with
            | none => simp
            | some b =>
              rw [h1, h2] at hn
              simp at hn
              simp only; omega
        rw [if_pos hle]
        cases add ns l[i].u l[i].v with
        | none => simp
        | some p =>
          obtain ⟨ns', s⟩ := p
          simp only
          split
          · have hst : stA (at' ++ [i]) = i + 1 := by unfold stA; rw [List.getLast?_concat]
            have := ih (at' ++ [i]) (m ++ [s]) ns' (by rw [hst]; omega)
            rw [hst, show l.length - (i + 1) = l.length - 1 - i by omega] at this
            exact this
          · simp
      · rw [if_neg hn]; simp
/-- There are at most so many instances. -/
theorem inst_few (l : List Tick) (w : Int) (M : List Step) : (inst l w M).length ≤ 2 ^ l.length := by
  have := sub_few l w (pre M) M.length [] [] [] (Nat.zero_le _)
  exact this
theorem inst_4096 {l : List Tick} (h : l.length ≤ 12) (w : Int) (M : List Step) : (inst l w M).length ≤ 4096 := by
  have h1 := inst_few l w M
  have h2 : 2 ^ l.length ≤ 2 ^ 12 := Nat.pow_le_pow_right (by omega) h
  omega
theorem Tame.take {l : List Tick} (h : Tame l) (k : Nat) : Tame (l.take k) :=
  ⟨fun x hx => h.nodes x (List.mem_of_mem_take hx), h.asc.sublist (List.take_sublist _ _), fun x hx => h.time x (List.mem_of_mem_take hx)⟩
/-- The name of a node. -/
def nam (ns : List Int) (x : Int) : Int := (ns[x.toNat]?).getD 0
def ren (ns : List Int) (l : List Tick) : List Tick := l.map fun x => ⟨nam ns x.u, nam ns x.v, x.t⟩
theorem ren_len (ns : List Int) (l : List Tick) : (ren ns l).length = l.length := by simp [ren]
theorem nam_at {ns : List Int} {x : Int} (h0 : 0 ≤ x) (h1 : x < (ns.length : Int)) : ns[x.toNat]? = some (nam ns x) := by
  unfold nam
  rw [List.getElem?_eq_getElem (by omega)]; rfl
theorem nam_inj {ns : List Int} (hn : ns.Nodup) {x y : Int} (hx : 0 ≤ x) (hx1 : x < (ns.length : Int)) (hy : 0 ≤ y) (hy1 : y < (ns.length : Int)) (h : nam ns x = nam ns y) : x = y := by
  have e1 := nam_at hx hx1
  have e2 := nam_at hy hy1
  rw [h, ← e2] at e1
  have := (List.getElem?_inj (by omega) hn).1 e1
  omega
theorem chkA_ok {l : List Tick} {m : List Step} {w : Int} (h : chkL l = 0) (hv : vld m = true) (hw : 0 ≤ w ∧ w ≤ 100) : chkA l m w = 0 := by
  have hs : spn w = 0 := by unfold spn; rw [if_neg (by omega)]
  unfold chkA; rw [if_neg (by rw [h]; simp), if_neg (by rw [hv]; simp), hs]
theorem chkA_bad {l : List Tick} {m : List Step} {w : Int} (h : chkL l = 0) (hv : vld m = false) : chkA l m w = 4 := by
  unfold chkA; rw [if_neg (by rw [h]; simp), if_pos hv]
theorem ren_chk {ns : List Int} {l : List Tick} (h : Tame l) (hl : l.length ≤ 4096) (hn : ns.Nodup) (hlen : ns.length = 8) (hb : ∀ x ∈ ns, 0 ≤ x ∧ x < 8) : chkL (ren ns l) = 0 := by
  unfold chkL
  rw [if_neg (by rw [ren_len]; omega)]
  refine chkT_ok _ 0 (fun x hx => ?_) ?_ (fun x hx => ?_)
  · obtain ⟨y, hy, rfl⟩ := List.mem_map.1 hx
    have := h.time y hy
    simp only; omega
  · unfold ren
    rw [List.pairwise_map]
    exact h.asc
  · obtain ⟨y, hy, rfl⟩ := List.mem_map.1 hx
    obtain ⟨a, b, c, d, e⟩ := h.nodes y hy
    have m1 := hb _ (List.mem_of_getElem? (nam_at (ns := ns) a (by omega)))
    have m2 := hb _ (List.mem_of_getElem? (nam_at (ns := ns) c (by omega)))
    refine ⟨?_, ?_, fun he => e (nam_inj hn a (by omega) c (by omega) he)⟩
    · unfold nd; simp; omega
    · unfold nd; simp; omega
theorem ren_inst {ns : List Int} {l : List Tick} (h : Tame l) (hn : ns.Nodup) (hlen : ns.length = 8) (w : Int) (M : List Step) : inst (ren ns l) w M = inst l w M := by
  have hin : ∀ x, (∃ t ∈ l, x = t.u ∨ x = t.v) → 0 ≤ x ∧ x < (ns.length : Int) := by
    rintro x ⟨t, ht, rfl | rfl⟩
    · have := h.nodes t ht; omega
    · have := h.nodes t ht; omega
  exact sub_names (f := nam ns) (l := l) (w := w) (fits := pre M) (fun x y hx hy he => nam_inj hn (hin x hx).1 (hin x hx).2 (hin y hy).1 (hin y hy).2 he) M.length [] [] [] (by simp)
/-- The law. -/
theorem names_law {ns : List Int} {l : List Tick} {m : List Step} {w : Int} (h : Tame l) (hl : l.length ≤ 12) (hv : vld m = true) (hn : ns.Nodup) (hlen : ns.length = 8) (hb : ∀ x ∈ ns, 0 ≤ x ∧ x < 8) (hw : 0 ≤ w ∧ w ≤ 100) (k : Nat) :
    insE l m w 4096 = 0 ∧ insE (ren ns l) m w 4096 = 0 ∧ insL (ren ns l) m w 4096 = insL l m w 4096 ∧ chkA (l.take k) m w = 0 ∧ cntR (l.take k) m w ≤ ((insL l m w 4096).length : Int) ∧ (insL l m w 4096).length ≤ 4096 ∧ ∀ x ∈ insL l m w 4096, x.length ≤ 4 := by
  have c1 := chkA_ok (h.chk (by omega)) hv hw
  have c2 := chkA_ok (ren_chk h (by omega) hn hlen hb) hv hw
  have c3 := chkA_ok ((h.take k).chk (by rw [List.length_take]; omega)) hv hw
  have hf := inst_4096 hl w m
  have e1 : insE l m w 4096 = 0 := by unfold insE; rw [if_pos c1, if_neg (by omega), if_neg (by omega)]
  have e2 : insE (ren ns l) m w 4096 = 0 := by unfold insE; rw [if_pos c2, if_neg (by omega), if_neg (by rw [ren_inst h hn hlen]; omega)]
  refine ⟨e1, e2, ?_, c3, ?_, ?_, ?_⟩
  · unfold insL; rw [if_pos e1, if_pos e2, ren_inst h hn hlen]
  · unfold cntR insL
    rw [if_pos c3, if_pos e1, List.length_map]
    have := (sub_take (l := l) (w := w) (fits := pre m) k m.length [] [] [] (by simp)).length_le
    exact Int.ofNat_le.2 this
  · unfold insL; rw [if_pos e1, List.length_map]; exact hf
  · unfold insL; rw [if_pos e1]
    intro x hx
    obtain ⟨p, hp, rfl⟩ := List.mem_map.1 hx
    have := (mem_inst hw.1 (fun y hy => (h.time y hy).1) p).1 hp
    have h4 := (vld_iff m).1 hv
    omega
theorem names_bad {ns : List Int} {l : List Tick} {m : List Step} {w : Int} (h : Tame l) (hl : l.length ≤ 12) (hv : vld m = false) (hn : ns.Nodup) (hlen : ns.length = 8) (hb : ∀ x ∈ ns, 0 ≤ x ∧ x < 8) :
    insE l m w 4096 = 4 ∧ insE (ren ns l) m w 4096 = 4 := by
  have c1 := chkA_bad (w := w) (h.chk (by omega)) hv
  have c2 := chkA_bad (w := w) (ren_chk h (by omega) hn hlen hb) hv
  refine ⟨?_, ?_⟩
  · unfold insE; rw [if_neg (by rw [c1]; decide)]; exact c1
  · unfold insE; rw [if_neg (by rw [c2]; decide)]; exact c2
end CoMot
