/- The reference's variable and Of: plain facts, variable, and what Of holds while it runs. -/
import Derived.Test.YtkcmbpokoijglaaMobB
import Derived.Test.YtkcmbpokoijglaaMotL
set_option linter.unusedVariables false
set_option linter.unusedSimpArgs false
namespace CoMot
def rN (ns : List Int) (a : Int) : List Int := if idx ns a = ns.length then ns ++ [a] else ns
/-- One tick more, as the reference does it: the nodes, the steps. -/
def rT (p : List Int × List Step) (x : Step) : List Int × List Step := (rN (rN p.1 x.1) x.2, p.2 ++ [((idx p.1 x.1 : Int), (idx (rN p.1 x.1) x.2 : Int))])
def rO (r : List Step) : List Int × List Step := r.foldl rT ([], [])
theorem rO_snoc (r : List Step) (x : Step) : rO (r ++ [x]) = rT (rO r) x := by simp [rO]
theorem idx_one (a b : Int) : idx [a] b = if a = b then 0 else 1 := by
  unfold idx
  rw [List.findIdx_cons]
  by_cases h : a = b
  · rw [if_pos h, h]; simp
  · rw [if_neg h]; simp [h]
theorem rT_some {ns ns' : List Int} {m : List Step} {a b : Int} {s : Step} (h : add ns a b = some (ns', s)) : rT (ns, m) (a, b) = (ns', m ++ [s]) := by
  unfold add at h
  unfold rT rN
  simp only
  by_cases h0 : ns = []
  · subst h0
    rw [if_pos rfl] at h
    by_cases hab : a = b
    · rw [if_neg (by simp [hab])] at h; cases h
    · rw [if_pos hab] at h
      injection h with h; injection h with h1 h2
      subst h1; subst h2
      have e0 : idx [] a = 0 := rfl
      simp only [e0, List.length_nil, if_true, List.nil_append, idx_one, if_neg hab, List.length_singleton, List.singleton_append]
      rfl
  · rw [if_neg h0] at h
    by_cases hij : idx ns a = idx ns b
    · rw [if_pos hij] at h; cases h
    · rw [if_neg hij] at h
      injection h with h; injection h with h1 h2
      subst h1; subst h2
      by_cases ha : idx ns a = ns.length
      · have hb : idx ns b < ns.length := by have := idx_le ns b; omega
        have hb2 : idx (ns ++ [a]) b = idx ns b := idx_append (idx_lt.1 hb)
        simp only [ha, if_true, hb2, List.length_append, List.length_singleton]
        rw [if_neg (by omega), if_neg (by omega)]
        simp
      · simp only [if_neg ha, List.append_nil]
        by_cases hb : idx ns b = ns.length
        · simp [hb]
        · simp [hb]
theorem rT_none {ns : List Int} {m : List Step} {a b : Int} (h : add ns a b = none) (hv : vf m = some ns.length) : vf (rT (ns, m) (a, b)).2 = none := by
  unfold rT
  simp only
  rw [vf_snoc, hv]
  show vs ns.length _ = none
  unfold add at h
  by_cases h0 : ns = []
  · subst h0
    rw [if_pos rfl] at h
    by_cases hab : a = b
    · subst hab
      unfold vs
      rw [if_pos (show ([] : List Int).length = 0 from rfl)]
      refine if_neg ?_
      unfold rN
      have e0 : idx [] a = 0 := rfl
      simp [e0, idx_one]
    · rw [if_pos hab] at h; cases h
  · rw [if_neg h0] at h
    by_cases hij : idx ns a = idx ns b
    · unfold vs
      have hl : ¬ ns.length = 0 := fun e => h0 (List.eq_nil_of_length_eq_zero e)
      rw [if_neg hl]
      refine if_pos ?_
      unfold rN
      by_cases ha : idx ns a = ns.length
      · rw [if_pos ha]
        have hnb : b ∉ ns := fun hm => by have := idx_lt.2 hm; omega
        by_cases hab : a = b
        · subst hab
          have : idx (ns ++ [a]) a = ns.length := by
            have h1 : idx (ns ++ [a]) a ≤ ns.length := by
              unfold idx
              rw [List.findIdx_append]
              split
              · omega
              · simp
            have h2 : ¬ idx (ns ++ [a]) a < ns.length := fun h2 => by
              have := idx_at (l := ns ++ [a]) (x := a) (by simp; omega)
              rw [List.getElem?_append_left h2] at this
              exact hnb (List.mem_of_getElem? this)
            omega
          simp only [this, ha]; simp
        · have : ns.length ≤ idx (ns ++ [a]) b := by
            rcases Nat.lt_or_ge (idx (ns ++ [a]) b) ns.length with h2 | h2
            · have := idx_at (l := ns ++ [a]) (x := b) (by simp; omega)
              rw [List.getElem?_append_left h2] at this
              exact absurd (List.mem_of_getElem? this) hnb
            · exact h2
          simp only [ha]; omega
      · rw [if_neg ha]
        simp only [hij]; simp
    · rw [if_neg hij] at h; cases h
theorem rO_ofS : ∀ r : List Step, (∀ ns m, ofS r = some (ns, m) → rO r = (ns, m)) ∧ (ofS r = none → vf (rO r).2 = none) := by
  intro r
  induction r using snocI with
  | h0 => exact ⟨fun ns m h => by simp [ofS] at h; rw [h.1, h.2]; rfl, fun h => by simp [ofS] at h⟩
  | h1 r x ih =>
    obtain ⟨ih1, ih2⟩ := ih
    obtain ⟨a, b⟩ := x
    rw [ofS_snoc, rO_snoc]
    cases hr : ofS r with
    | none =>
      refine ⟨fun ns m h => by simp [ofT] at h, fun _ => ?_⟩
      unfold rT
      rw [vf_snoc, ih2 hr]; rfl
    | some p =>
      obtain ⟨ns, m⟩ := p
      rw [ih1 ns m hr]
      cases ha : add ns a b with
      | none =>
        refine ⟨fun ns m h => by simp [ofT, ha] at h, fun _ => rT_none ha (ofS_vf r ns m hr)⟩
      | some q =>
        obtain ⟨ns', s⟩ := q
        refine ⟨fun ns2 m2 h => ?_, fun h => by simp [ofT, ha] at h⟩
        simp [ofT, ha] at h
        rw [rT_some ha, h.1, h.2]
theorem rO_len : ∀ r : List Step, (rO r).2.length = r.length ∧ (rO r).1.length ≤ 2 * r.length := by
  intro r
  induction r using snocI with
  | h0 => exact ⟨rfl, Nat.le_refl _⟩
  | h1 r x ih =>
    rw [rO_snoc]
    unfold rT
    have hn : ∀ ns a, (rN ns a).length ≤ ns.length + 1 := fun ns a => by unfold rN; split <;> simp
    have h1 := hn (rO r).1 x.1
    have h2 := hn (rN (rO r).1 x.1) x.2
    simp only [List.length_append, List.length_singleton]
    omega
/-- What the reference's Of answers is what Of answers. -/
theorem rO_ofR (l : List Tick) : (vld (rO (l.map pr)).2 = true → ofR l = some (rO (l.map pr)).2) ∧ (vld (rO (l.map pr)).2 = false → ofR l = none) := by
  obtain ⟨h1, h2⟩ := rO_ofS (l.map pr)
  have hlen := (rO_len (l.map pr)).1
  rw [List.length_map] at hlen
  unfold ofR
  rw [ofL_eq]
  constructor
  · intro hv
    obtain ⟨v1, v2, _⟩ := (vld_iff _).1 hv
    rw [if_neg (by omega)]
    cases hr : ofS (l.map pr) with
    | none =>
      exfalso
      have := h2 hr
      unfold vld at hv
      rw [this] at hv; simp at hv
    | some p =>
      obtain ⟨ns, m⟩ := p
      rw [h1 ns m hr]; rfl
  · intro hv
    by_cases hl : l.length = 0 ∨ 4 < l.length
    · rw [if_pos hl]
    · rw [if_neg hl]
      cases hr : ofS (l.map pr) with
      | none => rfl
      | some p =>
        exfalso
        obtain ⟨ns, m⟩ := p
        have h3 := ofS_vf _ _ _ hr
        rw [h1 ns m hr] at hv hlen
        unfold vld at hv
        rw [h3, decide_eq_true (show 1 ≤ m.length by simp only at hlen; omega), decide_eq_true (show m.length ≤ 4 by simp only at hlen; omega)] at hv
        simp at hv
end CoMot
namespace Go.Proofs.Ytkcmbpokoijglaa
open Go.RowKit CoMot

theorem tyI : Ty IE 22 3 8 := ⟨Try.underlying22, .int .i64 0, by kernel_rfl, rfl⟩
theorem RS.num {w : World} {A : Option Addr} {n : Nat} {xs : List Int} {k : Nat} (h : RS IE w A n xs) (hk : k < n) : ∃ ad x, A = some ad ∧ ad.block < w.heap.size ∧ Hid (xs[k]? = some x) ∧ w.cell? (ad.add k) = some (.int .i64 x) := by
  obtain ⟨ad, x, h1, h2, h3, h4⟩ := h.get hk
  refine ⟨ad, x, h1, h2, h3, ?_⟩
  have := h4 0 (.int .i64 x) rfl
  rw [add_of_add] at this
  simpa [IE] using this
set_option maxRecDepth 100000 in
set_option maxHeartbeats 2000000 in
theorem rvar_any (A : Option Addr) (n c : Nat) (xs : List Int) (v : Int) (w : World) (h : RS IE w A n xs) (hn : n ≤ 1099511627776) :
    Calls Try.prog 50 #[.slice A n c, .int .i64 v] w fun e w' => e = .returned (.int .i64 (idx xs v : Int)) ∧ Below w.heap.size w w' := by
  have hl := Lib.hid h.len
  go_enter Try.func50, Try.ntmps50
  go_wp2_with fail
  go_loopw [5] (fun i wr => ∃ k : Nat, k ≤ n ∧ i = .int .i64 k ∧ Hid (k ≤ idx xs v) ∧ Below w.heap.size w wr) (fun i _ => n - (intOf i).toNat)
  case atStart => exact ⟨0, Nat.zero_le _, rfl, Lib.hid (Nat.zero_le _), Below.refl _ _⟩
  case round =>
    obtain ⟨k, hk, rfl, hi, hb⟩ := hrel
    by_cases hlt : k < n
    · obtain ⟨ad, y, rfl, hbl, hy, hc⟩ := (h.below hb (Nat.le_refl _)).num hlt
      have i2 : (0 : Int) ≤ (k : Int) := Int.natCast_nonneg _
      have i3 : (k : Int) < (n : Int) := by omega
      by_cases hv : y = v
      · have q1 : (y == v) = true := by simp [hv]
        have hfin : Hid (idx xs v = k) := Lib.hid (by
          have h1 := hi.out
          have h2 : ¬ k < idx xs v := fun h2 => by
            have h3 := List.not_of_lt_findIdx h2
            have h4 := hy.out
            rw [List.getElem?_eq_getElem (by have := hl.out; omega)] at h4
            injection h4 with h4
            rw [h4, hv] at h3; simp at h3
          omega)
        replace hv := Lib.hid hv
        go_wp2_with fail
        go_ret
        exact ⟨by rw [hfin.out]; rfl, hb⟩
      · have q1 : (y == v) = false := by simp [hv]
        have hi2 : Hid (k + 1 ≤ idx xs v) := Lib.hid (by
          have h1 := hi.out
          rcases Nat.lt_or_ge k (idx xs v) with h2 | h2
          · omega
          · exfalso
            have h3 : idx xs v = k := by omega
            have h4 := idx_at (l := xs) (x := v) (by have := hl.out; omega)
            rw [h3, hy.out] at h4
            injection h4 with h4; exact hv h4)
        replace hv := Lib.hid hv
        go_wp2_with fail
        go_roundw
        case rel => exact ⟨k + 1, by omega, by go_num, hi2, hb⟩
        case measure => simp [intOf]; omega
    · obtain rfl : k = n := by omega
      have hfin : Hid (idx xs v = k) := Lib.hid (by have := idx_le xs v; have := hi.out; have := hl.out; omega)
      go_wp2_with fail
      go_ret
      exact ⟨by rw [hfin.out]; rfl, hb⟩
/-- append of one element, whatever the row was before is read still. -/
theorem wpList_push_keep {α : Type} {E : El α} {st t : TypeId} {bytes : Nat} (T : Ty E st t bytes) {ops : Array Oper} {rest : List Oper} {o : Oper} {a : Act} {Q : Exit → Act → World → Prop} {w : World} {B H : Nat} {v : Value} {xs : List α} {y : α}
    (hw : Region.wanted o (yielded ops a.tmps) = true) (s x : Operand) (ho : o.op = .call { callee := .builtin .append, args := #[s, x], argTypes := #[st, st] })
    (hs : a.eval s = v) (hx : a.eval x = .slice (some ⟨H, 0, none⟩) 1 1) (hown : OS E t w B v xs) (hr : RS E w (some ⟨H, 0, none⟩) 1 [y]) (hm : xs.length + 1 ≤ maxLen) (hn : (xs.length + 1) * bytes ≤ 140737488355328) (hB : B ≤ w.heap.size)
    (h : ∀ v' w', OS E t w' B v' (xs ++ [y]) → w.grownBy w' v.ownBlock → (v'.ownBlock = v.ownBlock ∨ v'.ownBlock = some w.heap.size) → wpList Try.prog ops Q rest (a.put o.dst v') w') :
    wpList Try.prog ops Q (o :: rest) a w := by
  refine wpList_step fun K hK => ?_
  rw [if_pos hw]
  exact wp_append_keep T s x ho hs hx hown hr hm hn hB fun v' w' h1 _ h3 h4 => hK _ _ (h v' w' h1 h3 h4)
/-- What Of holds within a round: the nodes, the steps, the step and the ends at hand. -/
structure RO (B : Nat) (W : World) (v1 v2 : Value) (ns : List Int) (m : List Step) (gs ge : Nat) (x y a b : Int) : Prop where
  o1 : OS IE 3 W B v1 ns
  o2 : OS SE 34 W B v2 m
  ne : ∀ k, v1.ownBlock = some k → v2.ownBlock ≠ some k
  n1 : ∀ k, v1.ownBlock = some k → k ≠ gs ∧ k ≠ ge
  n2 : ∀ k, v2.ownBlock = some k → k ≠ gs ∧ k ≠ ge
  gg : gs ≠ ge
  bs : Blk W gs 34 #[.int .i64 x, .int .i64 y]
  be : Blk W ge 34 #[.int .i64 a, .int .i64 b]
  lb : B ≤ gs ∧ B ≤ ge
section
variable {B : Nat} {W W' : World} {v1 v2 : Value} {ns : List Int} {m : List Step} {gs ge : Nat} {x y a b : Int}
theorem RO.same (h : RO B W v1 v2 ns m gs ge x y a b) (hs : Same (fun _ => False) W W') : RO B W' v1 v2 ns m gs ge x y a b :=
  ⟨hs.os_ h.o1 (fun _ _ h => h), hs.os_ h.o2 (fun _ _ h => h), h.ne, h.n1, h.n2, h.gg, hs.blk h.bs (fun h => h), hs.blk h.be (fun h => h), h.lb⟩
theorem RO.set0 (h : RO B W v1 v2 ns m gs ge x y a b) (u : Int) : RO B (W.setCell ⟨gs, 0, none⟩ (.int .i64 u)) v1 v2 ns m gs ge u y a b :=
  ⟨(Same.set W gs 0 _).os_ h.o1 (fun k hk => (h.n1 k hk).1), (Same.set W gs 0 _).os_ h.o2 (fun k hk => (h.n2 k hk).1), h.ne, h.n1, h.n2, h.gg, Blk.set h.bs 0 (.int .i64 u), (Same.set W gs 0 _).blk h.be (fun e => h.gg e.symm), h.lb⟩
theorem RO.set1 (h : RO B W v1 v2 ns m gs ge x y a b) (u : Int) : RO B (W.setCell ⟨gs, 1, none⟩ (.int .i64 u)) v1 v2 ns m gs ge x u a b :=
  ⟨(Same.set W gs 1 _).os_ h.o1 (fun k hk => (h.n1 k hk).1), (Same.set W gs 1 _).os_ h.o2 (fun k hk => (h.n2 k hk).1), h.ne, h.n1, h.n2, h.gg, Blk.set h.bs 1 (.int .i64 u), (Same.set W gs 1 _).blk h.be (fun e => h.gg e.symm), h.lb⟩
theorem RO.push (h : RO B W v1 v2 ns m gs ge x y a b) {v' : Value} {ns' : List Int} (ho : OS IE 3 W' B v' ns') (hg : W.grownBy W' v1.ownBlock) (hv : v'.ownBlock = v1.ownBlock ∨ v'.ownBlock = some W.heap.size) : RO B W' v' v2 ns' m gs ge x y a b := by
  have hs : Same (fun k => v1.ownBlock = some k) W W' := (Same.of_grown hg)
  refine ⟨ho, hs.os_ h.o2 (fun k hk he => h.ne k he hk), fun k hk => ?_, fun k hk => ?_, h.n2, h.gg, hs.blk h.bs (fun he => (h.n1 _ he).1 rfl), hs.blk h.be (fun he => (h.n1 _ he).2 rfl), h.lb⟩
  · rcases hv with hv | hv
    · exact h.ne k (hv ▸ hk)
    · rw [hv] at hk; injection hk with hk
      intro he
      have := (h.o2.block_lt k he).2; omega
  · rcases hv with hv | hv
    · exact h.n1 k (hv ▸ hk)
    · rw [hv] at hk; injection hk with hk
      have h1 := h.bs.lt
      have h2 := h.be.lt
      omega
end
end Go.Proofs.Ytkcmbpokoijglaa
