/- Plain: levels: what the problem of the nodes outside an inner set is worth. -/
import Derived.Test.YticekkjambkifaaDoorZal
set_option linter.unusedVariables false
set_option linter.unusedSimpArgs false
namespace Go.Proofs.YticekkjambkifaaDoor.Fl
open Go.RowKit Go.Proofs.YticekkjambkifaaDoor CoBit CoRat Rt

/-- The edges that have no end in a set. -/
def outE (es : List (Int × Int)) (i : Nat) : List (Int × Int) := es.filter fun e => decide (e.1 ∉ bset i ∧ e.2 ∉ bset i)
/-- How many edges go from each node outside to a set. -/
def bsO (n : Nat) (es : List (Int × Int)) (i : Nat) : List Nat := (List.range n).map fun v : Nat => if i.testBit v = true then 0 else cntE es (bset i) (v : Int)
theorem sum_add_map (l : List Nat) (f g : Nat → Nat) : (l.map fun v => f v + g v).sum = (l.map f).sum + (l.map g).sum := by
  induction l with
  | nil => rfl
  | cons a l ih => simp only [List.map_cons, List.sum_cons, ih]; omega
theorem sum_ind {l : List Nat} (hl : l.Nodup) (a : Int) (q : Prop) [Decidable q] : (l.map fun v : Nat => if a = (v : Int) ∧ q then 1 else 0).sum = if a ∈ nts l ∧ q then 1 else 0 := by
  by_cases hq : q
  · simp only [hq, and_true]
    induction l with
    | nil => simp [nts]
    | cons b l ih =>
      rw [List.nodup_cons] at hl
      rw [List.map_cons, List.sum_cons, ih hl.2]
      have hn : nts (b :: l) = (b : Int) :: nts l := rfl
      rw [hn]
      by_cases hab : a = (b : Int)
      · subst hab
        have : ¬ ((b : Int) ∈ nts l) := fun h => hl.1 (by
          unfold nts at h
          obtain ⟨c, hc, he⟩ := List.mem_map.1 h
          have : c = b := by omega
          rw [← this]; exact hc)
        rw [if_pos rfl, if_neg this, if_pos (List.mem_cons_self ..)]
      · rw [if_neg hab]
        by_cases h2 : a ∈ nts l
        · rw [if_pos h2, if_pos (List.mem_cons_of_mem _ h2)]
        · rw [if_neg h2, if_neg (fun h => (List.mem_cons.1 h).elim hab h2)]
  · simp only [hq, and_false, if_false]
    induction l with
    | nil => rfl
    | cons b l ih => rw [List.map_cons, List.sum_cons, ih (List.nodup_cons.1 hl).2]
theorem mem_bset_or {x y : Nat} {a : Int} : a ∈ bset (y ||| x) ↔ a ∈ bset y ∨ a ∈ bset x := by
  by_cases ha : 0 ≤ a
  · obtain ⟨k, rfl⟩ := Int.eq_ofNat_of_zero_le ha
    rw [mem_bset, mem_bset, mem_bset, Nat.testBit_or, Bool.or_eq_true]
    constructor
    · rintro ⟨h, h1 | h1⟩
      · exact .inl ⟨h, h1⟩
      · exact .inr ⟨h, h1⟩
    · rintro (⟨h, h1⟩ | ⟨h, h1⟩)
      · exact ⟨h, .inl h1⟩
      · exact ⟨h, .inr h1⟩
  · have hno : ∀ z : Nat, ¬ a ∈ bset z := fun z h => by
      unfold bset nts at h
      obtain ⟨c, -, hc⟩ := List.mem_map.1 h
      omega
    exact ⟨fun h => absurd h (hno _), fun h => absurd h (fun h => h.elim (hno _) (hno _))⟩
/-- A set outside. -/
def Off (n i y : Nat) : Prop := ∀ v, y.testBit v = true → v < n ∧ i.testBit v = false
theorem Off.not_mem {n i y : Nat} (h : Off n i y) {a : Int} (ha : a ∈ bset y) : a ∉ bset i := fun hb => by
  unfold bset nts at ha
  obtain ⟨c, hc, rfl⟩ := List.mem_map.1 ha
  have h1 := (mem_bl.1 hc).2
  have h2 := (mem_bset.1 hb).2
  rw [(h c h1).2] at h2; cases h2
theorem out_sum {n i y : Nat} (es : List (Int × Int)) (hy : Off n i y) : insE (outE es i) (bset y) + ((bl y).map fun v : Nat => cntE es (bset i) (v : Int)).sum + insE es (bset i) = insE es (bset (y ||| i)) := by
  induction es with
  | nil =>
    have : ((bl y).map fun v : Nat => cntE [] (bset i) (v : Int)).sum = 0 := by
      generalize bl y = l
      induction l with
      | nil => rfl
      | cons a l ih => rw [List.map_cons, List.sum_cons, ih]; rfl
    rw [this]; rfl
  | cons e es ih =>
    rw [insE_cons, insE_cons, ← ih]
    have h1 : ((bl y).map fun v : Nat => cntE (e :: es) (bset i) (v : Int)).sum = ((bl y).map fun v : Nat => cntE es (bset i) (v : Int)).sum + ((if e.1 ∈ bset y ∧ e.2 ∈ bset i then 1 else 0) + (if e.2 ∈ bset y ∧ e.1 ∈ bset i then 1 else 0)) := by
      have e1 : (fun v : Nat => cntE (e :: es) (bset i) (v : Int)) = fun v : Nat => cntE es (bset i) (v : Int) + ((if e.1 = (v : Int) ∧ e.2 ∈ bset i then 1 else 0) + (if e.2 = (v : Int) ∧ e.1 ∈ bset i then 1 else 0)) := funext fun v => by rw [cntE_cons]; rfl
      rw [e1, sum_add_map, sum_add_map, sum_ind (bl_nodup y), sum_ind (bl_nodup y)]; rfl
    rw [h1]
    have h2 : insE (outE (e :: es) i) (bset y) = insE (outE es i) (bset y) + (if e.1 ∈ bset y ∧ e.2 ∈ bset y then 1 else 0) := by
      unfold outE
      rw [List.filter_cons]
      by_cases c : e.1 ∉ bset i ∧ e.2 ∉ bset i
      · rw [if_pos (decide_eq_true c), insE_cons]
      · rw [if_neg (by rw [decide_eq_true_eq]; exact c), if_neg]
        · rfl
        · rintro ⟨a1, a2⟩; exact c ⟨hy.not_mem a1, hy.not_mem a2⟩
    rw [h2]
    generalize insE (outE es i) (bset y) = A
    generalize ((bl y).map fun v : Nat => cntE es (bset i) (v : Int)).sum = B
    generalize insE es (bset i) = Cc
    simp only [mem_bset_or]
    have n1 : e.1 ∈ bset y → e.1 ∉ bset i := fun h => hy.not_mem h
    have n2 : e.2 ∈ bset y → e.2 ∉ bset i := fun h => hy.not_mem h
    by_cases a1 : e.1 ∈ bset y <;> by_cases a2 : e.2 ∈ bset y <;> by_cases a3 : e.1 ∈ bset i <;> by_cases a4 : e.2 ∈ bset i <;> simp_all <;> omega
theorem bsO_get {n i v : Nat} {es : List (Int × Int)} (hv : v < n) (hi : i.testBit v = false) : (bsO n es i).getD v 0 = cntE es (bset i) (v : Int) := by
  unfold bsO
  rw [List.getD_eq_getElem?_getD, List.getElem?_map, List.getElem?_range hv]
  show (if i.testBit v = true then 0 else cntE es (bset i) (v : Int)) = _
  rw [hi]; rfl
/-- What a set outside brings: the edges within it and those to the inner set. -/
theorem gain_out {n i y : Nat} (es : List (Int × Int)) (hy : Off n i y) : wtI (outE es i) (bsO n es i) y + insE es (bset i) = insE es (bset (y ||| i)) := by
  rw [← out_sum es hy]
  unfold wtI bonus
  have : (bl y).map (fun v => (bsO n es i).getD v 0) = (bl y).map fun v : Nat => cntE es (bset i) (v : Int) := List.map_congr_left fun v hv => by
    have := hy v (mem_bl.1 hv).2
    exact bsO_get this.1 this.2
  rw [this]
/-- The nodes that are not in an inner set. -/
def offM (n i : Nat) : Nat := allM n ^^^ (allM n &&& i)
theorem offM_bit (n i v : Nat) : (offM n i).testBit v = (decide (v < n) && !i.testBit v) := by
  unfold offM
  rw [Nat.testBit_xor, Nat.testBit_and, allM_bit]
  cases decide (v < n) <;> cases i.testBit v <;> rfl
theorem off_iff {n i y : Nat} : Off n i y ↔ ∀ v, y.testBit v = true → (offM n i).testBit v = true := by
  unfold Off
  refine forall_congr' fun v => ?_
  rw [offM_bit, Bool.and_eq_true, decide_eq_true_eq, Bool.not_eq_true']
theorem prb_out {n i : Nat} {es : List (Int × Int)} (hz : chkG n es = 0) (hn : n ≤ 64) (hl : es.length ≤ 4096) : Prb (outE es i) (bsO n es i) n (offM n i) := by
  have h1 := chkE_lt (chkG_zero hz).2.2
  have hm : ∀ e ∈ outE es i, e ∈ es ∧ e.1 ∉ bset i ∧ e.2 ∉ bset i := fun e he => by
    have := List.mem_filter.1 he
    rw [decide_eq_true_eq] at this; exact this
  have hb : ∀ a : Int, 0 ≤ a → a < n → a ∉ bset i → (offM n i).testBit a.toNat = true := fun a a0 a1 ha => by
    rw [offM_bit, Bool.and_eq_true, decide_eq_true_eq, Bool.not_eq_true']
    refine ⟨by omega, ?_⟩
    cases hc : i.testBit a.toNat with
    | false => rfl
    | true => exact absurd (by have := (mem_bset (x := i) (i := a.toNat)).2 ⟨by omega, hc⟩; rwa [Int.toNat_of_nonneg a0] at this) ha
  refine ⟨fun e he => h1 e (hm e he).1, fun e he => ?_, fun v hv => ?_, hn, ?_, fun b hb => ?_, Nat.le_trans (List.length_filter_le _ _) hl⟩
  · obtain ⟨h2, h3, h4⟩ := hm e he
    have := h1 e h2
    exact ⟨hb _ (by omega) (by omega) h3, hb _ (by omega) (by omega) h4⟩
  · rw [offM_bit, Bool.and_eq_true, decide_eq_true_eq] at hv; exact hv.1
  · unfold bsO; rw [List.length_map, List.length_range]
  · unfold bsO at hb
    obtain ⟨v, -, rfl⟩ := List.mem_map.1 hb
    have h64 : ∀ S : List Int, cntE es S (v : Int) ≤ (nbl es (v : Int)).length := fun S => List.length_filter_le _ _
    split
    · omega
    · refine Nat.le_trans (h64 _) ?_
      have hnb : ∀ es : List (Int × Int), (∀ e ∈ es, e.1 < e.2) → (nbl es (v : Int)).length ≤ es.length := fun es => by
        induction es with
        | nil => intro _; exact Nat.le_refl _
        | cons e es ih =>
          intro h
          rw [nbl_cons, List.length_append, List.length_append, List.length_cons]
          have h1 := ih fun e he => h e (List.mem_cons_of_mem _ he)
          have h2 := h e (List.mem_cons_self ..)
          by_cases c1 : e.1 = (v : Int)
          · rw [if_pos c1, if_neg (by omega)]; simp; omega
          · rw [if_neg c1]
            by_cases c2 : e.2 = (v : Int)
            · rw [if_pos c2]; simp; omega
            · rw [if_neg c2]; simp; omega
      exact Nat.le_trans (hnb es fun e he => (h1 e he).2.1) hl
/-- What a set outside gains. -/
def gn (es : List (Int × Int)) (i y : Nat) : Nat := insE es (bset (y ||| i)) - insE es (bset i)
theorem gn_wt {n i y : Nat} (es : List (Int × Int)) (hy : Off n i y) : gn es i y = wtI (outE es i) (bsO n es i) y := by
  have := gain_out es hy
  unfold gn; omega
/-- A level outside an inner set: the greatest one of the sets that gain most for each node. -/
structure Lvl (n : Nat) (es : List (Int × Int)) (i x N D : Nat) : Prop where
  off : Off n i x
  pos : 0 < pop x
  dN : (N : Int) = mkN (gn es i x : Nat) (pop x : Nat)
  dD : (D : Int) = mkD (gn es i x : Nat) (pop x : Nat)
  D0 : 0 < D
  lim : N ≤ 266240 ∧ D ≤ 64
  eq : D * gn es i x = N * pop x
  max : ∀ y, Off n i y → D * gn es i y ≤ N * pop y
  great : ∀ y, Off n i y → D * gn es i y = N * pop y → ∀ v, y.testBit v = true → x.testBit v = true
theorem Lvl.of_den {n i : Nat} {es : List (Int × Int)} {x P D : Nat} (h : IsDen (outE es i) (bsO n es i) n (offM n i) x P D) : Lvl n es i x P D := by
  have hx : Off n i x := off_iff.2 h.mx.sub
  have hv0 := h.zero
  have hval : ∀ y, Off n i y → val (outE es i) (bsO n es i) D P y = ((D * gn es i y : Nat) : Int) - ((P * pop y : Nat) : Int) := fun y hy => by
    unfold val
    rw [gn_wt es hy, Int.natCast_mul, Int.natCast_mul]
  have hx0 := hval x hx
  refine ⟨hx, h.pos, by rw [gn_wt es hx]; exact h.frac.1, by rw [gn_wt es hx]; exact h.frac.2, h.lim.2.2, ⟨h.lim.1, h.lim.2.1⟩, by omega, fun y hy => ?_, fun y hy he => ?_⟩
  · have h1 := h.mx.max y (off_iff.1 hy)
    rw [hv0, hval y hy] at h1
    omega
  · exact h.mx.great y (off_iff.1 hy) (by rw [hv0, hval y hy]; omega)
theorem Lvl.unique {n i : Nat} {es : List (Int × Int)} {x N D x' N' D' : Nat} (h : Lvl n es i x N D) (h' : Lvl n es i x' N' D') : x = x' ∧ N = N' ∧ D = D' := by
  have key : ∀ {x N D x' N' D' : Nat}, Lvl n es i x N D → Lvl n es i x' N' D' → N * D' ≤ N' * D := by
    intro x N D x' N' D' h h'
    have hp := h.pos
    have h1 := h'.max x h.off
    have h2 := h.eq
    refine Nat.le_of_mul_le_mul_left ?_ hp
    have e1 : pop x * (N * D') = (N * pop x) * D' := by grind
    have e2 : pop x * (N' * D) = (N' * pop x) * D := by grind
    rw [e1, e2, ← h2]
    have e3 : D * gn es i x * D' = D' * gn es i x * D := by grind
    rw [e3]
    exact Nat.mul_le_mul_right D h1
  have hk : N * D' = N' * D := Nat.le_antisymm (key h h') (key h' h)
  have sub : ∀ {x N D x' N' D' : Nat}, Lvl n es i x N D → Lvl n es i x' N' D' → N * D' = N' * D → ∀ v, x.testBit v = true → x'.testBit v = true := by
    intro x N D x' N' D' h h' hk
    refine h'.great x h.off (Nat.eq_of_mul_eq_mul_left h.D0 ?_)
    have e1 : D * (D' * gn es i x) = D' * (D * gn es i x) := by grind
    have e2 : D * (N' * pop x) = (N' * D) * pop x := by grind
    rw [e1, h.eq, e2, ← hk]; grind
  have hx : x = x' := Nat.eq_of_testBit_eq fun i => by
    have a1 := sub h h' hk i
    have a2 := sub h' h hk.symm i
    cases c1 : x.testBit i <;> cases c2 : x'.testBit i <;> simp_all
  subst hx
  have b1 := h.dN
  have b2 := h'.dN
  have b3 := h.dD
  have b4 := h'.dD
  exact ⟨rfl, by omega, by omega⟩
/-- The levels from an inner set on. -/
def LvP (n : Nat) (es : List (Int × Int)) : Nat → List (Nat × Nat × Nat) → Prop
  | i, [] => i = allM n
  | i, (x, N, D) :: ls => i ≠ allM n ∧ Lvl n es i x N D ∧ LvP n es (i ||| x) ls
theorem LvP.unique {n : Nat} {es : List (Int × Int)} {ls ls' : List (Nat × Nat × Nat)} {i : Nat} (h : LvP n es i ls) (h' : LvP n es i ls') : ls = ls' := by
  induction ls generalizing i ls' with
  | nil =>
    cases ls' with
    | nil => rfl
    | cons a l => obtain ⟨x, N, D⟩ := a; exact absurd h h'.1
  | cons a l ih =>
    obtain ⟨x, N, D⟩ := a
    cases ls' with
    | nil => exact absurd h' h.1
    | cons b l' =>
      obtain ⟨x', N', D'⟩ := b
      obtain ⟨rfl, rfl, rfl⟩ := h.2.1.unique h'.2.1
      rw [ih h.2.2 h'.2.2]
end Go.Proofs.YticekkjambkifaaDoor.Fl
