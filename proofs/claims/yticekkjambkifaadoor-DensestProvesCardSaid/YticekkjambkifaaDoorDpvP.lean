/- Plain: DensestProves. -/
import Derived.Test.YticekkjambkifaaDoorZam
import Derived.Test.YticekkjambkifaaDoorZao
set_option linter.unusedVariables false
set_option linter.unusedSimpArgs false
namespace Go.Proofs.YticekkjambkifaaDoor.Fl
open Go.RowKit Go.Proofs.YticekkjambkifaaDoor CoBit CoRat Rt

theorem okF_eq {N D a b : Nat} (h1 : okF (N : Int) (D : Int) = true) (h2 : okF (a : Int) (b : Int) = true) (h : a * D = N * b) : a = N ∧ b = D := by
  have o1 := okF_bd h1
  have o2 := okF_bd h2
  have g1 := o1.2.2.2.2
  have g2 := o2.2.2.2.2
  simp only [Int.natAbs_natCast] at g1 g2
  have k1 : D ∣ b := (Nat.Coprime.symm g1).dvd_of_dvd_mul_left ⟨a, by rw [← h]; exact Nat.mul_comm _ _⟩
  have k2 : b ∣ D := (Nat.Coprime.symm g2).dvd_of_dvd_mul_left ⟨N, by rw [h]; exact Nat.mul_comm _ _⟩
  have hb : b = D := Nat.dvd_antisymm k2 k1
  subst hb
  exact ⟨Nat.eq_of_mul_eq_mul_right (by omega) h, rfl⟩
theorem dse_nat {es : List (Int × Int)} {y : Nat} (hl : es.length ≤ 4096) : ∃ a b : Nat, dseN es (bset y) (pop y) = (a : Int) ∧ dseD es (bset y) (pop y) = (b : Int) ∧ 0 < b ∧ a * pop y = insE es (bset y) * b ∧ okF (a : Int) (b : Int) = true := by
  have h1 := insE_le es (bset y)
  have h2 := pop_le y
  obtain ⟨I, s, hf, h0, hp⟩ := dse_frv (es := es) (y := y) hl
  rcases Nat.eq_zero_or_pos (pop y) with h | h
  · refine ⟨0, 1, if_pos h, if_pos h, Nat.one_pos, ?_, okF_01⟩
    have : bset y = [] := by rw [pop_bset] at h; exact List.eq_nil_of_length_eq_zero h
    rw [this, insE_S0, h]
  · obtain ⟨a, b, e1, e2, e3, e4, e5, e6⟩ := mk_val (insE es (bset y)) (pop y) h (by omega) (by omega)
    refine ⟨a, b, ?_, ?_, e3, e6, ?_⟩
    · unfold dseN; rw [if_neg (by omega), e1]
    · unfold dseD; rw [if_neg (by omega), e2]
    · have := mk_ok (insE es (bset y)) (pop y) h (by omega) (by omega)
      rw [e1, e2] at this; exact this
theorem cmpF_pos {a b N D : Nat} (h1 : okF (a : Int) (b : Int) = true) (h2 : okF (N : Int) (D : Int) = true) : 0 < cmpF (a : Int) (b : Int) (N : Int) (D : Int) ↔ N * b < a * D := by
  unfold cmpF
  rw [h1, h2, Bool.and_self, if_pos rfl, Int.sign_pos_iff, ← Int.natCast_mul, ← Int.natCast_mul]
  omega
section
variable {n : Nat} {es : List (Int × Int)} {x N D : Nat} {ps : List Int}
/-- A set is as dense as the best one exactly if it is not less dense; then it is a part of it. -/
theorem DB.accept (h : DB n es x N D ps) (hl : es.length ≤ 4096) {y : Nat} (hy : ∀ v, y.testBit v = true → v < n) : (¬ 0 < cmpF (N : Int) (D : Int) (dseN es (bset y) (pop y)) (dseD es (bset y) (pop y)) ↔ dseN es (bset y) (pop y) = (N : Int) ∧ dseD es (bset y) (pop y) = (D : Int)) ∧
    (dseN es (bset y) (pop y) = (N : Int) ∧ dseD es (bset y) (pop y) = (D : Int) → ∀ v, y.testBit v = true → x.testBit v = true) := by
  obtain ⟨a, b, e1, e2, e3, e4, e5⟩ := dse_nat (es := es) (y := y) hl
  have hok := h.ok hl
  rw [e1, e2]
  have hc := h.cmp_set hl hy
  rw [e1, e2] at hc
  have hc2 : ¬ N * b < a * D := fun hh => by have := (cmpF_pos e5 hok).2 hh; omega
  refine ⟨?_, ?_⟩
  · rw [cmpF_pos hok e5]
    constructor
    · intro hh
      obtain ⟨r1, r2⟩ := okF_eq hok e5 (show a * D = N * b by omega)
      rw [r1, r2]; exact ⟨rfl, rfl⟩
    · rintro ⟨r1, r2⟩
      have r1' : a = N := by omega
      have r2' : b = D := by omega
      rw [r1', r2']; omega
  · rintro ⟨r1, r2⟩
    have r1' : a = N := by omega
    have r2' : b = D := by omega
    rw [r1', r2'] at e4
    exact h.great y hy (by rw [e4]; exact Nat.mul_comm _ _)
/-- The bound of any split. -/
theorem DB.bounds (h : DB n es x N D ps) (hz : chkG n es = 0) (hn : n ≤ 64) (hl : es.length ≤ 4096) {den : Int} {qs : List Int} (hf : FitS es.length den qs) : ∃ M' d : Nat, mkN (maxL (ldL n den es qs)) den = (M' : Int) ∧ mkD (maxL (ldL n den es qs)) den = (d : Int) ∧ okF (M' : Int) (d : Int) = true ∧
    ¬ 0 < cmpF (N : Int) (D : Int) (M' : Int) (d : Int) ∧ ∀ y, (∀ v, y.testBit v = true → v < n) → ¬ 0 < cmpF (dseN es (bset y) (pop y)) (dseD es (bset y) (pop y)) (M' : Int) (d : Int) := by
  obtain ⟨h1, h2, h3, h4⟩ := hf
  obtain ⟨dn, rfl⟩ := Int.eq_ofNat_of_zero_le (show 0 ≤ den by omega)
  have hb := fun y hy => load_bound (y := y) (show (0 : Int) ≤ (dn : Int) by omega) hz hn h4 hy
  have hbd : 0 ≤ maxL (ldL n (dn : Int) es qs) ∧ maxL (ldL n (dn : Int) es qs) ≤ 8589934592 := by
    refine ⟨maxL_nonneg _, maxL_le (by omega) fun z hz2 => ?_⟩
    have := (ldL_bd (n := n) (show (0 : Int) ≤ (dn : Int) by omega) h4 z hz2).2
    have h5 : (es.length : Int) * (2 * (dn : Int)) ≤ 4096 * 2097152 := Int.mul_le_mul (by omega) (by omega) (by omega) (by omega)
    omega
  obtain ⟨ml, hml⟩ := Int.eq_ofNat_of_zero_le hbd.1
  rw [hml] at hb hbd ⊢
  have hF := FrV.mk_ ml dn (by omega) (by omega) (by omega)
  obtain ⟨a, b, e1, e2, e3, e4, e5, e6⟩ := mk_val ml dn (by omega) (by omega) (by omega)
  rw [e1, e2] at hF ⊢
  have hbn : ∀ y, (∀ v, y.testBit v = true → v < n) → insE es (bset y) * dn ≤ ml * pop y := fun y hy => by
    have := hb y hy
    rw [← Int.natCast_mul, ← Int.natCast_mul] at this
    rw [Nat.mul_comm]; omega
  refine ⟨a, b, rfl, rfl, hF.1, ?_, fun y hy => ?_⟩
  · have := (h.frv hl).cmp hF (by
      rcases Nat.eq_zero_or_pos n with h0 | h0
      · subst h0
        rw [h.zero0.2.1]; omega
      · have hp := h.pos h0
        refine Nat.le_of_mul_le_mul_left ?_ hp
        have q1 : pop x * (N * dn) = (N * pop x) * dn := by grind
        have q2 : pop x * (ml * D) = D * (ml * pop x) := by grind
        rw [q1, ← h.eq, q2, Nat.mul_assoc]
        exact Nat.mul_le_mul_left D (hbn x h.sub))
    omega
  · obtain ⟨I, s, hf, h0, h1⟩ := dse_frv (es := es) (y := y) hl
    have := hf.cmp hF (by
      rcases Nat.eq_zero_or_pos (pop y) with hp | hp
      · obtain ⟨r1, r2⟩ := h0 hp
        rw [r1, Nat.zero_mul]; exact Nat.zero_le _
      · obtain ⟨r1, r2⟩ := h1 hp
        rw [r1, r2]; exact hbn y hy)
    omega
/-- What Check says of a set with its density and the best split. -/
theorem DB.dchk_of (h : DB n es x N D ps) (hz : chkG n es = 0) (hn : n ≤ 64) (hl : es.length ≤ 4096) {y : Nat} (hy : ∀ v, y.testBit v = true → v < n) {a b : Int} (ha : dseN es (bset y) (pop y) = a) (hb : dseD es (bset y) (pop y) = b) :
    dchk n es es.length (bset y) a b (D : Int) ps = if pop y = 0 ∧ 0 < n then 4 else if 0 < cmpF (N : Int) (D : Int) a b then 12 else 0 := by
  have hlen : (bset y).length = pop y := by unfold bset; rw [nts_length, pop_bl]
  have hv : Vld (bset y) n := ⟨fun z hz2 => by
    unfold bset nts at hz2
    obtain ⟨k, hk, rfl⟩ := List.mem_map.1 hz2
    have := hy k (mem_bl.1 hk).2
    omega, bset_sorted y⟩
  have hF : FitS es.length (D : Int) ps := ⟨by have := h.D0; omega, by have := h.lim; omega, h.plen, h.pbd⟩
  obtain ⟨e1, e2⟩ := h.bound hz hn hl
  unfold dchk
  rw [hlen, ha, hb, e1, e2]
  by_cases hc : pop y = 0 ∧ 0 < n
  · rw [if_pos hc, if_pos (.inr (.inl hc))]
  · rw [if_neg hc, if_neg (fun hh => hh.elim (fun hh => hh hv) (fun hh => hh.elim hc (fun hh => hh hF)))]
    by_cases hC : 0 < cmpF (N : Int) (D : Int) a b
    · rw [if_pos hC, if_pos (.inr (.inr hC))]
    · rw [if_neg hC, if_neg (fun hh => hh.elim (fun hh => hh rfl) (fun hh => hh.elim (fun hh => hh rfl) hC))]
end
end Go.Proofs.YticekkjambkifaaDoor.Fl
