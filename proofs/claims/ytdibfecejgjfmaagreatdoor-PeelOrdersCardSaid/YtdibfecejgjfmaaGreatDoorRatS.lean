/- Cmp of package ratio. -/
import Derived.Test.YtdibfecejgjfmaaGreatDoorRefE
set_option linter.unusedVariables false
namespace Go.Proofs.YtdibfecejgjfmaaGreatDoor.Rt
open Go.RowKit CoRat

/-- What Cmp answers. -/
def cmpF (a b c d : Int) : Int := if okF a b && okF c d then (a * d - c * b).sign else 0
theorem cmp_pos (A C D E : Nat) : (A * D = C * E → ((A : Int) * D - C * E).sign = 0) ∧ (A * D < C * E → ((A : Int) * D - C * E).sign = -1) ∧ (C * E < A * D → ((A : Int) * D - C * E).sign = 1) := by
  rw [← Int.natCast_mul, ← Int.natCast_mul]
  generalize A * D = P
  generalize C * E = Q
  refine ⟨fun h => ?_, fun h => Int.sign_eq_neg_one_of_neg (by omega), fun h => Int.sign_eq_one_of_pos (by omega)⟩
  rw [h, Int.sub_self]
  try rfl
theorem cmp_neg (A C D E : Nat) : (A * D = C * E → (-(A : Int) * D - -(C : Int) * E).sign = 0) ∧ (A * D < C * E → (-(A : Int) * D - -(C : Int) * E).sign = 1) ∧ (C * E < A * D → (-(A : Int) * D - -(C : Int) * E).sign = -1) := by
  rw [Int.neg_mul, Int.neg_mul, ← Int.natCast_mul, ← Int.natCast_mul]
  generalize A * D = P
  generalize C * E = Q
  refine ⟨fun h => ?_, fun h => Int.sign_eq_one_of_pos (by omega), fun h => Int.sign_eq_neg_one_of_neg (by omega)⟩
  rw [h]; have : -(Q : Int) - -(Q : Int) = 0 := by omega
  rw [this]; rfl

theorem cmp_mixed (a b c d X Y : Int) (hX : X = -1 ∧ a < 0 ∨ X = 0 ∧ a = 0 ∨ X = 1 ∧ 0 < a) (hY : Y = -1 ∧ c < 0 ∨ Y = 0 ∧ c = 0 ∨ Y = 1 ∧ 0 < c) (hb : 0 < b) (hd : 0 < d) (h1 : ¬ (0 < a ∧ 0 < c)) (h2 : ¬ (a < 0 ∧ c < 0)) :
    (a * d - c * b).sign = (X - Y).sign := by
  rcases hX with ⟨rfl, ha⟩ | ⟨rfl, ha⟩ | ⟨rfl, ha⟩ <;> rcases hY with ⟨rfl, hc⟩ | ⟨rfl, hc⟩ | ⟨rfl, hc⟩
  · omega
  · rw [hc, Int.zero_mul, Int.sub_zero, Int.sign_eq_neg_one_of_neg (Int.mul_neg_of_neg_of_pos ha hd)]; rfl
  · have e1 := Int.mul_neg_of_neg_of_pos ha hd
    have e2 := Int.mul_pos hc hb
    rw [Int.sign_eq_neg_one_of_neg (by omega)]; rfl
  · rw [ha, Int.zero_mul]
    have e2 := Int.mul_neg_of_neg_of_pos hc hb
    rw [Int.sign_eq_one_of_pos (by omega)]; rfl
  · rw [ha, hc, Int.zero_mul, Int.zero_mul]
  · rw [ha, Int.zero_mul]
    have e2 := Int.mul_pos hc hb
    rw [Int.sign_eq_neg_one_of_neg (by omega)]; rfl
  · have e1 := Int.mul_pos ha hd
    have e2 := Int.mul_neg_of_neg_of_pos hc hb
    rw [Int.sign_eq_one_of_pos (by omega)]; rfl
  · rw [hc, Int.zero_mul, Int.sub_zero, Int.sign_eq_one_of_pos (Int.mul_pos ha hd)]; rfl
  · omega

set_option maxHeartbeats 4000000 in
theorem cmp_any (a b c d : Int) (w : World) :
    Calls Tryz.prog 59 #[.agg #[.int .i64 a, .int .i64 b], .agg #[.int .i64 c, .int .i64 d]] w fun e w' => e = .returned (.int .i64 (cmpF a b c d)) ∧ Below w.heap.size w w' := by
  have okx := fun w => valid_any a b w
  have oky := fun w => valid_any c d w
  cases hx : okF a b
  · have e1 : Hid (cmpF a b c d = 0) := Lib.hid (by unfold cmpF; rw [hx]; rfl)
    rw [hx] at okx
    replace okx := Lib.hid okx
    clear hx oky
    go_enter Tryz.func59, Tryz.ntmps59
    go_wp2_with fail
    refine (okx.out _).mono ?_; rintro e w1 ⟨rfl, hb1⟩
    go_wp2_with fail
    go_returns
    exact ⟨retInt e1.out.symm, (by go_grown : Below w.heap.size w _).trans (hb1.mono (by simp; omega))⟩
  · rw [hx] at okx
    replace okx := Lib.hid okx
    cases hy : okF c d
    · have e1 : Hid (cmpF a b c d = 0) := Lib.hid (by unfold cmpF; rw [hx, hy]; rfl)
      rw [hy] at oky
      replace oky := Lib.hid oky
      clear hx hy
      go_enter Tryz.func59, Tryz.ntmps59
      go_wp2_with fail
      refine (okx.out _).mono ?_; rintro e w1 ⟨rfl, hb1⟩; obtain ⟨hc1, hf1⟩ := bat hb1 (w.heap.size + 2) (by simp)
      have s1 : w.heap.size + 2 ≤ w1.heap.size := by have := hb1.size; simp at this; omega
      go_wp2_with fail
      refine (oky.out _).mono ?_; rintro e w2 ⟨rfl, hb2⟩
      go_wp2_with fail
      go_returns
      exact ⟨retInt e1.out.symm, ((by go_grown : Below w.heap.size w _).trans (hb1.mono (by simp; omega))).trans (hb2.mono (by omega))⟩
    · rw [hy] at oky
      replace oky := Lib.hid oky
      have e1 : Hid (cmpF a b c d = (a * d - c * b).sign) := Lib.hid (by unfold cmpF; rw [hx, hy]; rfl)
      have bx := okF_bd hx
      have bz := okF_bd hy
      clear hx hy
      by_cases hpp : 0 < a ∧ 0 < c
      · -- both pos
        obtain ⟨A, hA⟩ := Int.eq_ofNat_of_zero_le (show 0 ≤ a by omega)
        obtain ⟨C, hC⟩ := Int.eq_ofNat_of_zero_le (show 0 ≤ c by omega)
        obtain ⟨E, rfl⟩ := Int.eq_ofNat_of_zero_le (show 0 ≤ b by omega)
        obtain ⟨D, rfl⟩ := Int.eq_ofNat_of_zero_le (show 0 ≤ d by omega)
        obtain rfl : a = (A : Int) := by omega
        obtain rfl : c = (C : Int) := by omega
        have mP := fun w => mul64_any A D w (by omega) (by omega)
        have mQ := fun w => mul64_any C E w (by omega) (by omega)
        have sA := fun w => sign_any ((A : Int)) w
        have sC := fun w => sign_any ((C : Int)) w
        rw [Int.sign_eq_one_of_pos (by omega)] at sA
        rw [Int.sign_eq_one_of_pos (by omega)] at sC
        have hv := Lib.hid (cmp_pos A C D E)
        have hPB := prod_lt A D (by omega) (by omega)
        have hQB := prod_lt C E (by omega) (by omega)
        have vP := (W.mk (A * D)).val
        have vQ := (W.mk (C * E)).val
        have bP := (W.mk (A * D)).bd hPB
        have bQ := (W.mk (C * E)).bd hQB
        have A1 : (1 : Int) ≤ A := by omega
        have A2 : (A : Int) ≤ 1152921504606846976 := by omega
        have C1 : (1 : Int) ≤ C := by omega
        have C2 : (C : Int) ≤ 1152921504606846976 := by omega
        have D1 : (0 : Int) ≤ D := by omega
        have D2 : (D : Int) ≤ 1152921504606846976 := by omega
        have E1 : (0 : Int) ≤ E := by omega
        have E2 : (E : Int) ≤ 1152921504606846976 := by omega
        generalize A * D = P at *
        generalize C * E = Q at *
        replace vP := Lib.hid vP
        replace vQ := Lib.hid vQ
        replace bP := Lib.hid bP
        replace bQ := Lib.hid bQ
        replace mP := Lib.hid mP
        replace mQ := Lib.hid mQ
        replace sA := Lib.hid sA
        replace sC := Lib.hid sC
        clear bx bz hA hC hPB hQB
        go_enter Tryz.func59, Tryz.ntmps59
        go_wp2_with fail
        refine (okx.out _).mono ?_; rintro e w1 ⟨rfl, hb1⟩; obtain ⟨hc1, hf1⟩ := bat hb1 (w.heap.size + 2) (by simp)
        have s1 : w.heap.size + 2 ≤ w1.heap.size := by have := hb1.size; simp at this; omega
        go_wp2_with fail
        refine (oky.out _).mono ?_; rintro e w2 ⟨rfl, hb2⟩; obtain ⟨hc2, hf2⟩ := bat hb2 (w.heap.size + 2) s1
        go_wp2_with fail
        refine (sA.out _).mono ?_; rintro e w3 ⟨rfl, rfl⟩
        go_wp2_with fail
        refine (sC.out _).mono ?_; rintro e w3 ⟨rfl, rfl⟩
        go_wp2_with fail
        refine (mP.out _).mono ?_; rintro e w3 ⟨rfl, rfl⟩
        go_wp2_with fail
        refine (mQ.out _).mono ?_; rintro e w3 ⟨rfl, rfl⟩
        have b2 : Below w.heap.size w w2 := ((by go_grown : Below w.heap.size w _).trans (hb1.mono (by simp; omega))).trans (hb2.mono (by omega))
        clear hc1 hf1 hc2 hf2 hb1 hb2
        go_wp2_with fail
        all_goals go_returns
        all_goals
          have vP := vP.out
          have vQ := vQ.out
          have bP := bP.out
          have bQ := bQ.out
          refine ⟨retInt ?_, b2⟩
          rw [e1.out]
        all_goals try simp only [beq_iff_eq, beq_eq_false_iff_ne, ne_eq] at *
        all_goals obtain ⟨v1, v2, v3⟩ := hv.out
        all_goals first | exact (v1 (by omega)).symm | exact (v2 (by omega)).symm | exact (v3 (by omega)).symm
      · by_cases hnn : a < 0 ∧ c < 0
        · -- both neg
          obtain ⟨A, hA⟩ := Int.eq_ofNat_of_zero_le (show 0 ≤ -a by omega)
          obtain ⟨C, hC⟩ := Int.eq_ofNat_of_zero_le (show 0 ≤ -c by omega)
          obtain ⟨E, rfl⟩ := Int.eq_ofNat_of_zero_le (show 0 ≤ b by omega)
          obtain ⟨D, rfl⟩ := Int.eq_ofNat_of_zero_le (show 0 ≤ d by omega)
          obtain rfl : a = -(A : Int) := by omega
          obtain rfl : c = -(C : Int) := by omega
          have mP := fun w => mul64_any A D w (by omega) (by omega)
          have mQ := fun w => mul64_any C E w (by omega) (by omega)
          have sA := fun w => sign_any (-(A : Int)) w
          have sC := fun w => sign_any (-(C : Int)) w
          rw [Int.sign_eq_neg_one_of_neg (by omega)] at sA
          rw [Int.sign_eq_neg_one_of_neg (by omega)] at sC
          have hv := Lib.hid (cmp_neg A C D E)
          have hPB := prod_lt A D (by omega) (by omega)
          have hQB := prod_lt C E (by omega) (by omega)
          have vP := (W.mk (A * D)).val
          have vQ := (W.mk (C * E)).val
          have bP := (W.mk (A * D)).bd hPB
          have bQ := (W.mk (C * E)).bd hQB
          have A1 : (1 : Int) ≤ A := by omega
          have A2 : (A : Int) ≤ 1152921504606846976 := by omega
          have C1 : (1 : Int) ≤ C := by omega
          have C2 : (C : Int) ≤ 1152921504606846976 := by omega
          have D1 : (0 : Int) ≤ D := by omega
          have D2 : (D : Int) ≤ 1152921504606846976 := by omega
          have E1 : (0 : Int) ≤ E := by omega
          have E2 : (E : Int) ≤ 1152921504606846976 := by omega
          generalize A * D = P at *
          generalize C * E = Q at *
          replace vP := Lib.hid vP
          replace vQ := Lib.hid vQ
          replace bP := Lib.hid bP
          replace bQ := Lib.hid bQ
          replace mP := Lib.hid mP
          replace mQ := Lib.hid mQ
          replace sA := Lib.hid sA
          replace sC := Lib.hid sC
          clear bx bz hA hC hPB hQB
          go_enter Tryz.func59, Tryz.ntmps59
          go_wp2_with fail
          refine (okx.out _).mono ?_; rintro e w1 ⟨rfl, hb1⟩; obtain ⟨hc1, hf1⟩ := bat hb1 (w.heap.size + 2) (by simp)
          have s1 : w.heap.size + 2 ≤ w1.heap.size := by have := hb1.size; simp at this; omega
          go_wp2_with fail
          refine (oky.out _).mono ?_; rintro e w2 ⟨rfl, hb2⟩; obtain ⟨hc2, hf2⟩ := bat hb2 (w.heap.size + 2) s1
          go_wp2_with fail
          refine (sA.out _).mono ?_; rintro e w3 ⟨rfl, rfl⟩
          go_wp2_with fail
          refine (sC.out _).mono ?_; rintro e w3 ⟨rfl, rfl⟩
          go_wp2_with fail
          refine (mP.out _).mono ?_; rintro e w3 ⟨rfl, rfl⟩
          go_wp2_with fail
          refine (mQ.out _).mono ?_; rintro e w3 ⟨rfl, rfl⟩
          have b2 : Below w.heap.size w w2 := ((by go_grown : Below w.heap.size w _).trans (hb1.mono (by simp; omega))).trans (hb2.mono (by omega))
          clear hc1 hf1 hc2 hf2 hb1 hb2
          go_wp2_with fail
          all_goals go_returns
          all_goals
            have vP := vP.out
            have vQ := vQ.out
            have bP := bP.out
            have bQ := bQ.out
            refine ⟨retInt ?_, b2⟩
            rw [e1.out]
          all_goals try simp only [beq_iff_eq, beq_eq_false_iff_ne, ne_eq] at *
          all_goals obtain ⟨v1, v2, v3⟩ := hv.out
          all_goals first | exact (v1 (by omega)).symm | exact (v2 (by omega)).symm | exact (v3 (by omega)).symm
        · -- signs that differ, or 0
          obtain ⟨X, hX⟩ : ∃ X, a.sign = X := ⟨_, rfl⟩
          obtain ⟨Y, hY⟩ : ∃ Y, c.sign = Y := ⟨_, rfl⟩
          have sA := fun w => sign_any a w
          have sC := fun w => sign_any c w
          rw [hX] at sA
          rw [hY] at sC
          have hXb : X = -1 ∧ a < 0 ∨ X = 0 ∧ a = 0 ∨ X = 1 ∧ 0 < a := by
            rcases Int.lt_trichotomy a 0 with h | h | h
            · exact .inl ⟨by rw [← hX]; exact Int.sign_eq_neg_one_of_neg h, h⟩
            · exact .inr (.inl ⟨by rw [← hX, h]; rfl, h⟩)
            · exact .inr (.inr ⟨by rw [← hX]; exact Int.sign_eq_one_of_pos h, h⟩)
          have hYb : Y = -1 ∧ c < 0 ∨ Y = 0 ∧ c = 0 ∨ Y = 1 ∧ 0 < c := by
            rcases Int.lt_trichotomy c 0 with h | h | h
            · exact .inl ⟨by rw [← hY]; exact Int.sign_eq_neg_one_of_neg h, h⟩
            · exact .inr (.inl ⟨by rw [← hY, h]; rfl, h⟩)
            · exact .inr (.inr ⟨by rw [← hY]; exact Int.sign_eq_one_of_pos h, h⟩)
          have hr : Hid ((a * d - c * b).sign = (X - Y).sign) := Lib.hid (cmp_mixed a b c d X Y hXb hYb (by omega) (by omega) hpp hnn)
          have hsd := fun w => sign_any (X - Y) w
          have g1 : -1 ≤ X := by omega
          have g2 : X ≤ 1 := by omega
          have g3 : -1 ≤ Y := by omega
          have g4 : Y ≤ 1 := by omega
          have hd : (X != Y) = true ∨ (X != Y) = false ∧ (X == 0) = true := by
            by_cases h : X = Y
            · right; simp; omega
            · left; simpa using h
          replace hsd := Lib.hid hsd
          replace sA := Lib.hid sA
          replace sC := Lib.hid sC
          clear bx bz hX hY hXb hYb hpp hnn
          rcases hd with hd | ⟨hd, hd2⟩
          all_goals
            go_enter Tryz.func59, Tryz.ntmps59
            go_wp2_with fail
            refine (okx.out _).mono ?_; rintro e w1 ⟨rfl, hb1⟩; obtain ⟨hc1, hf1⟩ := bat hb1 (w.heap.size + 2) (by simp)
            have s1 : w.heap.size + 2 ≤ w1.heap.size := by have := hb1.size; simp at this; omega
            go_wp2_with fail
            refine (oky.out _).mono ?_; rintro e w2 ⟨rfl, hb2⟩; obtain ⟨hc2, hf2⟩ := bat hb2 (w.heap.size + 2) s1
            go_wp2_with fail
            refine (sA.out _).mono ?_; rintro e w3 ⟨rfl, rfl⟩
            go_wp2_with fail
            refine (sC.out _).mono ?_; rintro e w3 ⟨rfl, rfl⟩
            go_wp2_with fail
            refine (hsd.out _).mono ?_; rintro e w3 ⟨rfl, rfl⟩
            go_wp2_with fail
            go_returns
            exact ⟨retInt (by rw [e1.out, hr.out]), ((by go_grown : Below w.heap.size w _).trans (hb1.mono (by simp; omega))).trans (hb2.mono (by omega))⟩
end Go.Proofs.YtdibfecejgjfmaaGreatDoor.Rt
