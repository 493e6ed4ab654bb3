/- The order of small fractions, in numbers; the law's own function small. -/
import Derived.Test.YtfofmblbcpliaaaRatV
set_option linter.unusedVariables false
namespace Go.Proofs.Ytfofmblbcpliaaa
open Go.RowKit CoRat

theorem sign_scale {A B k k' : Int} (hk : 0 < k) (hk' : 0 < k') (h : A * k = B * k') : A.sign = B.sign := by
  have h1 := congrArg Int.sign h
  rw [Int.sign_mul, Int.sign_mul, Int.sign_eq_one_of_pos hk, Int.sign_eq_one_of_pos hk', Int.mul_one, Int.mul_one] at h1
  exact h1
theorem Val.cmp {a b c d p q p' q' : Int} {k m k' m' : Nat} (h : Val a b p q k m) (h' : Val c d p' q' k' m') : cmpF a b c d = (p * q' - p' * q).sign := by
  obtain ⟨o1, e1, q1, d1, _, _⟩ := h
  obtain ⟨o2, e2, q2, d2, _, _⟩ := h'
  unfold cmpF
  rw [o1, o2]
  simp only [Bool.and_self, if_true]
  refine sign_scale (k := q * q') (k' := b * d) (Int.mul_pos q1 q2) (Int.mul_pos d1 d2) ?_
  grind
theorem order_math (xn xd yn yd zn zd p1 q1 p2 q2 p3 q3 : Int) (hx : Val xn xd p1 q1 20 12) (hy : Val yn yd p2 q2 20 12) (hz : Val zn zd p3 q3 20 12) :
    addE xn xd zn zd = 0 ∧ addE yn yd zn zd = 0 ∧ cmpF xn xd yn yd = -cmpF yn yd xn xd ∧
    cmpF (addN xn xd zn zd) (addD xn xd zn zd) (addN yn yd zn zd) (addD yn yd zn zd) = cmpF xn xd yn yd ∧
    (cmpF xn xd yn yd = 0 ↔ xn = yn ∧ xd = yd) ∧ flF xn xd * xd ≤ xn ∧ xn < (flF xn xd + 1) * xd ∧
    (0 < cmpF xn xd yn yd ∨ 0 < cmpF yn yd zn zd ∨ cmpF xn xd zn zd ≤ 0) ∧ -20 ≤ flF xn xd ∧ flF xn xd ≤ 20 := by
  have hM : M = 1152921504606846976 := rfl
  obtain ⟨s, e1⟩ := Val.add hx hz (by omega) (by omega)
  obtain ⟨t, e2⟩ := Val.add hy hz (by omega) (by omega)
  have hx' := hx
  have hy' := hy
  obtain ⟨o1, e3, q10, d1, n1, m1⟩ := hx'
  have q20 := hy.2.2.1
  have q30 := hz.2.2.1
  have hfl : flF xn xd = xn / xd := by unfold flF; rw [o1, if_pos rfl]
  rw [Val.cmp hx hy, Val.cmp hy hx, Val.cmp s t, Val.cmp hy hz, Val.cmp hx hz]
  have f1 := Int.mul_ediv_add_emod xn xd
  have f2 := Int.emod_nonneg xn (show xd ≠ 0 by omega)
  have f3 := Int.emod_lt_of_pos xn d1
  refine ⟨e1, e2, ?_, ?_, ?_, ?_, ?_, ?_, ?_, ?_⟩
  · rw [← Int.sign_neg]; congr 1; omega
  · exact sign_scale (k := 1) (k' := q3 * q3) (by omega) (Int.mul_pos q30 q30) (by grind)
  · rw [Int.sign_eq_zero_iff_zero]
    constructor
    · intro h; exact Val.inj hx hy (by omega)
    · rintro ⟨rfl, rfl⟩
      have := hy.2.1
      refine Int.eq_of_mul_eq_mul_right (show xd ≠ 0 by omega) ?_
      grind
  · rw [hfl, Int.mul_comm]; omega
  · rw [hfl, Int.add_mul, Int.one_mul, Int.mul_comm]; omega
  · by_cases h1 : 0 < (p1 * q2 - p2 * q1).sign
    · exact .inl h1
    · by_cases h2 : 0 < (p2 * q3 - p3 * q2).sign
      · exact .inr (.inl h2)
      · right; right
        have g1 : p1 * q2 - p2 * q1 ≤ 0 := by
          rcases Int.lt_or_le 0 (p1 * q2 - p2 * q1) with h | h
          · exact absurd (by rw [Int.sign_eq_one_of_pos h]; omega) h1
          · exact h
        have g2 : p2 * q3 - p3 * q2 ≤ 0 := by
          rcases Int.lt_or_le 0 (p2 * q3 - p3 * q2) with h | h
          · exact absurd (by rw [Int.sign_eq_one_of_pos h]; omega) h2
          · exact h
        have g3 : p1 * q3 - p3 * q1 ≤ 0 := by
          have k1 := Int.mul_le_mul_of_nonneg_right g1 (Int.le_of_lt q30)
          have k2 := Int.mul_le_mul_of_nonneg_right g2 (Int.le_of_lt q10)
          rcases Int.lt_or_le 0 (p1 * q3 - p3 * q1) with h | h
          · have k3 := Int.mul_pos h q20
            grind
          · exact h
        rcases Int.lt_or_eq_of_le g3 with h | h
        · rw [Int.sign_eq_neg_one_of_neg h]; omega
        · rw [h]; decide
  · rw [hfl]; exact Int.le_ediv_of_mul_le d1 (by omega)
  · rw [hfl]; exact Int.ediv_le_of_le_mul d1 (by omega)

set_option maxHeartbeats 1000000 in
theorem small_any (a b : Int) (w : World) :
    Calls Try.prog 17 #[.int .i64 a, .int .i64 b] w fun e w' => e = .returned (.agg #[.int .i64 (mkN (a % 41 - 20) (1 + b % 12)), .int .i64 (mkD (a % 41 - 20) (1 + b % 12))]) ∧ Below w.heap.size w w' := by
  have m1 := fun w => mod_any a 41 w (by omega) (by omega)
  have m2 := fun w => mod_any b 12 w (by omega) (by omega)
  have a0 := Int.emod_nonneg a (show (41 : Int) ≠ 0 by omega)
  have a1 := Int.emod_lt_of_pos a (show (0 : Int) < 41 by omega)
  have b0 := Int.emod_nonneg b (show (12 : Int) ≠ 0 by omega)
  have b1 := Int.emod_lt_of_pos b (show (0 : Int) < 12 by omega)
  generalize a % 41 = A at *
  generalize b % 12 = C at *
  have k := fun w => of_f (A - 20) (1 + C) w (by omega) (by omega) (by omega) (by omega)
  replace m1 := Lib.hid m1
  replace m2 := Lib.hid m2
  replace k := Lib.hid k
  go_enter Try.func17, Try.ntmps17
  go_wp2_with fail
  refine (m1.out _).mono ?_; rintro e w1 ⟨rfl, rfl⟩
  go_wp2_with fail
  refine (m2.out _).mono ?_; rintro e w1 ⟨rfl, rfl⟩
  go_wp2_with fail
  refine (k.out _).mono ?_; rintro e w1 ⟨rfl, hb⟩; obtain ⟨hc, hf⟩ := bat hb (w.heap.size + 1) (by simp)
  go_wp2_with fail
  refine bodyPost_ret (v := .agg #[.int .i64 (mkN (A - 20) (1 + C)), .int .i64 (mkD (A - 20) (1 + C))]) (by simp [results, Try.results17, go_sem, hc]) rfl ?_
  exact ⟨rfl, ((by go_grown : Below w.heap.size w _).trans (hb.mono (by simp))).trans (two_below (Below.refl _ _) (by have := hb.size; simp at this; omega) _ _)⟩
theorem small_val (a b : Int) : Val (mkN (a % 41 - 20) (1 + b % 12)) (mkD (a % 41 - 20) (1 + b % 12)) (a % 41 - 20) (1 + b % 12) 20 12 := by
  have hM : M = 1152921504606846976 := rfl
  exact Val.of_mk _ _ 20 12 (by omega) (by omega) (by omega) (by omega) (by omega)
end Go.Proofs.Ytfofmblbcpliaaa
