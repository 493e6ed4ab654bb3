/- RatioLimits returns true for every three integers. -/
import Derived.Test.YtfofmblbcpliaaaRatN
set_option linter.unusedVariables false
namespace Go.Proofs.Ytfofmblbcpliaaa.Rt
open Go.RowKit CoRat

theorem q_nat (a b c d : Nat) : qN a b c d = redN false (a * b) (c * d) ∧ qD a b c d = redD (a * b) (c * d) ∧ qE a b c d = redE (a * b) (c * d) := by
  unfold qN qD qE
  rw [decide_eq_false (by omega : ¬ ((a : Int) < 0)), decide_eq_false (by omega : ¬ ((b : Int) < 0)), decide_eq_false (by omega : ¬ ((c : Int) < 0)), decide_eq_false (by omega : ¬ ((d : Int) < 0))]
  exact ⟨rfl, rfl, rfl⟩

/-- The numbers of RatioLimits: what the three fractions and the products come to. -/
theorem limits_math (b p q : Nat) (hb1 : 1152921504606746977 ≤ b) (hb2 : b ≤ M) (hp1 : 1 ≤ p) (hp2 : p ≤ 1000) (hq1 : 1 ≤ q) (hq2 : q ≤ 1000) :
    mkE b p = 0 ∧ mkE q b = 0 ∧
    mulN (mkN b p) (mkD b p) (mkN q b) (mkD q b) = mkN q p ∧ mulD (mkN b p) (mkD b p) (mkN q b) (mkD q b) = mkD q p ∧ mulE (mkN b p) (mkD b p) (mkN q b) (mkD q b) = 0 ∧
    divN (mkN b p) (mkD b p) (mkN b p) (mkD b p) = 1 ∧ divD (mkN b p) (mkD b p) (mkN b p) (mkD b p) = 1 ∧ divE (mkN b p) (mkD b p) (mkN b p) (mkD b p) = 0 ∧
    mulE (mkN b 1) (mkD b 1) (mkN ((2 + p : Nat) : Int) 1) (mkD ((2 + p : Nat) : Int) 1) = 3 := by
  have hM : M = 1152921504606846976 := rfl
  obtain ⟨x1, x2, x3⟩ := mk_small (a := b) (b := p) (by omega) hb2 (by omega)
  obtain ⟨y1, y2, y3⟩ := mk_small (a := q) (b := b) (by omega) (by omega) hb2
  obtain ⟨z1, z2, z3⟩ := mk_small (a := q) (b := p) (by omega) (by omega) (by omega)
  obtain ⟨u1, u2, u3⟩ := mk_small (a := b) (b := 1) (by omega) hb2 (by omega)
  obtain ⟨v1, v2, v3⟩ := mk_small (a := 2 + p) (b := 1) (by omega) (by omega) (by omega)
  have ox := ok_small (a := b) (b := p) (by omega) hb2 (by omega)
  have oy := ok_small (a := q) (b := b) (by omega) (by omega) hb2
  have ou := ok_small (a := b) (b := 1) (by omega) hb2 (by omega)
  have ov := ok_small (a := 2 + p) (b := 1) (by omega) (by omega) (by omega)
  have g1 : 0 < Nat.gcd b p := Nat.gcd_pos_of_pos_right b (by omega)
  have g2 : 0 < Nat.gcd q b := Nat.gcd_pos_of_pos_right q (by omega)
  have e1 : b / Nat.gcd b p * Nat.gcd b p = b := Nat.div_mul_cancel (Nat.gcd_dvd_left b p)
  have e2 : p / Nat.gcd b p * Nat.gcd b p = p := Nat.div_mul_cancel (Nat.gcd_dvd_right b p)
  have e3 : q / Nat.gcd q b * Nat.gcd q b = q := Nat.div_mul_cancel (Nat.gcd_dvd_left q b)
  have e4 : b / Nat.gcd q b * Nat.gcd q b = b := Nat.div_mul_cancel (Nat.gcd_dvd_right q b)
  have u1' : mkN (b : Int) 1 = ((b / Nat.gcd b 1 : Nat) : Int) := u1
  have u2' : mkD (b : Int) 1 = ((1 / Nat.gcd b 1 : Nat) : Int) := u2
  have v1' : mkN ((2 + p : Nat) : Int) 1 = (((2 + p) / Nat.gcd (2 + p) 1 : Nat) : Int) := v1
  have v2' : mkD ((2 + p : Nat) : Int) 1 = ((1 / Nat.gcd (2 + p) 1 : Nat) : Int) := v2
  rw [x1, x2, x3, y1, y2, y3, z1, z2, u1', u2', v1', v2']
  unfold mulN mulD mulE divN divD divE
  rw [ox, oy, ou, ov]
  rw [Nat.gcd_one_right, Nat.gcd_one_right, Nat.div_one, Nat.div_one, Nat.div_one]
  generalize b / Nat.gcd b p = XN at *
  generalize p / Nat.gcd b p = XD at *
  generalize q / Nat.gcd q b = YN at *
  generalize b / Nat.gcd q b = YD at *
  have XN0 : 0 < XN := by rcases Nat.eq_zero_or_pos XN with z | z; (rw [z, Nat.zero_mul] at e1; omega); exact z
  have XD0 : 0 < XD := by rcases Nat.eq_zero_or_pos XD with z | z; (rw [z, Nat.zero_mul] at e2; omega); exact z
  have YD0 : 0 < YD := by rcases Nat.eq_zero_or_pos YD with z | z; (rw [z, Nat.zero_mul] at e4; omega); exact z
  have hne : ¬ ((XN : Int) = 0) := by omega
  obtain ⟨m1, m2, m3⟩ := q_nat XN YN XD YD
  obtain ⟨d1, d2, d3⟩ := q_nat XN XD XD XN
  obtain ⟨l1, l2, l3⟩ := q_nat b (2 + p) 1 1
  obtain ⟨r1, r2, r3⟩ := red_eq (u := XN * YN) (v := XD * YD) (u' := q) (v' := p) (Nat.mul_pos XD0 YD0) (by omega) (by
    conv => lhs; rw [← e2]
    conv => rhs; rw [← e3]
    have h1 : XN * YN * (XD * Nat.gcd b p) = XN * Nat.gcd b p * (YN * XD) := by
      rw [Nat.mul_comm XD, Nat.mul_mul_mul_comm]
    have h2 : YN * Nat.gcd q b * (XD * YD) = YD * Nat.gcd q b * (YN * XD) := by
      rw [Nat.mul_comm XD YD, Nat.mul_comm YN (Nat.gcd q b), Nat.mul_mul_mul_comm, Nat.mul_comm (Nat.gcd q b) YD]
    rw [h1, h2, e1, e4]) false
  obtain ⟨s1, s2, s3⟩ := red_eq (u := XN * XD) (v := XD * XN) (u' := 1) (v' := 1) (Nat.mul_pos XD0 XN0) (by omega) (by rw [Nat.mul_one, Nat.one_mul, Nat.mul_comm]) false
  obtain ⟨w1, w2, w3⟩ := red_small (u := q) (v := p) (by omega) (by omega) (by omega)
  have hf : redE (b * (2 + p)) (1 * 1) = 3 := by
    have : fits (b * (2 + p)) (1 * 1) = false := by
      unfold fits
      rw [Nat.mul_one, Nat.gcd_one_right, Nat.div_one, decide_eq_false_iff_not, Nat.mul_add]
      omega
    unfold redE
    rw [this]; rfl
  simp only [Bool.and_self, if_true, if_neg hne]
  rw [m1, m2, m3, d1, d2, d3, r1, r2, r3, s1, s2, s3, w1, w2, w3]
  exact ⟨trivial, trivial, rfl, rfl, rfl, by decide, by decide, by decide, l3.trans hf⟩

set_option maxHeartbeats 2000000 in
theorem limits_any (a b k : Int) (w : World) :
    Calls Try.prog 4 #[.int .i64 a, .int .i64 b, .int .i64 k] w fun e w' => e = .returned (.bool true) ∧ Below w.heap.size w w' := by
  obtain ⟨A, hA⟩ := Int.eq_ofNat_of_zero_le (Int.emod_nonneg a (show (1000 : Int) ≠ 0 by omega))
  obtain ⟨C, hC⟩ := Int.eq_ofNat_of_zero_le (Int.emod_nonneg b (show (1000 : Int) ≠ 0 by omega))
  obtain ⟨K, hK⟩ := Int.eq_ofNat_of_zero_le (Int.emod_nonneg k (show (100000 : Int) ≠ 0 by omega))
  have A1 : (A : Int) ≤ 999 := by have := Int.emod_lt_of_pos a (show (0 : Int) < 1000 by omega); omega
  have C1 : (C : Int) ≤ 999 := by have := Int.emod_lt_of_pos b (show (0 : Int) < 1000 by omega); omega
  have K1 : (K : Int) ≤ 99999 := by have := Int.emod_lt_of_pos k (show (0 : Int) < 100000 by omega); omega
  have hM : M = 1152921504606846976 := rfl
  obtain ⟨m1, m2, m3, m4, m5, m6, m7, m8, m9⟩ := limits_math (1152921504606846976 - K) (1 + A) (1 + C) (by omega) (by omega) (by omega) (by omega) (by omega) (by omega)
  have cb : ((1152921504606846976 - K : Nat) : Int) = 1152921504606846976 - (K : Int) := by omega
  have cp : ((1 + A : Nat) : Int) = 1 + (A : Int) := by omega
  have cq : ((1 + C : Nat) : Int) = 1 + (C : Int) := by omega
  have cr : ((2 + (1 + A) : Nat) : Int) = 2 + (1 + (A : Int)) := by omega
  rw [cb, cp] at m1
  rw [cb, cq] at m2
  rw [cb, cp, cq] at m3 m4 m5
  rw [cb, cp] at m6 m7 m8
  rw [cb, cr] at m9
  have moA := fun w => mod_any a 1000 w (by omega) (by omega)
  have moC := fun w => mod_any b 1000 w (by omega) (by omega)
  have moK := fun w => mod_any k 100000 w (by omega) (by omega)
  rw [hA] at moA
  rw [hC] at moC
  rw [hK] at moK
  clear hA hC hK
  have k1 := fun w => make_any (1152921504606846976 - (K : Int)) (1 + (A : Int)) w (by omega) (by omega) (by omega) (by omega)
  have k2 := fun w => make_any (1 + (C : Int)) (1152921504606846976 - (K : Int)) w (by omega) (by omega) (by omega) (by omega)
  rw [m1] at k1
  rw [m2] at k2
  have k3 := fun w => mul_any (mkN (1152921504606846976 - (K : Int)) (1 + (A : Int))) (mkD (1152921504606846976 - (K : Int)) (1 + (A : Int))) (mkN (1 + (C : Int)) (1152921504606846976 - (K : Int))) (mkD (1 + (C : Int)) (1152921504606846976 - (K : Int))) w
  have k4 := fun w => div_any (mkN (1152921504606846976 - (K : Int)) (1 + (A : Int))) (mkD (1152921504606846976 - (K : Int)) (1 + (A : Int))) (mkN (1152921504606846976 - (K : Int)) (1 + (A : Int))) (mkD (1152921504606846976 - (K : Int)) (1 + (A : Int))) w
  rw [m3, m4, m5] at k3
  rw [m6, m7, m8] at k4
  have k5 := fun w => of_f (1152921504606846976 - (K : Int)) 1 w (by omega) (by omega) (by omega) (by omega)
  have k6 := fun w => of_f (2 + (1 + (A : Int))) 1 w (by omega) (by omega) (by omega) (by omega)
  have k7 := fun w => mul_any (mkN (1152921504606846976 - (K : Int)) 1) (mkD (1152921504606846976 - (K : Int)) 1) (mkN (2 + (1 + (A : Int))) 1) (mkD (2 + (1 + (A : Int))) 1) w
  rw [m9] at k7
  have k8 := fun w => of_f (1 + (C : Int)) (1 + (A : Int)) w (by omega) (by omega) (by omega) (by omega)
  clear m1 m2 m3 m4 m5 m6 m7 m8 m9 cb cp cq cr hM
  replace moA := Lib.hid moA
  replace moC := Lib.hid moC
  replace moK := Lib.hid moK
  replace k1 := Lib.hid k1
  replace k2 := Lib.hid k2
  replace k3 := Lib.hid k3
  replace k4 := Lib.hid k4
  replace k5 := Lib.hid k5
  replace k6 := Lib.hid k6
  replace k7 := Lib.hid k7
  replace k8 := Lib.hid k8
  go_enter Try.func4, Try.ntmps4
  go_wp2_with fail
  refine (moA.out _).mono ?_; rintro e w1 ⟨rfl, rfl⟩
  go_wp2_with fail
  refine (moC.out _).mono ?_; rintro e w1 ⟨rfl, rfl⟩
  go_wp2_with fail
  refine (moK.out _).mono ?_; rintro e w1 ⟨rfl, rfl⟩
  go_wp2_with fail
  refine (k1.out _).mono ?_; rintro e w1 ⟨rfl, hb1⟩
  have s1 := hb1.size
  go_wp2_with fail
  refine (k2.out _).mono ?_; rintro e w2 ⟨rfl, hb2⟩; obtain ⟨hc2, hf2⟩ := bat hb2 (w1.heap.size + 1) (by simp)
  have s2 : w1.heap.size < w2.heap.size := by have := hb2.size; simp at this; omega
  go_wp2_with fail
  refine (k3.out _).mono ?_; rintro e w3 ⟨rfl, hb3⟩; obtain ⟨hc3, hf3⟩ := bat hb3 (w2.heap.size + 1) (by simp)
  have s3 : w2.heap.size < w3.heap.size := by have := hb3.size; simp at this; omega
  have s13 : w1.heap.size < w3.heap.size := by omega
  have x0 : w3.cell? ⟨w1.heap.size, 0, none⟩ = some (.int .i64 (mkN (1152921504606846976 - (K : Int)) (1 + (A : Int)))) := by rw [hc3 _ _ (by omega), World.cell?_alloc_past _ _ _ s2, hc2 _ _ (by omega)]; go_simp
  have x1 : w3.cell? ⟨w1.heap.size, 1, none⟩ = some (.int .i64 (mkD (1152921504606846976 - (K : Int)) (1 + (A : Int)))) := by rw [hc3 _ _ (by omega), World.cell?_alloc_past _ _ _ s2, hc2 _ _ (by omega)]; go_simp
  have b3 : Below w.heap.size w w3 := (((hb1.alloc s1 _).trans (hb2.mono (by simp; omega))).alloc (by omega) _).trans (hb3.mono (by simp; omega))
  clear hc2 hf2 hc3 hf3 hb1 hb2 hb3
  go_wp2_with fail
  refine (k4.out _).mono ?_; rintro e w4 ⟨rfl, hb4⟩; obtain ⟨hc4, hf4⟩ := bat hb4 (w3.heap.size + 1) (by simp)
  have s4 : w3.heap.size < w4.heap.size := by have := hb4.size; simp at this; omega
  have z0 : w4.cell? ⟨w3.heap.size, 0, none⟩ = some (.int .i64 (mkN (1 + (C : Int)) (1 + (A : Int)))) := by rw [hc4 _ _ (by omega)]; go_simp
  have z1 : w4.cell? ⟨w3.heap.size, 1, none⟩ = some (.int .i64 (mkD (1 + (C : Int)) (1 + (A : Int)))) := by rw [hc4 _ _ (by omega)]; go_simp
  have b4 : Below w.heap.size w w4 := (b3.alloc (by omega) _).trans (hb4.mono (by simp; omega))
  clear hc4 hf4 hb4 x0 x1
  go_wp2_with fail
  refine (k5.out _).mono ?_; rintro e w5 ⟨rfl, hb5⟩; obtain ⟨hc5, hf5⟩ := bat hb5 (w4.heap.size + 1) (by simp)
  have s5 : w4.heap.size < w5.heap.size := by have := hb5.size; simp at this; omega
  have b5 : Below w.heap.size w w5 := (b4.alloc (by omega) _).trans (hb5.mono (by simp; omega))
  have v0 : w5.cell? ⟨w4.heap.size, 0, none⟩ = some (.int .i64 1) := by rw [hc5 _ _ (by omega)]; go_simp
  have v1 : w5.cell? ⟨w4.heap.size, 1, none⟩ = some (.int .i64 1) := by rw [hc5 _ _ (by omega)]; go_simp
  have z05 : w5.cell? ⟨w3.heap.size, 0, none⟩ = some (.int .i64 (mkN (1 + (C : Int)) (1 + (A : Int)))) := by rw [hc5 _ _ (by omega), World.cell?_alloc_past _ _ _ s4, z0]
  have z15 : w5.cell? ⟨w3.heap.size, 1, none⟩ = some (.int .i64 (mkD (1 + (C : Int)) (1 + (A : Int)))) := by rw [hc5 _ _ (by omega), World.cell?_alloc_past _ _ _ s4, z1]
  clear hc5 hf5 hb5 z0 z1
  go_wp2_with fail
  refine (k6.out _).mono ?_; rintro e w6 ⟨rfl, hb6⟩
  go_wp2_with fail
  refine (k7.out _).mono ?_; rintro e w7 ⟨rfl, hb7⟩
  have s7 : w4.heap.size < w7.heap.size := by have := hb6.size; have := hb7.size; omega
  have s37 : w3.heap.size < w7.heap.size := by omega
  obtain ⟨hc6, hf6⟩ := bat hb6 (w4.heap.size + 1) (by omega)
  obtain ⟨hc7, hf7⟩ := bat hb7 (w4.heap.size + 1) (by have := hb6.size; omega)
  have v07 : w7.cell? ⟨w4.heap.size, 0, none⟩ = some (.int .i64 1) := by rw [hc7 _ _ (by omega), hc6 _ _ (by omega), v0]
  have v17 : w7.cell? ⟨w4.heap.size, 1, none⟩ = some (.int .i64 1) := by rw [hc7 _ _ (by omega), hc6 _ _ (by omega), v1]
  have z07 : w7.cell? ⟨w3.heap.size, 0, none⟩ = some (.int .i64 (mkN (1 + (C : Int)) (1 + (A : Int)))) := by rw [hc7 _ _ (by omega), hc6 _ _ (by omega), z05]
  have z17 : w7.cell? ⟨w3.heap.size, 1, none⟩ = some (.int .i64 (mkD (1 + (C : Int)) (1 + (A : Int)))) := by rw [hc7 _ _ (by omega), hc6 _ _ (by omega), z15]
  have b7 : Below w.heap.size w w7 := (b5.trans (hb6.mono (by omega))).trans (hb7.mono (by have := hb6.size; omega))
  clear hc6 hf6 hc7 hf7 hb6 hb7 v0 v1 z05 z15 b3 b4 b5
  go_wp2_with fail
  go_region_held3 (fun w' => w'.cell? ⟨w3.heap.size, 0, none⟩ = some (.int .i64 (mkN (1 + (C : Int)) (1 + (A : Int)))) ∧ w'.cell? ⟨w3.heap.size, 1, none⟩ = some (.int .i64 (mkD (1 + (C : Int)) (1 + (A : Int)))) ∧ w'.cell? ⟨w4.heap.size, 0, none⟩ = some (.int .i64 1) ∧ w'.cell? ⟨w4.heap.size, 1, none⟩ = some (.int .i64 1))
    ((first | (go_split_ands; refine ⟨?_, ?_, ?_, ?_⟩ <;> (rw [hc8 _ _ (by omega)]; assumption)) | (go_split_ands; refine ⟨?_, ?_, ?_, ?_⟩ <;> (rw [hc9 _ _ (by omega), hc8 _ _ (by omega)]; assumption)) | (go_split_ands; refine ⟨?_, ?_, ?_, ?_⟩ <;> (rw [hc9 _ _ (by omega)]; assumption)) | ((repeat' apply And.intro) <;> (go_keep; done))))
    (first | (go_at_call 16; (with_reducible refine (k8.out _).mono ?_); rintro e w8 ⟨rfl, hb8⟩; obtain ⟨hc8, hf8⟩ := bat hb8 (w4.heap.size + 1) (by simp; omega); have t8 : w7.heap.size + 1 ≤ w8.heap.size := (by have := hb8.size; simpa using this)) | (go_at_call 12; (with_reducible refine (awake_any _).mono ?_); rintro e w9 ⟨rfl, hb9⟩; obtain ⟨hc9, hf9⟩ := bat hb9 (w4.heap.size + 1) (by omega)))
  all_goals go_wp2_with fail
  all_goals go_returns
  all_goals
    exact ⟨rfl, ((b7.alloc (by omega) _).drew.trans (hb8.mono (by simp; omega))).trans (hb9.mono (by omega))⟩
end Go.Proofs.Ytfofmblbcpliaaa.Rt
