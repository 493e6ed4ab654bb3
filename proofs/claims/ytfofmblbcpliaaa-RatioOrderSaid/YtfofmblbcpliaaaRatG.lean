/- Floor, the sanity check awake, and RatioMakes. -/
import Derived.Test.YtfofmblbcpliaaaRefE
set_option linter.unusedVariables false
namespace Go.Proofs.Ytfofmblbcpliaaa
open Go.RowKit CoRat

def flF (n d : Int) : Int := if okF n d then n / d else 0
set_option maxHeartbeats 1000000 in
theorem floor_any (n d : Int) (w : World) :
    Calls Try.prog 20 #[.agg #[.int .i64 n, .int .i64 d]] w fun e w' => e = .returned (.int .i64 (flF n d)) ∧ Below w.heap.size w w' := by
  have va := fun w => valid_any n d w
  cases ho : okF n d
  · rw [ho] at va
    replace va := Lib.hid va
    replace ho := Lib.hid ho
    go_enter Try.func20, Try.ntmps20
    go_wp2_with fail
    refine (va.out _).mono ?_; rintro e w1 ⟨rfl, hb⟩
    go_wp2_with fail
    go_returns
    exact ⟨retInt (by unfold flF; rw [ho.out]; rfl), ((Below.refl _ _).alloc (Nat.le_refl _) _).trans (hb.mono (by simp))⟩
  · have hbd : -1152921504606846976 ≤ n ∧ n ≤ 1152921504606846976 ∧ 1 ≤ d ∧ d ≤ 1152921504606846976 := by
      unfold okF at ho; have := of_decide_eq_true ho; omega
    obtain ⟨h1, h2, h3, h4⟩ := hbd
    rw [ho] at va
    replace va := Lib.hid va
    replace ho := Lib.hid ho
    by_cases hn : n < 0
    · have q1 : n.tdiv d = -(-n / d) := by
        obtain ⟨m, hm⟩ := Int.eq_ofNat_of_zero_le (show 0 ≤ -n by omega)
        obtain rfl : n = -(m : Int) := by omega
        rw [Int.neg_tdiv, Int.tdiv_eq_ediv_of_nonneg (by omega), Int.neg_neg]
      have q2 : n.tmod d = -(-n % d) := by
        obtain ⟨m, hm⟩ := Int.eq_ofNat_of_zero_le (show 0 ≤ -n by omega)
        obtain rfl : n = -(m : Int) := by omega
        rw [Int.neg_tmod, Int.tmod_eq_emod_of_nonneg (by omega), Int.neg_neg]
      obtain ⟨Q, hQ⟩ : ∃ Q, -n / d = Q := ⟨_, rfl⟩
      obtain ⟨R, hR⟩ : ∃ R, -n % d = R := ⟨_, rfl⟩
      have hR0 : 0 ≤ R := hR ▸ Int.emod_nonneg _ (by omega)
      have hR1 : R < d := hR ▸ Int.emod_lt_of_pos _ (by omega)
      have hQ0 : 0 ≤ Q := hQ ▸ Int.ediv_nonneg (by omega) (by omega)
      have hQ1 : Q ≤ 1152921504606846976 := by
        have := Int.ediv_le_self d (show 0 ≤ -n by omega)
        omega
      have hfl : Hid (n / d = if R = 0 then -Q else -Q - 1) := Lib.hid (by
        have e1 := Int.mul_ediv_add_emod (-n) d
        rw [hQ, hR] at e1
        split
        · rename_i hz
          have : n = d * (-Q) := by rw [Int.mul_neg]; omega
          rw [this, Int.mul_ediv_cancel_left _ (by omega)]
        · rename_i hz
          have : n = (d - R) + d * (-Q - 1) := by rw [Int.mul_sub, Int.mul_neg]; omega
          rw [this, Int.add_mul_ediv_left _ _ (by omega), Int.ediv_eq_zero_of_lt (by omega) (by omega)]
          omega)
      rw [hQ] at q1
      rw [hR] at q2
      clear hQ hR
      by_cases hz : R = 0
      · have hz' : (-R != 0) = false := by simp [hz]
        have hz2 : (R != 0) = false := by simp [hz]
        replace hz := Lib.hid hz
        go_enter Try.func20, Try.ntmps20
        go_wp2_with fail
        refine (va.out _).mono ?_; rintro e w1 ⟨rfl, hb⟩; obtain ⟨hc, hf⟩ := bat hb (w.heap.size + 1) (by simp)
        go_wp2_with fail
        go_returns
        exact ⟨retInt (by unfold flF; rw [ho.out, if_pos rfl, hfl.out]; simp [hz.out]), ((Below.refl _ _).alloc (Nat.le_refl _) _).trans (hb.mono (by simp))⟩
      · have hz' : (-R != 0) = true := by simp; omega
        have hz2 : (R != 0) = true := by simp; omega
        replace hz := Lib.hid hz
        go_enter Try.func20, Try.ntmps20
        go_wp2_with fail
        refine (va.out _).mono ?_; rintro e w1 ⟨rfl, hb⟩; obtain ⟨hc, hf⟩ := bat hb (w.heap.size + 1) (by simp)
        go_wp2_with fail
        go_returns
        exact ⟨retInt (by unfold flF; rw [ho.out, if_pos rfl, hfl.out]; simp [hz.out]), ((Below.refl _ _).alloc (Nat.le_refl _) _).trans (hb.mono (by simp))⟩
    · have q1 : 0 ≤ n / d := Int.ediv_nonneg (by omega) (by omega)
      have q2 : n / d ≤ 1152921504606846976 := by
        have := Int.ediv_le_self d (show 0 ≤ n by omega)
        omega
      go_enter Try.func20, Try.ntmps20
      go_wp2_with fail
      refine (va.out _).mono ?_; rintro e w1 ⟨rfl, hb⟩; obtain ⟨hc, hf⟩ := bat hb (w.heap.size + 1) (by simp)
      go_wp2_with fail
      all_goals go_returns
      all_goals exact ⟨retInt (by unfold flF; rw [ho.out, if_pos rfl]), ((Below.refl _ _).alloc (Nat.le_refl _) _).trans (hb.mono (by simp))⟩

theorem mk64 : mkN 6 (-4) = -3 ∧ mkD 6 (-4) = 2 ∧ mkE 6 (-4) = 0 := by decide
theorem fl32 : flF (-3) 2 = -2 := by decide
theorem ok32 : okF (-3) 2 = true := by decide
set_option maxHeartbeats 1000000 in
theorem awake_any (w : World) :
    Calls Try.prog 12 #[] w fun e w' => e = .returned (.bool true) ∧ Below w.heap.size w w' := by
  have mk := fun w => make_any 6 (-4) w (by omega) (by omega) (by omega) (by omega)
  have fl := fun w => floor_any (-3) 2 w
  have ok := fun w => valid_any (-3) 2 w
  rw [mk64.1, mk64.2.1, mk64.2.2] at mk
  rw [fl32] at fl
  rw [ok32] at ok
  replace mk := Lib.hid mk
  replace fl := Lib.hid fl
  replace ok := Lib.hid ok
  go_enter Try.func12, Try.ntmps12
  go_wp2_with fail
  refine (mk.out _).mono ?_; rintro e w1 ⟨rfl, hb⟩
  go_wp2_with fail
  refine (fl.out _).mono ?_; rintro e w2 ⟨rfl, hb2⟩; obtain ⟨hc2, hf2⟩ := bat hb2 (w1.heap.size + 1) (by simp)
  go_wp2_with fail
  refine (ok.out _).mono ?_; rintro e w3 ⟨rfl, hb3⟩
  go_wp2_with fail
  go_returns
  exact ⟨rfl, (((hb.alloc hb.size _)).trans (hb2.mono (by have := hb.size; simp; omega))).trans (hb3.mono (by have := hb.size; have := hb2.size; simp at this; omega))⟩

set_option maxHeartbeats 1000000 in
theorem makes_any (n d a b : Int) (w : World) (a0 : -9223372036854775808 ≤ a) (a1 : a ≤ 9223372036854775807) (b0 : -9223372036854775808 ≤ b) (b1 : b ≤ 9223372036854775807) :
    Calls Try.prog 3 #[.agg #[.int .i64 n, .int .i64 d], .int .i64 a, .int .i64 b] w fun e w' => e = .returned (.bool true) ∧ Below w.heap.size w w' := by
  obtain ⟨X, hX⟩ : ∃ X, mkN a b = X := ⟨_, rfl⟩
  obtain ⟨Y, hY⟩ : ∃ Y, mkD a b = Y := ⟨_, rfl⟩
  obtain ⟨Z, hZ⟩ : ∃ Z, mkE a b = Z := ⟨_, rfl⟩
  have mk := fun w => make_any a b w a0 a1 b0 b1
  have rk := fun w => rmake_any a b w a0 a1 b0 b1
  rw [hX, hY, hZ] at mk rk
  clear hX hY hZ
  have ok := fun w => valid_any n d w
  have rok := fun w => rvalid_any n d w
  generalize okF n d = K at ok rok
  replace mk := Lib.hid mk
  replace rk := Lib.hid rk
  replace ok := Lib.hid ok
  replace rok := Lib.hid rok
  go_enter Try.func3, Try.ntmps3
  go_wp2_with fail
  refine (mk.out _).mono ?_; rintro e w1 ⟨rfl, hb⟩; obtain ⟨hc, hf⟩ := bat hb (w.heap.size + 1) (by simp)
  have s1 : w.heap.size + 1 ≤ w1.heap.size := by have := hb.size; simpa using this
  have s1' : w.heap.size < w1.heap.size := by omega
  go_wp2_with fail
  refine (rk.out _).mono ?_; rintro e w2 ⟨rfl, hb2⟩; obtain ⟨hc2, hf2⟩ := bat hb2 (w.heap.size + 1) (by simp; omega)
  obtain ⟨hd2, hg2⟩ := bat hb2 (w1.heap.size + 1) (by simp)
  have s2 : w1.heap.size + 1 ≤ w2.heap.size := by have := hb2.size; simpa using this
  have s2' : w1.heap.size < w2.heap.size := by omega
  have s2'' : w.heap.size < w2.heap.size := by omega
  have b2 : Below w.heap.size w w2 := (((by go_grown : Below w.heap.size w _).trans (hb.mono (by simp))).alloc (by omega) _).trans (hb2.mono (by simp; omega))
  go_wp2_with fail
  go_region_with (first | (go_at_call 10; (with_reducible refine (ok.out _).mono ?_); rintro e w3 ⟨rfl, hb3⟩; obtain ⟨hc3, hf3⟩ := bat hb3 (w.heap.size + 1) (by simp; omega)) | (go_at_call 11; (with_reducible refine (rok.out _).mono ?_); rintro e w4 ⟨rfl, hb4⟩) | (go_at_call 12; (with_reducible refine (awake_any _).mono ?_); rintro e w5 ⟨rfl, hb5⟩))
  all_goals go_wp2_with fail
  all_goals go_returns
  all_goals
    have s3 := hb3.size
    have s4 := hb4.size
    simp at s3
    exact ⟨rfl, (((b2.alloc (by omega) _).drew.trans (hb3.mono (by simp; omega))).trans (hb4.mono (by omega))).trans (hb5.mono (by omega))⟩
end Go.Proofs.Ytfofmblbcpliaaa
