/- Mul64, Of, Product, Negative, Plus, Minus of package wide. -/
import Derived.Test.YticekkjambkifaaDoorRatC
set_option linter.unusedVariables false
namespace Go.Proofs.YticekkjambkifaaDoor.Rt
open Go.RowKit CoRat

theorem retUU {a b c d : Int} (h : a = b) (h' : c = d) : Ending.returned (.tuple #[.int .u64 a, .int .u64 c]) = .returned (.tuple #[.int .u64 b, .int .u64 d]) := by rw [h, h']
theorem and_mask32 (x : Int) (hx0 : 0 ≤ x) (hx1 : x ≤ 18446744073709551615) : bits .and .u64 x 4294967295 = x % 4294967296 := by
  rw [u64_and x _ hx0 (by omega) (by omega) (by omega)]
  show ((x.toNat &&& 4294967295 : Nat) : Int) = _
  have := Nat.and_two_pow_sub_one_eq_mod x.toNat 32
  rw [show (2:Nat) ^ 32 - 1 = 4294967295 from by decide, show (2:Nat) ^ 32 = 4294967296 from by decide] at this
  rw [this]; omega
theorem mul_bd {a b : Int} (ha0 : 0 ≤ a) (ha : a ≤ 4294967295) (hb0 : 0 ≤ b) (hb : b ≤ 4294967295) : 0 ≤ a * b ∧ a * b ≤ 18446744065119617025 := by
  have h1 := Int.mul_nonneg ha0 hb0
  have h2 : a * b ≤ 4294967295 * b := Int.mul_le_mul_of_nonneg_right ha hb0
  omega
/-- The product of two words, by their halves. -/
theorem mul_split (x y : Int) : x * y = x / 4294967296 * (y / 4294967296) * 18446744073709551616 + (x / 4294967296 * (y % 4294967296) + x % 4294967296 * (y / 4294967296)) * 4294967296 + x % 4294967296 * (y % 4294967296) := by
  have e1 : x = x / 4294967296 * 4294967296 + x % 4294967296 := by omega
  have e2 : y = y / 4294967296 * 4294967296 + y % 4294967296 := by omega
  generalize x / 4294967296 = a at *
  generalize x % 4294967296 = b at *
  generalize y / 4294967296 = c at *
  generalize y % 4294967296 = d at *
  subst e1; subst e2
  rw [Int.add_mul, Int.mul_add, Int.mul_add]
  have f1 : a * 4294967296 * (c * 4294967296) = a * c * 18446744073709551616 := by
    rw [Int.mul_assoc, Int.mul_left_comm 4294967296 c, ← Int.mul_assoc]
    rfl
  have f2 : a * 4294967296 * d = a * d * 4294967296 := by rw [Int.mul_assoc, Int.mul_comm 4294967296 d, ← Int.mul_assoc]
  have f3 : b * (c * 4294967296) = b * c * 4294967296 := by rw [← Int.mul_assoc]
  rw [f1, f2, f3]; omega
theorem prod_lt (a b : Nat) (ha : a ≤ 18446744073709551615) (hb : b ≤ 18446744073709551615) : a * b < B := by
  have h1 : a * b ≤ 18446744073709551615 * b := Nat.mul_le_mul_right _ ha
  unfold B; omega

theorem mul_hi (x y : Nat) (h1 : x ≤ 18446744073709551615) (l1 : y ≤ 18446744073709551615)
    (m3 : bits .and .u64 ((x : Int) / 4294967296 * ((y : Int) % 4294967296) + ((x : Int) % 4294967296 * ((y : Int) % 4294967296)) / 4294967296) 4294967295 = ((x : Int) / 4294967296 * ((y : Int) % 4294967296) + ((x : Int) % 4294967296 * ((y : Int) % 4294967296)) / 4294967296) % 4294967296) :
    IntKind.u64.wrap ((x : Int) / 4294967296 * ((y : Int) / 4294967296) + ((x : Int) / 4294967296 * ((y : Int) % 4294967296) + (x : Int) % 4294967296 * ((y : Int) % 4294967296) / 4294967296) / 4294967296 +
      IntKind.u64.wrap (bits .and .u64 ((x : Int) / 4294967296 * ((y : Int) % 4294967296) + (x : Int) % 4294967296 * ((y : Int) % 4294967296) / 4294967296) 4294967295 + (x : Int) % 4294967296 * ((y : Int) / 4294967296)) / 4294967296) = hi (x * y) := by
  have b1 := mul_bd (a := (x : Int) / 4294967296) (b := (y : Int) / 4294967296) (by omega) (by omega) (by omega) (by omega)
  have b2 := mul_bd (a := (x : Int) / 4294967296) (b := (y : Int) % 4294967296) (by omega) (by omega) (by omega) (by omega)
  have b3 := mul_bd (a := (x : Int) % 4294967296) (b := (y : Int) / 4294967296) (by omega) (by omega) (by omega) (by omega)
  have b4 := mul_bd (a := (x : Int) % 4294967296) (b := (y : Int) % 4294967296) (by omega) (by omega) (by omega) (by omega)
  have hs := mul_split x y
  rw [m3]
  simp only [IntKind.wrap_u64]
  clear m3
  refine hi_of (l := (x : Int) * y % 18446744073709551616) ?_ ?_ (by omega) (by omega)
  · rw [Int.natCast_mul]
    generalize (x : Int) * y = z at *
    generalize (x : Int) / 4294967296 * ((y : Int) / 4294967296) = p1 at *
    generalize (x : Int) / 4294967296 * ((y : Int) % 4294967296) = p2 at *
    generalize (x : Int) % 4294967296 * ((y : Int) / 4294967296) = p3 at *
    generalize (x : Int) % 4294967296 * ((y : Int) % 4294967296) = p4 at *
    omega
  · omega
theorem mul_lo (x y : Nat) : IntKind.u64.wrap ((x : Int) * (y : Int)) = lo (x * y) := by
  rw [IntKind.wrap_u64]; unfold lo; rw [← Int.natCast_mul]; omega
set_option maxHeartbeats 400000 in
theorem mul64_any (x y : Nat) (w : World) (h1 : x ≤ 18446744073709551615) (l1 : y ≤ 18446744073709551615) :
    Calls Tryd.prog 115 #[.int .u64 x, .int .u64 y] w fun e w' => e = .returned (.tuple #[.int .u64 (hi (x * y)), .int .u64 (lo (x * y))]) ∧ w = w' := by
  have g1 : (x : Int) ≤ 18446744073709551615 := by omega
  have g2 : (y : Int) ≤ 18446744073709551615 := by omega
  have m1 := and_mask32 x (by omega) g1
  have m2 := and_mask32 y (by omega) g2
  have b1 := mul_bd (a := (x : Int) / 4294967296) (b := (y : Int) / 4294967296) (by omega) (by omega) (by omega) (by omega)
  have b2 := mul_bd (a := (x : Int) / 4294967296) (b := (y : Int) % 4294967296) (by omega) (by omega) (by omega) (by omega)
  have b3 := mul_bd (a := (x : Int) % 4294967296) (b := (y : Int) / 4294967296) (by omega) (by omega) (by omega) (by omega)
  have b4 := mul_bd (a := (x : Int) % 4294967296) (b := (y : Int) % 4294967296) (by omega) (by omega) (by omega) (by omega)
  have m3 := and_mask32 ((x : Int) / 4294967296 * ((y : Int) % 4294967296) + ((x : Int) % 4294967296 * ((y : Int) % 4294967296)) / 4294967296) (by omega) (by omega)
  replace m3 := Lib.hid m3
  go_enter Tryd.func115, Tryd.ntmps115
  go_wp2
  go_ret2
  exact ⟨retUU (mul_hi x y h1 l1 m3.out) (mul_lo x y), rfl⟩
set_option maxHeartbeats 400000 in
theorem size_any (n : Int) (w : World) (h0 : -9223372036854775808 ≤ n) (h1 : n ≤ 9223372036854775807) :
    Calls Tryd.prog 128 #[.int .i64 n] w fun e w' => e = .returned (.int .u64 (n.natAbs : Int)) ∧ w = w' := by
  go_enter Tryd.func128, Tryd.ntmps128
  go_wp2
  all_goals go_returns
  all_goals refine ⟨retInt ?_, rfl⟩
  · rw [IntKind.wrap_u64]; unfold wrap64; omega
  · omega
set_option maxHeartbeats 400000 in
theorem negative_any (h l : Int) (n : Bool) (u : Nat) (w : World) (x : W h l u) (hu : u < B) :
    Calls Tryd.prog 127 #[.agg #[.int .u64 h, .int .u64 l, .bool n]] w fun e w' => e = .returned (.bool (n && decide (u ≠ 0))) ∧ Below w.heap.size w w' := by
  cases n
  · go_enter Tryd.func127, Tryd.ntmps127
    go_wp2_with fail
    go_returns
    exact ⟨rfl, by go_grown⟩
  · go_enter Tryd.func127, Tryd.ntmps127
    go_wp2_with fail
    refine (zero_any _ _ _ u _ x hu).mono ?_; rintro e w1 ⟨rfl, hb⟩
    go_wp2_with fail
    go_returns
    exact ⟨retBool (by simp), (by go_grown : Below w.heap.size w _).trans (hb.mono (by simp))⟩
set_option maxHeartbeats 400000 in
theorem of_any (n : Int) (w : World) (h0 : -9223372036854775808 ≤ n) (h1 : n ≤ 9223372036854775807) :
    Calls Tryd.prog 101 #[.int .i64 n] w fun e w' => e = .returned (.agg #[.int .u64 (hi n.natAbs), .int .u64 (lo n.natAbs), .bool (decide (n < 0))]) ∧ Below w.heap.size w w' := by
  have e1 : Hid (hi n.natAbs = 0) := Lib.hid (by unfold CoRat.hi; omega)
  have e2 : Hid (lo n.natAbs = (n.natAbs : Int)) := Lib.hid (by unfold lo; omega)
  go_enter Tryd.func101, Tryd.ntmps101
  go_wp2_with fail
  refine (size_any n _ h0 h1).mono ?_; rintro e w1 ⟨rfl, rfl⟩
  go_wp2_with fail
  go_returns
  exact ⟨retNum _ e1.out.symm e2.out.symm, by go_grown⟩

/-- The size and the sign of a sum, by the sizes and signs of two numbers. -/
def psz (u v : Nat) (m n : Bool) : Nat := if m = n then u + v else if u < v then v - u else u - v
def psg (u v : Nat) (m n : Bool) : Bool := if m = n then m else if u < v then n else m
theorem retNum' {a b c d : Int} {n m : Bool} (h : a = c) (h' : b = d) (h'' : n = m) : Ending.returned (.agg #[.int .u64 a, .int .u64 b, .bool n]) = .returned (.agg #[.int .u64 c, .int .u64 d, .bool m]) := by rw [h, h', h'']
end Go.Proofs.YticekkjambkifaaDoor.Rt

namespace Go.Proofs.YticekkjambkifaaDoor.Rt
open Go.RowKit CoRat

theorem retF {a b c a' b' c' : Int} (h : a = a') (h2 : b = b') (h3 : c = c') : Ending.returned (.tuple #[.agg #[.int .i64 a, .int .i64 b], .int .i64 c]) = .returned (.tuple #[.agg #[.int .i64 a', .int .i64 b'], .int .i64 c']) := by rw [h, h2, h3]
theorem put2_below {n : Nat} {w w' : World} (h : Below n w w') {g : Nat} (hg : n ≤ g) (a b : Value) : Below n w ((w'.setCell ⟨g, 0, none⟩ a).setCell ⟨g, 1, none⟩ b) :=
  (h.setCell (p := ⟨g, 0, none⟩) hg _).setCell (p := ⟨g, 1, none⟩) hg _

set_option maxHeartbeats 400000 in
theorem checked_any (n d : Int) (w : World) :
    Calls Tryd.prog 124 #[.agg #[.int .i64 n, .int .i64 d]] w fun e w' => e = .returned (.tuple #[.agg #[.int .i64 (ckN n d), .int .i64 (ckD n d)], .int .i64 (ckE n d)]) ∧ Below w.heap.size w w' := by
  by_cases h : -1152921504606846976 ≤ n ∧ n ≤ 1152921504606846976
  · have h' : decide (-1152921504606846976 ≤ n ∧ n ≤ 1152921504606846976) = true := by simpa using h
    replace h := Lib.hid h
    have hw := fun w => within_any n 1152921504606846976 w (by omega) (by omega)
    rw [h'] at hw
    by_cases hd : 1152921504606846976 < d
    · have hm : Hid (inM n d = false) := Lib.hid (by unfold inM; rw [decide_eq_false_iff_not]; omega)
      replace hw := Lib.hid hw
      go_enter Tryd.func124, Tryd.ntmps124
      go_wp2_with fail
      refine (hw.out _).mono ?_; rintro e w1 ⟨rfl, rfl⟩
      go_wp2_with fail
      go_returns
      exact ⟨retF (by simp [ckN, hm.out]) (by simp [ckD, hm.out]) (by simp [ckE, hm.out]), by go_grown⟩
    · have hm : Hid (inM n d = true) := Lib.hid (by unfold inM; rw [decide_eq_true_iff]; have := h.out; omega)
      replace hw := Lib.hid hw
      go_enter Tryd.func124, Tryd.ntmps124
      go_wp2_with fail
      refine (hw.out _).mono ?_; rintro e w1 ⟨rfl, rfl⟩
      go_wp2_with fail
      go_returns
      exact ⟨retF (by simp [ckN, hm.out]) (by simp [ckD, hm.out]) (by simp [ckE, hm.out]), by go_grown⟩
  · have h' : decide (-1152921504606846976 ≤ n ∧ n ≤ 1152921504606846976) = false := by simpa using h
    have hw := fun w => within_any n 1152921504606846976 w (by omega) (by omega)
    rw [h'] at hw
    have hm : Hid (inM n d = false) := Lib.hid (by unfold inM; rw [decide_eq_false_iff_not]; omega)
    clear h
    replace hw := Lib.hid hw
    go_enter Tryd.func124, Tryd.ntmps124
    go_wp2_with fail
    refine (hw.out _).mono ?_; rintro e w1 ⟨rfl, rfl⟩
    go_wp2_with fail
    go_returns
    exact ⟨retF (by simp [ckN, hm.out]) (by simp [ckD, hm.out]) (by simp [ckE, hm.out]), by go_grown⟩

theorem gcd_abs (a b : Int) : Int.gcd a b = Nat.gcd a.natAbs b.natAbs := rfl
/-- One quotient of a number by the divisor, in the walk's two spellings. -/
theorem quo_pos (x : Int) (g : Nat) (hx : 0 ≤ x) : x / (g : Int) = ((x.natAbs / g : Nat) : Int) := by
  obtain ⟨a, rfl⟩ := Int.eq_ofNat_of_zero_le hx
  simp
theorem quo_neg (x : Int) (g : Nat) (hx : x ≤ 0) : x.tdiv (g : Int) = -((x.natAbs / g : Nat) : Int) := by
  obtain ⟨a, ha⟩ := Int.eq_ofNat_of_zero_le (show 0 ≤ -x by omega)
  obtain rfl : x = -(a : Int) := by omega
  simp [Int.neg_tdiv, Int.tdiv_eq_ediv_of_nonneg]
theorem low_end (x y : Int) (p q : Nat) (s : Bool) (hx : x = sg s ((p / Nat.gcd p q : Nat) : Int)) (hy : y = ((q / Nat.gcd p q : Nat) : Int)) :
    Ending.returned (.tuple #[.agg #[.int .i64 (ckN x y), .int .i64 (ckD x y)], .int .i64 (ckE x y)]) = .returned (.tuple #[.agg #[.int .i64 (redN s p q), .int .i64 (redD p q)], .int .i64 (redE p q)]) := by
  obtain ⟨h1, h2, h3⟩ := ck_red s p q
  rw [hx, hy]
  exact retF h1 h2 h3

set_option maxHeartbeats 1000000 in
theorem lowest_any (n d : Int) (w : World) (n0 : -4611686018427387904 ≤ n) (n1 : n ≤ 4611686018427387904) (d0 : -4611686018427387904 ≤ d) (d1 : d ≤ 4611686018427387904) (hd : d ≠ 0) :
    Calls Tryd.prog 99 #[.int .i64 n, .int .i64 d] w fun e w' => e = .returned (.tuple #[.agg #[.int .i64 (redN (decide (n < 0) != decide (d < 0)) n.natAbs d.natAbs), .int .i64 (redD n.natAbs d.natAbs)], .int .i64 (redE n.natAbs d.natAbs)]) ∧ Below w.heap.size w w' := by
  obtain ⟨g, hg⟩ : ∃ g, Nat.gcd n.natAbs d.natAbs = g := ⟨_, rfl⟩
  have hg0 : (1 : Int) ≤ g := by
    have := Nat.gcd_pos_of_pos_right n.natAbs (show 0 < d.natAbs by omega)
    omega
  have hg1 : (g : Int) ≤ 4611686018427387904 := by
    have := Nat.le_of_dvd (show 0 < d.natAbs by omega) (Nat.gcd_dvd_right n.natAbs d.natAbs)
    omega
  have hgh := Lib.hid hg; clear hg
  have hn' : n = sg (decide (n < 0)) (n.natAbs : Int) := by unfold sg; by_cases h : n < 0 <;> simp [h] <;> omega
  have hd' : d = sg (decide (d < 0)) (d.natAbs : Int) := by unfold sg; by_cases h : d < 0 <;> simp [h] <;> omega
  obtain ⟨A, hA⟩ : ∃ A, n.tdiv (g : Int) = A := ⟨_, rfl⟩
  obtain ⟨D, hD⟩ : ∃ D, d.tdiv (g : Int) = D := ⟨_, rfl⟩
  have vA : A = sg (decide (n < 0)) ((n.natAbs / g : Nat) : Int) := hA.symm.trans ((congrArg (fun z : Int => z.tdiv (g : Int)) hn').trans (tdiv_sg _ _ _))
  have vD : D = sg (decide (d < 0)) ((d.natAbs / g : Nat) : Int) := hD.symm.trans ((congrArg (fun z : Int => z.tdiv (g : Int)) hd').trans (tdiv_sg _ _ _))
  have bA : -4611686018427387904 ≤ A ∧ A ≤ 4611686018427387904 := by
    have h1 : n.natAbs / g ≤ n.natAbs := Nat.div_le_self _ _
    rw [vA]; unfold sg; generalize n.natAbs / g = z at *; split <;> omega
  have bD : -4611686018427387904 ≤ D ∧ D ≤ 4611686018427387904 := by
    have h1 : d.natAbs / g ≤ d.natAbs := Nat.div_le_self _ _
    rw [vD]; unfold sg; generalize d.natAbs / g = z at *; split <;> omega
  have wA1 : wrap64 A = A := IntWalk.wrap64_in _ ⟨by omega, by omega⟩
  have wA2 : wrap64 (-A) = -A := IntWalk.wrap64_in _ ⟨by omega, by omega⟩
  have wA3 : IntKind.i64.wrap A = A := IntWalk.i64_in _ ⟨by omega, by omega⟩
  have wA4 : IntKind.i64.wrap (-A) = -A := IntWalk.i64_in _ ⟨by omega, by omega⟩
  have wD1 : wrap64 D = D := IntWalk.wrap64_in _ ⟨by omega, by omega⟩
  have wD2 : wrap64 (-D) = -D := IntWalk.wrap64_in _ ⟨by omega, by omega⟩
  have wD3 : IntKind.i64.wrap D = D := IntWalk.i64_in _ ⟨by omega, by omega⟩
  have wD4 : IntKind.i64.wrap (-D) = -D := IntWalk.i64_in _ ⟨by omega, by omega⟩
  replace vA := Lib.hid vA
  replace vD := Lib.hid vD
  clear hn' hd'
  by_cases hs : d < 0
  · by_cases hn : n < 0
    · have dn : Hid (decide (n < 0) = true) := Lib.hid (by simp; omega)
      have ds : Hid (decide (d < 0) = true) := Lib.hid (by simp; omega)
      go_enter Tryd.func99, Tryd.ntmps99
      go_wp2_with fail
      all_goals
        refine (common_any _ _ _ (by omega) (by omega) (by omega) (by omega)).mono ?_; rintro e w1 ⟨rfl, k1, rfl⟩
        rw [gcd_abs]
        simp only [Int.natAbs_neg, hgh.out]
        go_wp2_with fail
        go_region_with ((go_at_call 124; refine (checked_any _ _ _).mono ?_; rintro e w2 ⟨rfl, hb⟩; obtain ⟨hc, hf⟩ := bat hb (w.heap.size + 1) (by simp)))
        all_goals
          go_wp2_with fail
          refine bodyPost_ret (v := .tuple #[.agg #[.int .i64 (ckN (-A) (-D)), .int .i64 (ckD (-A) (-D))], .int .i64 (ckE (-A) (-D))]) (by simp [results, Tryd.results99, go_sem, hc]) rfl ?_
          refine ⟨low_end _ _ n.natAbs d.natAbs _ ?_ ?_, (((Below.refl _ _).alloc (Nat.le_refl _) _ |> fun h => (below_drewN h _).drew).trans (hb.mono (by simp))).trans (put2_below (Below.refl _ _) (by have := hb.size; simp at this; omega) _ _)⟩
          · rw [hgh.out, vA.out, dn.out, ds.out]; simp [sg]
          · rw [hgh.out, vD.out, ds.out]; simp [sg]
    · have dn : Hid (decide (n < 0) = false) := Lib.hid (by simp; omega)
      have ds : Hid (decide (d < 0) = true) := Lib.hid (by simp; omega)
      go_enter Tryd.func99, Tryd.ntmps99
      go_wp2_with fail
      all_goals
        refine (common_any _ _ _ (by omega) (by omega) (by omega) (by omega)).mono ?_; rintro e w1 ⟨rfl, k1, rfl⟩
        rw [gcd_abs]
        simp only [Int.natAbs_neg, hgh.out]
        go_wp2_with fail
        go_region_with ((go_at_call 124; refine (checked_any _ _ _).mono ?_; rintro e w2 ⟨rfl, hb⟩; obtain ⟨hc, hf⟩ := bat hb (w.heap.size + 1) (by simp)))
        all_goals
          go_wp2_with fail
          refine bodyPost_ret (v := .tuple #[.agg #[.int .i64 (ckN (-A) (-D)), .int .i64 (ckD (-A) (-D))], .int .i64 (ckE (-A) (-D))]) (by simp [results, Tryd.results99, go_sem, hc]) rfl ?_
          refine ⟨low_end _ _ n.natAbs d.natAbs _ ?_ ?_, (((Below.refl _ _).alloc (Nat.le_refl _) _ |> fun h => (below_drewN h _).drew).trans (hb.mono (by simp))).trans (put2_below (Below.refl _ _) (by have := hb.size; simp at this; omega) _ _)⟩
          · rw [hgh.out, vA.out, dn.out, ds.out]; simp [sg]
          · rw [hgh.out, vD.out, ds.out]; simp [sg]
  · by_cases hn : n < 0
    · have dn : Hid (decide (n < 0) = true) := Lib.hid (by simp; omega)
      have ds : Hid (decide (d < 0) = false) := Lib.hid (by simp; omega)
      go_enter Tryd.func99, Tryd.ntmps99
      go_wp2_with fail
      all_goals
        refine (common_any _ _ _ (by omega) (by omega) (by omega) (by omega)).mono ?_; rintro e w1 ⟨rfl, k1, rfl⟩
        rw [gcd_abs]
        simp only [Int.natAbs_neg, hgh.out]
        go_wp2_with fail
        go_region_with ((go_at_call 124; refine (checked_any _ _ _).mono ?_; rintro e w2 ⟨rfl, hb⟩; obtain ⟨hc, hf⟩ := bat hb (w.heap.size + 1) (by simp)))
        all_goals
          go_wp2_with fail
          refine bodyPost_ret (v := .tuple #[.agg #[.int .i64 (ckN (A) (D)), .int .i64 (ckD (A) (D))], .int .i64 (ckE (A) (D))]) (by simp [results, Tryd.results99, go_sem, hc]) rfl ?_
          refine ⟨low_end _ _ n.natAbs d.natAbs _ ?_ ?_, (((Below.refl _ _).alloc (Nat.le_refl _) _ |> fun h => (below_drewN h _).drew).trans (hb.mono (by simp))).trans (put2_below (Below.refl _ _) (by have := hb.size; simp at this; omega) _ _)⟩
          · rw [hgh.out, vA.out, dn.out, ds.out]; simp [sg]
          · rw [hgh.out, vD.out, ds.out]; simp [sg]
    · have dn : Hid (decide (n < 0) = false) := Lib.hid (by simp; omega)
      have ds : Hid (decide (d < 0) = false) := Lib.hid (by simp; omega)
      go_enter Tryd.func99, Tryd.ntmps99
      go_wp2_with fail
      all_goals
        refine (common_any _ _ _ (by omega) (by omega) (by omega) (by omega)).mono ?_; rintro e w1 ⟨rfl, k1, rfl⟩
        rw [gcd_abs]
        simp only [hgh.out]
        go_wp2_with fail
        go_region_with ((go_at_call 124; refine (checked_any _ _ _).mono ?_; rintro e w2 ⟨rfl, hb⟩; obtain ⟨hc, hf⟩ := bat hb (w.heap.size + 1) (by simp)))
        all_goals
          go_wp2_with fail
          refine bodyPost_ret (v := .tuple #[.agg #[.int .i64 (ckN (A) (D)), .int .i64 (ckD (A) (D))], .int .i64 (ckE (A) (D))]) (by simp [results, Tryd.results99, go_sem, hc]) rfl ?_
          refine ⟨low_end _ _ n.natAbs d.natAbs _ ?_ ?_, (((Below.refl _ _).alloc (Nat.le_refl _) _ |> fun h => (below_drewN h _).drew).trans (hb.mono (by simp))).trans (put2_below (Below.refl _ _) (by have := hb.size; simp at this; omega) _ _)⟩
          · rw [hgh.out, vA.out, dn.out, ds.out]; simp [sg]
          · rw [hgh.out, vD.out, ds.out]; simp [sg]
end Go.Proofs.YticekkjambkifaaDoor.Rt

namespace Go.Proofs.YticekkjambkifaaDoor.Rt
open Go.RowKit CoRat

theorem endF {x y : Int} (p q : Nat) (s : Bool) (hx : x = sg s ((p / Nat.gcd p q : Nat) : Int)) (hy : y = ((q / Nat.gcd p q : Nat) : Int)) : ckN x y = redN s p q ∧ ckD x y = redD p q ∧ ckE x y = redE p q := by
  rw [hx, hy]; exact ck_red s p q

def ngB (n : Bool) (u : Nat) : Bool := n && decide (u ≠ 0)
theorem neg_any (h l : Int) (n : Bool) (u : Nat) (w : World) (x : W h l u) (hu : u < B) :
    Calls Tryd.prog 127 #[.agg #[.int .u64 h, .int .u64 l, .bool n]] w fun e w' => e = .returned (.bool (ngB n u)) ∧ Below w.heap.size w w' := negative_any h l n u w x hu
theorem ng_sign (n n' : Bool) (u v : Nat) (v0 : 0 < v) : redN (ngB n u != ngB n' v) u v = redN (n != n') u v := by
  have h2 : ngB n' v = n' := by unfold ngB; have : v ≠ 0 := by omega
                                simp [this]
  rw [h2]
  by_cases hu : u = 0
  · subst hu; exact redN_zero _ _ _
  · have h1 : ngB n u = n := by unfold ngB; simp [hu]
    rw [h1]

set_option maxHeartbeats 2000000 in
theorem exact_any (h l h' l' : Int) (n n' : Bool) (u v : Nat) (w : World) (x : W h l u) (hu : u < B) (y : W h' l' v) (hv : v * 2 < B) (v0 : 0 < v) :
    Calls Tryd.prog 100 #[.agg #[.int .u64 h, .int .u64 l, .bool n], .agg #[.int .u64 h', .int .u64 l', .bool n']] w fun e w' => e = .returned (.tuple #[.agg #[.int .i64 (redN (n != n') u v), .int .i64 (redD u v)], .int .i64 (redE u v)]) ∧ Below w.heap.size w w' := by
  obtain ⟨rfl, rfl⟩ := x
  obtain ⟨rfl, rfl⟩ := y
  obtain ⟨g, hg⟩ : ∃ g, Nat.gcd u v = g := ⟨_, rfl⟩
  have hg0 : 0 < g := hg ▸ Nat.gcd_pos_of_pos_right u v0
  have hg1 : g ≤ v := hg ▸ Nat.le_of_dvd v0 (Nat.gcd_dvd_right u v)
  obtain ⟨p, hp⟩ : ∃ p, u / g = p := ⟨_, rfl⟩
  obtain ⟨q, hq⟩ : ∃ q, v / g = q := ⟨_, rfl⟩
  have nf : Hid (¬ (p < 4611686018427387904 ∧ q < 4611686018427387904) → ∀ s, redN s u v = 0 ∧ redD u v = 0 ∧ redE u v = 3) := Lib.hid (by
    intro hh s
    exact not_fits u v (by rw [hg, hp, hq]; exact hh) s)
  replace hg := Lib.hid hg
  replace hp := Lib.hid hp
  replace hq := Lib.hid hq
  have sgn := Lib.hid (ng_sign n n' u v v0)
  obtain ⟨A, hA⟩ : ∃ A : Bool, decide (p < 4611686018427387904) = A := ⟨_, rfl⟩
  obtain ⟨C, hC⟩ : ∃ C : Bool, decide (q < 4611686018427387904) = C := ⟨_, rfl⟩
  obtain ⟨X, hX⟩ : ∃ X : Bool, ngB n u = X := ⟨_, rfl⟩
  obtain ⟨Y, hY⟩ : ∃ Y : Bool, ngB n' v = Y := ⟨_, rfl⟩
  have ngU := fun w => neg_any (hi u) (lo u) n u w (W.mk u) hu
  have ngV := fun w => neg_any (hi v) (lo v) n' v w (W.mk v) (by omega)
  rw [hX] at ngU
  rw [hY] at ngV
  replace ngU := Lib.hid ngU
  replace ngV := Lib.hid ngV
  replace hX := Lib.hid hX
  replace hY := Lib.hid hY
  obtain ⟨P, hP⟩ : ∃ P : Nat, p % 4611686018427387904 = P := ⟨_, rfl⟩
  obtain ⟨Q, hQ⟩ : ∃ Q : Nat, q % 4611686018427387904 = Q := ⟨_, rfl⟩
  have hP1 : (P : Int) ≤ 4611686018427387903 := by omega
  have ovA := fun w => over_any (hi u) (lo u) (hi g) (lo g) n false u g w (W.mk u) hu (W.mk g) (by omega) hg0
  have ovC := fun w => over_any (hi v) (lo v) (hi g) (lo g) n' false v g w (W.mk v) (by omega) (W.mk g) (by omega) hg0
  rw [hp.out, hA, hP] at ovA
  rw [hq.out, hC, hQ] at ovC
  replace ovA := Lib.hid ovA
  replace ovC := Lib.hid ovC
  replace hA := Lib.hid hA
  replace hC := Lib.hid hC
  replace hP := Lib.hid hP
  replace hQ := Lib.hid hQ
  go_enter Tryd.func100, Tryd.ntmps100
  go_wp2_with fail
  refine (wcommon_any _ _ _ _ _ _ u v _ (W.mk u) hu (W.mk v) (by omega)).mono ?_; rintro e w1 ⟨rfl, hb⟩; obtain ⟨hc, hf⟩ := bat hb (w.heap.size + 3) (by simp)
  rw [hg.out]
  have z1 : w.heap.size + 3 ≤ w1.heap.size := by have := hb.size; simp at this; omega
  have b1 : Below w.heap.size w w1 := (by go_grown : Below w.heap.size w _).trans (hb.mono (by simp; omega))
  have z2 : w.heap.size < w1.heap.size := by omega
  have z3 : w.heap.size + 1 < w1.heap.size := by omega
  have z4 : w.heap.size + 1 + 1 < w1.heap.size := by omega
  clear hb
  go_wp2_with fail
  refine (ovA.out _).mono ?_; rintro e w2 ⟨rfl, hb2⟩; obtain ⟨hc2, hf2⟩ := bat hb2 (w.heap.size + 3) (by simp; omega)
  obtain ⟨hd2, hg2⟩ := bat hb2 (w1.heap.size + 1) (by simp)
  have y2 : w1.heap.size + 1 ≤ w2.heap.size := by have := hb2.size; simp at this; omega
  have b2 : Below w.heap.size w w2 := (b1.alloc (by omega) _).trans (hb2.mono (by simp; omega))
  clear hb2
  go_wp2_with fail
  refine (ovC.out _).mono ?_; rintro e w3 ⟨rfl, hb3⟩; obtain ⟨hc3, hf3⟩ := bat hb3 (w.heap.size + 3) (by omega)
  have y3 : w.heap.size + 3 ≤ w3.heap.size := by have := hb3.size; omega
  have b3 : Below w.heap.size w w3 := b2.trans (hb3.mono (by omega))
  clear hb3 hd2 hg2 ovA ovC b1 b2
  have t0 : w3.cell? ⟨w.heap.size + 1 + 1, 0, none⟩ = some (.int .i64 0) := by rw [hc3 _ _ (by omega), hc2 _ _ (by omega)]; go_simp
  have t1 : w3.cell? ⟨w.heap.size + 1 + 1, 1, none⟩ = some (.int .i64 0) := by rw [hc3 _ _ (by omega), hc2 _ _ (by omega)]; go_simp
  have t2 : w3.frozen? ⟨w.heap.size + 1 + 1, 0, none⟩ = false := by rw [hf3 _ _ (by omega), hf2 _ _ (by omega)]; go_simp
  have t3 : w3.frozen? ⟨w.heap.size + 1 + 1, 1, none⟩ = false := by rw [hf3 _ _ (by omega), hf2 _ _ (by omega)]; go_simp
  by_cases hAC : A = true ∧ C = true
  · obtain ⟨rfl, rfl⟩ := hAC
    go_wp2_with fail
    go_region_with (first | (go_at_call 127; (with_reducible refine (ngU.out _).mono ?_); rintro e w4 ⟨rfl, hb4⟩; obtain ⟨hc4, hf4⟩ := bat hb4 (w.heap.size + 3) y3; have y4 : w.heap.size + 3 ≤ w4.heap.size := Nat.le_trans y3 hb4.size; have b4 : Below w.heap.size w w4 := (b3.drew).trans (hb4.mono (by simp; omega))) | (go_at_call 127; (with_reducible refine (ngV.out _).mono ?_); rintro e w5 ⟨rfl, hb5⟩; obtain ⟨hc5, hf5⟩ := bat hb5 (w.heap.size + 3) y4; have y5 : w.heap.size + 3 ≤ w5.heap.size := Nat.le_trans y4 hb5.size; have b5 : Below w.heap.size w w5 := b4.trans (hb5.mono (by omega))))
    all_goals
      have hp1 := of_decide_eq_true hA.out
      have hq1 := of_decide_eq_true hC.out
      have hPp : Hid (P = p) := Lib.hid (by rw [← hP.out, Nat.mod_eq_of_lt hp1])
      have hQq : Hid (Q = q) := Lib.hid (by rw [← hQ.out, Nat.mod_eq_of_lt hq1])
      clear hc hf hc2 hf2 hc3 hf3
      cases X <;> cases Y
      · go_wp2_with fail
        refine (checked_any _ _ _).mono ?_; rintro e w6 ⟨rfl, hb6⟩; obtain ⟨hc6, hf6⟩ := bat hb6 (w.heap.size + 3) y5
        go_wp2_with fail
        obtain ⟨k1, k2, k3⟩ := endF (x := P) (y := Q) u v false (by rw [hPp.out, hg.out, hp.out]; rfl) (by rw [hQq.out, hg.out, hq.out])
        have sg := sgn.out
        rw [hX.out, hY.out] at sg
        refine bodyPost_ret (v := .tuple #[.agg #[.int .i64 (ckN (P) Q), .int .i64 (ckD (P) Q)], .int .i64 (ckE (P) Q)]) (by simp [results, Tryd.results100, go_sem, hc6, hc5, hc4, t0, t1]) rfl ?_
        exact ⟨retF (k1.trans sg) k2 k3, (b5.trans (hb6.mono (by omega))).trans (put2_below (Below.refl _ _) (by have := hb6.size; omega) _ _)⟩
      · go_wp2_with fail
        refine (checked_any _ _ _).mono ?_; rintro e w6 ⟨rfl, hb6⟩; obtain ⟨hc6, hf6⟩ := bat hb6 (w.heap.size + 3) y5
        go_wp2_with fail
        obtain ⟨k1, k2, k3⟩ := endF (x := -P) (y := Q) u v true (by rw [hPp.out, hg.out, hp.out]; rfl) (by rw [hQq.out, hg.out, hq.out])
        have sg := sgn.out
        rw [hX.out, hY.out] at sg
        refine bodyPost_ret (v := .tuple #[.agg #[.int .i64 (ckN (-P) Q), .int .i64 (ckD (-P) Q)], .int .i64 (ckE (-P) Q)]) (by simp [results, Tryd.results100, go_sem, hc6, hc5, hc4, t0, t1]) rfl ?_
        exact ⟨retF (k1.trans sg) k2 k3, (b5.trans (hb6.mono (by omega))).trans (put2_below (Below.refl _ _) (by have := hb6.size; omega) _ _)⟩
      · go_wp2_with fail
        refine (checked_any _ _ _).mono ?_; rintro e w6 ⟨rfl, hb6⟩; obtain ⟨hc6, hf6⟩ := bat hb6 (w.heap.size + 3) y5
        go_wp2_with fail
        obtain ⟨k1, k2, k3⟩ := endF (x := -P) (y := Q) u v true (by rw [hPp.out, hg.out, hp.out]; rfl) (by rw [hQq.out, hg.out, hq.out])
        have sg := sgn.out
        rw [hX.out, hY.out] at sg
        refine bodyPost_ret (v := .tuple #[.agg #[.int .i64 (ckN (-P) Q), .int .i64 (ckD (-P) Q)], .int .i64 (ckE (-P) Q)]) (by simp [results, Tryd.results100, go_sem, hc6, hc5, hc4, t0, t1]) rfl ?_
        exact ⟨retF (k1.trans sg) k2 k3, (b5.trans (hb6.mono (by omega))).trans (put2_below (Below.refl _ _) (by have := hb6.size; omega) _ _)⟩
      · go_wp2_with fail
        refine (checked_any _ _ _).mono ?_; rintro e w6 ⟨rfl, hb6⟩; obtain ⟨hc6, hf6⟩ := bat hb6 (w.heap.size + 3) y5
        go_wp2_with fail
        obtain ⟨k1, k2, k3⟩ := endF (x := P) (y := Q) u v false (by rw [hPp.out, hg.out, hp.out]; rfl) (by rw [hQq.out, hg.out, hq.out])
        have sg := sgn.out
        rw [hX.out, hY.out] at sg
        refine bodyPost_ret (v := .tuple #[.agg #[.int .i64 (ckN (P) Q), .int .i64 (ckD (P) Q)], .int .i64 (ckE (P) Q)]) (by simp [results, Tryd.results100, go_sem, hc6, hc5, hc4, t0, t1]) rfl ?_
        exact ⟨retF (k1.trans sg) k2 k3, (b5.trans (hb6.mono (by omega))).trans (put2_below (Below.refl _ _) (by have := hb6.size; omega) _ _)⟩
  · obtain ⟨k1, k2, k3⟩ := nf.out (by rintro ⟨h1, h2⟩; exact hAC ⟨by rw [← hA.out]; exact decide_eq_true h1, by rw [← hC.out]; exact decide_eq_true h2⟩) (n != n')
    cases A
    case' false => skip
    case' true => obtain rfl : C = false := by cases C <;> simp_all
    all_goals
      clear hAC
      go_wp2_with fail
      refine bodyPost_ret (v := .tuple #[.agg #[.int .i64 0, .int .i64 0], .int .i64 3]) (by simp [results, Tryd.results100, go_sem, t0, t1]) rfl ?_
      exact ⟨retF k1.symm k2.symm k3.symm, b3.trans (put2_below (Below.refl _ _) (by omega) _ _)⟩
end Go.Proofs.YticekkjambkifaaDoor.Rt
