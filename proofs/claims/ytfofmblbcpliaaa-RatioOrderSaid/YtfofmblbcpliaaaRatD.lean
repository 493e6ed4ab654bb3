/- Mul64, Of, Product, Negative, Plus, Minus of package wide. -/
import Derived.Test.YtfofmblbcpliaaaRatC
set_option linter.unusedVariables false
namespace Go.Proofs.Ytfofmblbcpliaaa
open Go.RowKit CoRat

theorem retUU {a b c d : Int} (h : a = b) (h' : c = d) : Ending.returned (.tuple #[.int .u64 a, .int .u64 c]) = .returned (.tuple #[.int .u64 b, .int .u64 d]) := by rw [h, h']
theorem and_mask32 (x : Int) (hx0 : 0 ≤ x) (hx1 : x ≤ 18446744073709551615) : bits .and .u64 x 4294967295 = x % 4294967296 := by
  rw [u64_and x _ hx0 (by omega) (by omega) (by omega)]
  show ((x.toNat &&& 4294967295 : Nat) : Int) = _
  have := Nat.and_two_pow_sub_one_eq_mod x.toNat 32
  rw [show (2:Nat) ^ 32 - 1 = 4294967295 from by decide, show (2:Nat) ^ 32 = 4294967296 from by decide] at this
  rw [this]; omega
theorem mul_bd {a b : Int} (ha0 : 0 ≤ a) (ha : a ≤ 4294967295) (hb0 : 0 ≤ b) (hb : b ≤ 4294967295) : 0 ≤ a * b ∧ a * b ≤ 18446744065119617025 := by
  have h1 := Int.mul_nonneg ha0 hb0
  have h2 : a * b ≤ 4294967295 * b := Int.mul_le_mul_of_nonneg_right ha hb0
  omega
/-- The product of two words, by their halves. -/
theorem mul_split (x y : Int) : x * y = x / 4294967296 * (y / 4294967296) * 18446744073709551616 + (x / 4294967296 * (y % 4294967296) + x % 4294967296 * (y / 4294967296)) * 4294967296 + x % 4294967296 * (y % 4294967296) := by
  have e1 : x = x / 4294967296 * 4294967296 + x % 4294967296 := by omega
  have e2 : y = y / 4294967296 * 4294967296 + y % 4294967296 := by omega
  generalize x / 4294967296 = a at *
  generalize x % 4294967296 = b at *
  generalize y / 4294967296 = c at *
  generalize y % 4294967296 = d at *
  subst e1; subst e2
  rw [Int.add_mul, Int.mul_add, Int.mul_add]
  have f1 : a * 4294967296 * (c * 4294967296) = a * c * 18446744073709551616 := by
    rw [Int.mul_assoc, Int.mul_left_comm 4294967296 c, ← Int.mul_assoc]
    rfl
  have f2 : a * 4294967296 * d = a * d * 4294967296 := by rw [Int.mul_assoc, Int.mul_comm 4294967296 d, ← Int.mul_assoc]
  have f3 : b * (c * 4294967296) = b * c * 4294967296 := by rw [← Int.mul_assoc]
  rw [f1, f2, f3]; omega
theorem prod_lt (a b : Nat) (ha : a ≤ 18446744073709551615) (hb : b ≤ 18446744073709551615) : a * b < B := by
  have h1 : a * b ≤ 18446744073709551615 * b := Nat.mul_le_mul_right _ ha
  unfold B; omega

theorem mul_hi (x y : Nat) (h1 : x ≤ 18446744073709551615) (l1 : y ≤ 18446744073709551615)
    (m3 : bits .and .u64 ((x : Int) / 4294967296 * ((y : Int) % 4294967296) + ((x : Int) % 4294967296 * ((y : Int) % 4294967296)) / 4294967296) 4294967295 = ((x : Int) / 4294967296 * ((y : Int) % 4294967296) + ((x : Int) % 4294967296 * ((y : Int) % 4294967296)) / 4294967296) % 4294967296) :
    IntKind.u64.wrap ((x : Int) / 4294967296 * ((y : Int) / 4294967296) + ((x : Int) / 4294967296 * ((y : Int) % 4294967296) + (x : Int) % 4294967296 * ((y : Int) % 4294967296) / 4294967296) / 4294967296 +
      IntKind.u64.wrap (bits .and .u64 ((x : Int) / 4294967296 * ((y : Int) % 4294967296) + (x : Int) % 4294967296 * ((y : Int) % 4294967296) / 4294967296) 4294967295 + (x : Int) % 4294967296 * ((y : Int) / 4294967296)) / 4294967296) = hi (x * y) := by
  have b1 := mul_bd (a := (x : Int) / 4294967296) (b := (y : Int) / 4294967296) (by omega) (by omega) (by omega) (by omega)
  have b2 := mul_bd (a := (x : Int) / 4294967296) (b := (y : Int) % 4294967296) (by omega) (by omega) (by omega) (by omega)
  have b3 := mul_bd (a := (x : Int) % 4294967296) (b := (y : Int) / 4294967296) (by omega) (by omega) (by omega) (by omega)
  have b4 := mul_bd (a := (x : Int) % 4294967296) (b := (y : Int) % 4294967296) (by omega) (by omega) (by omega) (by omega)
  have hs := mul_split x y
  rw [m3]
  simp only [IntKind.wrap_u64]
  clear m3
  refine hi_of (l := (x : Int) * y % 18446744073709551616) ?_ ?_ (by omega) (by omega)
  · rw [Int.natCast_mul]
    generalize (x : Int) * y = z at *
    generalize (x : Int) / 4294967296 * ((y : Int) / 4294967296) = p1 at *
    generalize (x : Int) / 4294967296 * ((y : Int) % 4294967296) = p2 at *
    generalize (x : Int) % 4294967296 * ((y : Int) / 4294967296) = p3 at *
    generalize (x : Int) % 4294967296 * ((y : Int) % 4294967296) = p4 at *
    omega
  · omega
theorem mul_lo (x y : Nat) : IntKind.u64.wrap ((x : Int) * (y : Int)) = lo (x * y) := by
  rw [IntKind.wrap_u64]; unfold lo; rw [← Int.natCast_mul]; omega
set_option maxHeartbeats 400000 in
theorem mul64_any (x y : Nat) (w : World) (h1 : x ≤ 18446744073709551615) (l1 : y ≤ 18446744073709551615) :
    Calls Try.prog 41 #[.int .u64 x, .int .u64 y] w fun e w' => e = .returned (.tuple #[.int .u64 (hi (x * y)), .int .u64 (lo (x * y))]) ∧ w = w' := by
  have g1 : (x : Int) ≤ 18446744073709551615 := by omega
  have g2 : (y : Int) ≤ 18446744073709551615 := by omega
  have m1 := and_mask32 x (by omega) g1
  have m2 := and_mask32 y (by omega) g2
  have b1 := mul_bd (a := (x : Int) / 4294967296) (b := (y : Int) / 4294967296) (by omega) (by omega) (by omega) (by omega)
  have b2 := mul_bd (a := (x : Int) / 4294967296) (b := (y : Int) % 4294967296) (by omega) (by omega) (by omega) (by omega)
  have b3 := mul_bd (a := (x : Int) % 4294967296) (b := (y : Int) / 4294967296) (by omega) (by omega) (by omega) (by omega)
  have b4 := mul_bd (a := (x : Int) % 4294967296) (b := (y : Int) % 4294967296) (by omega) (by omega) (by omega) (by omega)
  have m3 := and_mask32 ((x : Int) / 4294967296 * ((y : Int) % 4294967296) + ((x : Int) % 4294967296 * ((y : Int) % 4294967296)) / 4294967296) (by omega) (by omega)
  replace m3 := Lib.hid m3
  go_enter Try.func41, Try.ntmps41
  go_wp2
  go_ret2
  exact ⟨retUU (mul_hi x y h1 l1 m3.out) (mul_lo x y), rfl⟩
set_option maxHeartbeats 400000 in
theorem size_any (n : Int) (w : World) (h0 : -9223372036854775808 ≤ n) (h1 : n ≤ 9223372036854775807) :
    Calls Try.prog 52 #[.int .i64 n] w fun e w' => e = .returned (.int .u64 (n.natAbs : Int)) ∧ w = w' := by
  go_enter Try.func52, Try.ntmps52
  go_wp2
  all_goals go_returns
  all_goals refine ⟨retInt ?_, rfl⟩
  · rw [IntKind.wrap_u64]; unfold wrap64; omega
  · omega
set_option maxHeartbeats 400000 in
theorem negative_any (h l : Int) (n : Bool) (u : Nat) (w : World) (x : W h l u) (hu : u < B) :
    Calls Try.prog 51 #[.agg #[.int .u64 h, .int .u64 l, .bool n]] w fun e w' => e = .returned (.bool (n && decide (u ≠ 0))) ∧ Below w.heap.size w w' := by
  cases n
  · go_enter Try.func51, Try.ntmps51
    go_wp2_with fail
    go_returns
    exact ⟨rfl, by go_grown⟩
  · go_enter Try.func51, Try.ntmps51
    go_wp2_with fail
    refine (zero_any _ _ _ u _ x hu).mono ?_; rintro e w1 ⟨rfl, hb⟩
    go_wp2_with fail
    go_returns
    exact ⟨retBool (by simp), (by go_grown : Below w.heap.size w _).trans (hb.mono (by simp))⟩
set_option maxHeartbeats 400000 in
theorem opposite_any (h l : Int) (n : Bool) (w : World) :
    Calls Try.prog 57 #[.agg #[.int .u64 h, .int .u64 l, .bool n]] w fun e w' => e = .returned (.agg #[.int .u64 h, .int .u64 l, .bool !n]) ∧ Below w.heap.size w w' := by
  go_enter Try.func57, Try.ntmps57
  go_wp2_with fail
  go_returns
  exact ⟨rfl, by go_grown⟩
set_option maxHeartbeats 400000 in
theorem of_any (n : Int) (w : World) (h0 : -9223372036854775808 ≤ n) (h1 : n ≤ 9223372036854775807) :
    Calls Try.prog 31 #[.int .i64 n] w fun e w' => e = .returned (.agg #[.int .u64 (hi n.natAbs), .int .u64 (lo n.natAbs), .bool (decide (n < 0))]) ∧ Below w.heap.size w w' := by
  have e1 : Hid (hi n.natAbs = 0) := Lib.hid (by unfold CoRat.hi; omega)
  have e2 : Hid (lo n.natAbs = (n.natAbs : Int)) := Lib.hid (by unfold lo; omega)
  go_enter Try.func31, Try.ntmps31
  go_wp2_with fail
  refine (size_any n _ h0 h1).mono ?_; rintro e w1 ⟨rfl, rfl⟩
  go_wp2_with fail
  go_returns
  exact ⟨retNum _ e1.out.symm e2.out.symm, by go_grown⟩

set_option maxHeartbeats 400000 in
theorem product_any (a b : Int) (w : World) (a0 : -9223372036854775808 ≤ a) (a1 : a ≤ 9223372036854775807) (b0 : -9223372036854775808 ≤ b) (b1 : b ≤ 9223372036854775807) :
    Calls Try.prog 37 #[.int .i64 a, .int .i64 b] w fun e w' => e = .returned (.agg #[.int .u64 (hi (a.natAbs * b.natAbs)), .int .u64 (lo (a.natAbs * b.natAbs)), .bool (decide (a < 0) != decide (b < 0))]) ∧ Below w.heap.size w w' := by
  go_enter Try.func37, Try.ntmps37
  go_wp2_with fail
  refine (size_any a _ a0 a1).mono ?_; rintro e w1 ⟨rfl, rfl⟩
  go_wp2_with fail
  refine (size_any b _ b0 b1).mono ?_; rintro e w1 ⟨rfl, rfl⟩
  go_wp2_with fail
  refine (mul64_any _ _ _ (by omega) (by omega)).mono ?_; rintro e w1 ⟨rfl, rfl⟩
  go_wp2_with fail
  go_returns
  exact ⟨rfl, by go_grown⟩

/-- The size and the sign of a sum, by the sizes and signs of two numbers. -/
def psz (u v : Nat) (m n : Bool) : Nat := if m = n then u + v else if u < v then v - u else u - v
def psg (u v : Nat) (m n : Bool) : Bool := if m = n then m else if u < v then n else m
theorem retNum' {a b c d : Int} {n m : Bool} (h : a = c) (h' : b = d) (h'' : n = m) : Ending.returned (.agg #[.int .u64 a, .int .u64 b, .bool n]) = .returned (.agg #[.int .u64 c, .int .u64 d, .bool m]) := by rw [h, h', h'']
set_option maxHeartbeats 1000000 in
theorem plus_any (h l h' l' : Int) (n n' : Bool) (u v : Nat) (w : World) (x : W h l u) (y : W h' l' v) (hv : u + v < B) :
    Calls Try.prog 39 #[.agg #[.int .u64 h, .int .u64 l, .bool n], .agg #[.int .u64 h', .int .u64 l', .bool n']] w fun e w' => e = .returned (.agg #[.int .u64 (hi (psz u v n n')), .int .u64 (lo (psz u v n n')), .bool (psg u v n n')]) ∧ Below w.heap.size w w' := by
  obtain ⟨rfl, rfl⟩ := x
  obtain ⟨rfl, rfl⟩ := y
  by_cases hs : n = n'
  · subst hs
    have e : Hid (psz u v n n = u + v ∧ psg u v n n = n) := Lib.hid (by simp [psz, psg])
    go_enter Try.func39, Try.ntmps39
    go_wp2_with fail
    refine (more_any _ _ _ _ _ _ u v _ (W.mk u) (W.mk v) hv).mono ?_; rintro e w1 ⟨rfl, hb⟩; obtain ⟨hc, hf⟩ := bat hb (w.heap.size + 3) (by simp)
    go_wp2_with fail
    refine bodyPost_ret (v := .agg #[.int .u64 (hi (u + v)), .int .u64 (lo (u + v)), .bool n]) (by simp [results, Try.results39, go_sem, hc]) rfl ?_
    exact ⟨retNum' (by rw [e.out.1]) (by rw [e.out.1]) e.out.2.symm, ((by go_grown : Below w.heap.size w _).trans (hb.mono (by simp; omega))).trans (put3_below (Below.refl _ _) (by have := hb.size; simp at *; omega) _ _ _)⟩
  · have hs' : (n == n') = false := by simpa using hs
    replace hs := Lib.hid hs
    by_cases hlt : u < v
    · have e : Hid (psz u v n n' = v - u ∧ psg u v n n' = n') := Lib.hid (by simp [psz, psg, hs.out, hlt])
      have hd : decide (u < v) = true := by simpa using hlt
      go_enter Try.func39, Try.ntmps39
      go_wp2_with fail
      refine (below_any _ _ _ _ _ _ u v _ (W.mk u) (by omega) (W.mk v) (by omega)).mono ?_; rintro e w1 ⟨rfl, hb⟩; obtain ⟨hc, hf⟩ := bat hb (w.heap.size + 3) (by simp)
      go_wp2_with fail
      refine (less_any _ _ _ _ _ _ v u _ (W.mk v) (by omega) (W.mk u) (by omega)).mono ?_; rintro e w2 ⟨rfl, hb2⟩; obtain ⟨hc2, hf2⟩ := bat hb2 (w.heap.size + 3) (by have := hb.size; simp at this; omega)
      go_wp2_with fail
      refine bodyPost_ret (v := .agg #[.int .u64 (hi (v - u)), .int .u64 (lo (v - u)), .bool n']) (by simp [results, Try.results39, go_sem, hc, hc2]) rfl ?_
      exact ⟨retNum' (by rw [e.out.1]) (by rw [e.out.1]) e.out.2.symm, (((by go_grown : Below w.heap.size w _).trans (hb.mono (by simp; omega))).trans (hb2.mono (by have := hb.size; simp at this; omega))).trans (put3_below (Below.refl _ _) (by have := hb.size; have := hb2.size; simp at *; omega) _ _ _)⟩
    · have e : Hid (psz u v n n' = u - v ∧ psg u v n n' = n) := Lib.hid (by simp [psz, psg, hs.out, hlt])
      have hd : decide (u < v) = false := by simpa using hlt
      go_enter Try.func39, Try.ntmps39
      go_wp2_with fail
      refine (below_any _ _ _ _ _ _ u v _ (W.mk u) (by omega) (W.mk v) (by omega)).mono ?_; rintro e w1 ⟨rfl, hb⟩; obtain ⟨hc, hf⟩ := bat hb (w.heap.size + 3) (by simp)
      go_wp2_with fail
      refine (less_any _ _ _ _ _ _ u v _ (W.mk u) (by omega) (W.mk v) (by omega)).mono ?_; rintro e w2 ⟨rfl, hb2⟩; obtain ⟨hc2, hf2⟩ := bat hb2 (w.heap.size + 3) (by have := hb.size; simp at this; omega)
      go_wp2_with fail
      refine bodyPost_ret (v := .agg #[.int .u64 (hi (u - v)), .int .u64 (lo (u - v)), .bool n]) (by simp [results, Try.results39, go_sem, hc, hc2]) rfl ?_
      exact ⟨retNum' (by rw [e.out.1]) (by rw [e.out.1]) e.out.2.symm, (((by go_grown : Below w.heap.size w _).trans (hb.mono (by simp; omega))).trans (hb2.mono (by have := hb.size; simp at this; omega))).trans (put3_below (Below.refl _ _) (by have := hb.size; have := hb2.size; simp at *; omega) _ _ _)⟩

set_option maxHeartbeats 1000000 in
theorem minus_any (h l h' l' : Int) (n n' : Bool) (u v : Nat) (w : World) (x : W h l u) (y : W h' l' v) (hv : u + v < B) :
    Calls Try.prog 42 #[.agg #[.int .u64 h, .int .u64 l, .bool n], .agg #[.int .u64 h', .int .u64 l', .bool n']] w fun e w' => e = .returned (.agg #[.int .u64 (hi (psz u v n (!n'))), .int .u64 (lo (psz u v n (!n'))), .bool (psg u v n (!n'))]) ∧ Below w.heap.size w w' := by
  obtain ⟨rfl, rfl⟩ := x
  obtain ⟨rfl, rfl⟩ := y
  go_enter Try.func42, Try.ntmps42
  go_wp2_with fail
  go_region_with (first | (go_at_call 57; (with_reducible refine (opposite_any _ _ _ _).mono ?_); rintro e w1 ⟨rfl, hb⟩; obtain ⟨hc, hf⟩ := bat hb (w.heap.size + 3) (by simp)) | (go_at_call 39; (with_reducible refine (plus_any _ _ _ _ _ _ u v _ (W.mk u) (W.mk v) hv).mono ?_); rintro e w2 ⟨rfl, hb2⟩; obtain ⟨hc2, hf2⟩ := bat hb2 (w.heap.size + 3) (by have := hb.size; simp at this; omega)))
  all_goals go_wp2_with fail
  all_goals refine bodyPost_ret (v := .agg #[.int .u64 (hi (psz u v n (!n'))), .int .u64 (lo (psz u v n (!n'))), .bool (psg u v n (!n'))]) (by simp [results, Try.results42, go_sem, hc, hc2]) rfl ?_
  all_goals exact ⟨rfl, (((by go_grown : Below w.heap.size w _).trans (hb.mono (by simp; omega))).trans (hb2.mono (by have := hb.size; simp at this; omega))).trans (put3_below (Below.refl _ _) (by have := hb.size; have := hb2.size; simp at *; omega) _ _ _)⟩
end Go.Proofs.Ytfofmblbcpliaaa
