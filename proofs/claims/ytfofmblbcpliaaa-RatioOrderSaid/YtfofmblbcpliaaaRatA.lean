/- Small functions of packages ratio, wide and math/bits return what they compute. -/
import Derived.Test.YtfofmblbcpliaaaAux
import Derived.Test.YtfofmblbcpliaaaRatM
import Derived.Laws.Externs
import Derived.Shelf.Spec.BitsCarry
set_option linter.unusedVariables false
namespace Go.Proofs.Ytfofmblbcpliaaa
open Go.RowKit CoRat

theorem retNum {a b c d : Int} (n : Bool) (h : a = c) (h' : b = d) : Ending.returned (.agg #[.int .u64 a, .int .u64 b, .bool n]) = .returned (.agg #[.int .u64 c, .int .u64 d, .bool n]) := by rw [h, h']

theorem gcd_step (i j : Int) (hi : 0 ≤ i) (hj : 0 ≤ j) : Int.gcd j (i % j) = Int.gcd i j := by
  obtain ⟨a, rfl⟩ := Int.eq_ofNat_of_zero_le hi
  obtain ⟨b, rfl⟩ := Int.eq_ofNat_of_zero_le hj
  rw [← Int.natCast_emod]
  show Nat.gcd b (a % b) = Nat.gcd a b
  rw [Nat.gcd_comm, ← Nat.gcd_rec, Nat.gcd_comm]

def dif (x y b : Int) : Int := (x - y - b) % 18446744073709551616
def bor (x y b : Int) : Int := if x < y + b then 1 else 0
def sm (x y b : Int) : Int := (x + y + b) % 18446744073709551616
def car (x y b : Int) : Int := (x + y + b) / 18446744073709551616
theorem run_sub (x y b : Int) (hx : 0 ≤ x) (hy : 0 ≤ y) (hy1 : y ≤ 18446744073709551615) (hb0 : 0 ≤ b) (hb1 : b ≤ 1) (w : World) :
    (callFunc 64 #[.int .u64 x, .int .u64 y, .int .u64 b]).run Try.prog w = .ok (.value (.tuple #[.int .u64 (dif x y b), .int .u64 (bor x y b)])) w := by
  obtain ⟨x, rfl⟩ := Int.eq_ofNat_of_zero_le hx
  obtain ⟨y, rfl⟩ := Int.eq_ofNat_of_zero_le hy
  obtain ⟨b, rfl⟩ := Int.eq_ofNat_of_zero_le hb0
  rw [run_callFunc_extern Try.func64 (by kernel_rfl) (by kernel_rfl) (by kernel_rfl) (e := sub64Entry) (by kernel_rfl), run_sub64 x y b (by omega)]
  have h1 : ((((x + 18446744073709551616 - y - b) % 18446744073709551616 : Nat) : Int)) = dif x y b := by unfold dif; omega
  have h2 : (((if x < y + b then 1 else 0 : Nat) : Int)) = bor x y b := by unfold bor; split <;> split <;> omega
  rw [h1, h2]; rfl
theorem run_add (x y b : Int) (hx : 0 ≤ x) (hy : 0 ≤ y) (hb0 : 0 ≤ b) (hb1 : b ≤ 1) (w : World) :
    (callFunc 63 #[.int .u64 x, .int .u64 y, .int .u64 b]).run Try.prog w = .ok (.value (.tuple #[.int .u64 (sm x y b), .int .u64 (car x y b)])) w := by
  rw [run_callFunc_extern Try.func63 (by kernel_rfl) (by kernel_rfl) (by kernel_rfl) (e := add64Entry) (by kernel_rfl), run_add64 x y b hx hy hb0 hb1]
  rfl

set_option maxHeartbeats 400000 in
theorem within_any (n most : Int) (w : World) (h0 : 0 ≤ most) (h1 : most ≤ 4611686018427387904) :
    Calls Try.prog 28 #[.int .i64 n, .int .i64 most] w fun e w' => e = .returned (.bool (decide (-most ≤ n ∧ n ≤ most))) ∧ w = w' := by
  go_enter Try.func28, Try.ntmps28
  go_wp2
  all_goals go_ret
  all_goals exact ⟨retBool (by rw [Bool.eq_iff_iff]; simp; omega), rfl⟩

set_option maxHeartbeats 400000 in
theorem sign_any (n : Int) (w : World) :
    Calls Try.prog 40 #[.int .i64 n] w fun e w' => e = .returned (.int .i64 n.sign) ∧ w = w' := by
  go_enter Try.func40, Try.ntmps40
  go_wp2
  all_goals go_ret
  · exact ⟨retInt (Int.sign_eq_neg_one_of_neg (by assumption)).symm, rfl⟩
  · exact ⟨retInt (Int.sign_eq_one_of_pos (by assumption)).symm, rfl⟩
  · exact ⟨retInt (by rw [show n = 0 by omega]; rfl), rfl⟩

set_option maxHeartbeats 400000 in
theorem common_any (a b : Int) (w : World) (ha : 0 ≤ a) (hb : 0 ≤ b) (ha2 : a ≤ 9223372036854775807) (hb2 : b ≤ 9223372036854775807) :
    Calls Try.prog 34 #[.int .i64 a, .int .i64 b] w fun e w' => e = .returned (.int .i64 (Int.gcd a b)) ∧ ∃ n, w' = w.drewN n := by
  go_enter Try.func34, Try.ntmps34
  go_wp2
  go_loopw [0, 1] (fun x y w' => ∃ i j : Int, 0 ≤ i ∧ 0 ≤ j ∧ i ≤ 9223372036854775807 ∧ j ≤ 9223372036854775807 ∧ x = .int .i64 i ∧ y = .int .i64 j ∧ Int.gcd i j = Int.gcd a b ∧ ∃ n, w' = w.drewN n) (fun _ y _ => (intOf y).toNat)
  case atStart => exact ⟨a, b, ha, hb, ha2, hb2, rfl, rfl, rfl, 0, rfl⟩
  case round =>
    obtain ⟨i, j, hi, hj, hi2, hj2, rfl, rfl, hg, n, rfl⟩ := hrel
    have hg' := Lib.hid hg; clear hg
    by_cases hz : j = 0
    · subst hz
      go_wp2
      go_ret
      exact ⟨retInt (by rw [← hg'.out, Int.gcd_zero_right]; omega), n, rfl⟩
    · have hz' : (j != 0) = true := by simpa using hz
      go_wp2
      go_quiet (fail)
      go_wp2
      go_roundw
      case rel => exact ⟨j, i % j, by omega, Int.emod_nonneg _ hz, by omega, by have := Int.emod_lt_of_pos i (show 0 < j by omega); omega, rfl, by go_num, by rw [← hg'.out]; exact gcd_step i j hi hj, _, by rw [World.drewN_drewN]⟩
      case measure => have := Int.emod_lt_of_pos i (show 0 < j by omega); have := Int.emod_nonneg i hz; simp [intOf]; omega
  
set_option maxHeartbeats 400000 in
theorem half_any (h l : Int) (n : Bool) (u : Nat) (w : World) (x : W h l u) (hu : u < B) :
    Calls Try.prog 60 #[.agg #[.int .u64 h, .int .u64 l, .bool n]] w fun e w' => e = .returned (.agg #[.int .u64 (hi (u / 2)), .int .u64 (lo (u / 2)), .bool n]) ∧ Below w.heap.size w w' := by
  obtain ⟨h0, h1, l0, l1⟩ := x.bd hu
  go_enter Try.func60, Try.ntmps60
  go_wp2
  go_returns
  exact ⟨retNum n (half_W x hu).1 (half_W x hu).2, by go_grown⟩

set_option maxHeartbeats 400000 in
theorem twice_any (h l : Int) (n : Bool) (u : Nat) (w : World) (x : W h l u) (hu : u * 2 < B) :
    Calls Try.prog 61 #[.agg #[.int .u64 h, .int .u64 l, .bool n]] w fun e w' => e = .returned (.agg #[.int .u64 (hi (u * 2)), .int .u64 (lo (u * 2)), .bool n]) ∧ Below w.heap.size w w' := by
  obtain ⟨h0, h1, l0, l1⟩ := x.bd (by omega)
  go_enter Try.func61, Try.ntmps61
  go_wp2
  go_returns
  exact ⟨retNum n (twice_W x hu).1 (twice_W x hu).2, by go_grown⟩

set_option maxHeartbeats 400000 in
theorem below_any (h l h' l' : Int) (n n' : Bool) (u v : Nat) (w : World) (x : W h l u) (hu : u < B) (y : W h' l' v) (hv : v < B) :
    Calls Try.prog 55 #[.agg #[.int .u64 h, .int .u64 l, .bool n], .agg #[.int .u64 h', .int .u64 l', .bool n']] w fun e w' => e = .returned (.bool (decide (u < v))) ∧ Below w.heap.size w w' := by
  obtain ⟨h0, h1, l0, l1⟩ := x.bd hu
  have hb := Lib.hid (below_W x y hu hv)
  go_enter Try.func55, Try.ntmps55
  go_wp2
  all_goals go_returns
  all_goals refine ⟨retBool ?_, by go_grown⟩
  all_goals have hb := hb.out
  all_goals (rw [Bool.eq_iff_iff]; simp; omega)

set_option maxHeartbeats 400000 in
theorem zero_any (h l : Int) (n : Bool) (u : Nat) (w : World) (x : W h l u) (hu : u < B) :
    Calls Try.prog 58 #[.agg #[.int .u64 h, .int .u64 l, .bool n]] w fun e w' => e = .returned (.bool (decide (u = 0))) ∧ Below w.heap.size w w' := by
  obtain ⟨h0, h1, l0, l1⟩ := x.bd hu
  have hb := Lib.hid (zero_W x hu)
  go_enter Try.func58, Try.ntmps58
  go_wp2
  all_goals go_returns
  all_goals refine ⟨retBool ?_, by go_grown⟩
  all_goals have hb := hb.out
  all_goals (rw [Bool.eq_iff_iff]; simp; omega)

set_option maxHeartbeats 400000 in
theorem even_any (h l : Int) (n : Bool) (u : Nat) (w : World) (x : W h l u) (hu : u < B) :
    Calls Try.prog 59 #[.agg #[.int .u64 h, .int .u64 l, .bool n]] w fun e w' => e = .returned (.bool (decide (u % 2 = 0))) ∧ Below w.heap.size w w' := by
  obtain ⟨h0, h1, l0, l1⟩ := x.bd hu
  have hb := Lib.hid (even_W x hu)
  go_enter Try.func59, Try.ntmps59
  go_wp2
  all_goals go_returns
  all_goals refine ⟨retBool ?_, by go_grown⟩
  all_goals have hb := hb.out
  all_goals (rw [Bool.eq_iff_iff]; simp; omega)

theorem less_W {h l h' l' : Int} {u v : Nat} (x : W h l u) (hu : u < B) (y : W h' l' v) (hv : v ≤ u) : W (dif h h' (bor l l' 0)) (dif l l' 0) (u - v) := by
  have b := x.bd hu; have c := y.bd (by omega); have e := x.val; have f := y.val
  unfold dif bor
  split <;> exact W.of (by omega) (by omega) (by omega) (by omega)
theorem more_W {h l h' l' : Int} {u v : Nat} (x : W h l u) (y : W h' l' v) (hv : u + v < B) : W (sm h h' (car l l' 0)) (sm l l' 0) (u + v) := by
  have b := x.bd (by omega); have c := y.bd (by omega); have e := x.val; have f := y.val
  unfold B at hv
  unfold sm car
  exact W.of (by omega) (by omega) (by omega) (by omega)
theorem bor_bd (x y b : Int) : 0 ≤ bor x y b ∧ bor x y b ≤ 1 := by unfold bor; split <;> omega
theorem car_bd (x y : Int) (hx : 0 ≤ x) (hx1 : x ≤ 18446744073709551615) (hy : 0 ≤ y) (hy1 : y ≤ 18446744073709551615) : 0 ≤ car x y 0 ∧ car x y 0 ≤ 1 := by unfold car; omega

set_option maxHeartbeats 400000 in
theorem less_any (h l h' l' : Int) (n n' : Bool) (u v : Nat) (w : World) (x : W h l u) (hu : u < B) (y : W h' l' v) (hv : v ≤ u) :
    Calls Try.prog 56 #[.agg #[.int .u64 h, .int .u64 l, .bool n], .agg #[.int .u64 h', .int .u64 l', .bool n']] w fun e w' => e = .returned (.agg #[.int .u64 (hi (u - v)), .int .u64 (lo (u - v)), .bool n]) ∧ Below w.heap.size w w' := by
  obtain ⟨h0, h1, l0, l1⟩ := x.bd hu
  obtain ⟨a0, a1, b0, b1⟩ := y.bd (by omega)
  have r1 := fun w => run_sub l l' 0 l0 b0 b1 (by omega) (by omega) w
  have r2 := fun w => run_sub h h' (bor l l' 0) h0 a0 a1 (bor_bd _ _ _).1 (bor_bd _ _ _).2 w
  go_enter Try.func56, Try.ntmps56
  go_wp2_with fail
  go_returns
  exact ⟨retNum n (less_W x hu y hv).1 (less_W x hu y hv).2, by go_grown⟩

set_option maxHeartbeats 400000 in
theorem more_any (h l h' l' : Int) (n n' : Bool) (u v : Nat) (w : World) (x : W h l u) (y : W h' l' v) (hv : u + v < B) :
    Calls Try.prog 54 #[.agg #[.int .u64 h, .int .u64 l, .bool n], .agg #[.int .u64 h', .int .u64 l', .bool n']] w fun e w' => e = .returned (.agg #[.int .u64 (hi (u + v)), .int .u64 (lo (u + v)), .bool n]) ∧ Below w.heap.size w w' := by
  obtain ⟨h0, h1, l0, l1⟩ := x.bd (by omega)
  obtain ⟨a0, a1, b0, b1⟩ := y.bd (by omega)
  have r1 := fun w => run_add l l' 0 l0 b0 (by omega) (by omega) w
  have r2 := fun w => run_add h h' (car l l' 0) h0 a0 (car_bd _ _ l0 l1 b0 b1).1 (car_bd _ _ l0 l1 b0 b1).2 w
  go_enter Try.func54, Try.ntmps54
  go_wp2_with fail
  go_returns
  exact ⟨retNum n (more_W x y hv).1 (more_W x y hv).2, by go_grown⟩

end Go.Proofs.Ytfofmblbcpliaaa
