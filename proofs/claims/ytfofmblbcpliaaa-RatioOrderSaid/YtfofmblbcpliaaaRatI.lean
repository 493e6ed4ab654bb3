/- easy, Mul and Div of package ratio. -/
import Derived.Test.YtfofmblbcpliaaaRatG
set_option linter.unusedVariables false
namespace Go.Proofs.Ytfofmblbcpliaaa
open Go.RowKit CoRat

def easyB (xn xd yn yd : Int) : Bool := decide ((-1073741824 ≤ xn ∧ xn ≤ 1073741824) ∧ (-1073741824 ≤ yn ∧ yn ≤ 1073741824) ∧ (-1073741824 ≤ xd ∧ xd ≤ 1073741824) ∧ (-1073741824 ≤ yd ∧ yd ≤ 1073741824))

set_option maxHeartbeats 2000000 in
theorem easy_any (xn xd yn yd : Int) (w : World) :
    Calls Try.prog 36 #[.agg #[.int .i64 xn, .int .i64 xd], .agg #[.int .i64 yn, .int .i64 yd]] w fun e w' => e = .returned (.bool (easyB xn xd yn yd)) ∧ Below w.heap.size w w' := by
  have wxn := fun w => within_any xn 1073741824 w (by omega) (by omega)
  have wyn := fun w => within_any yn 1073741824 w (by omega) (by omega)
  have wxd := fun w => within_any xd 1073741824 w (by omega) (by omega)
  have wyd := fun w => within_any yd 1073741824 w (by omega) (by omega)
  by_cases hxn : -1073741824 ≤ xn ∧ xn ≤ 1073741824
  · rw [decide_eq_true hxn] at wxn
    replace wxn := Lib.hid wxn
    by_cases hyn : -1073741824 ≤ yn ∧ yn ≤ 1073741824
    · rw [decide_eq_true hyn] at wyn
      replace wyn := Lib.hid wyn
      by_cases hxd : -1073741824 ≤ xd ∧ xd ≤ 1073741824
      · rw [decide_eq_true hxd] at wxd
        replace wxd := Lib.hid wxd
        by_cases hyd : -1073741824 ≤ yd ∧ yd ≤ 1073741824
        · rw [decide_eq_true hyd] at wyd
          replace wyd := Lib.hid wyd
          have ho : Hid (easyB xn xd yn yd = true) := Lib.hid (by unfold easyB; rw [decide_eq_true_iff]; exact ⟨hxn, hyn, hxd, hyd⟩)
          clear hxn hyn hxd hyd
          go_enter Try.func36, Try.ntmps36
          go_wp2_with fail
          refine (wxn.out _).mono ?_; rintro e w1 ⟨rfl, rfl⟩
          go_wp2_with fail
          refine (wyn.out _).mono ?_; rintro e w1 ⟨rfl, rfl⟩
          go_wp2_with fail
          refine (wxd.out _).mono ?_; rintro e w1 ⟨rfl, rfl⟩
          go_wp2_with fail
          refine (wyd.out _).mono ?_; rintro e w1 ⟨rfl, rfl⟩
          go_wp2_with fail
          go_returns
          exact ⟨retBool ho.out.symm, by go_grown⟩
        · rw [decide_eq_false hyd] at wyd
          replace wyd := Lib.hid wyd
          have ho : Hid (easyB xn xd yn yd = false) := Lib.hid (by unfold easyB; rw [decide_eq_false_iff_not]; exact fun x => hyd x.2.2.2)
          clear hxn hyn hxd hyd
          go_enter Try.func36, Try.ntmps36
          go_wp2_with fail
          refine (wxn.out _).mono ?_; rintro e w1 ⟨rfl, rfl⟩
          go_wp2_with fail
          refine (wyn.out _).mono ?_; rintro e w1 ⟨rfl, rfl⟩
          go_wp2_with fail
          refine (wxd.out _).mono ?_; rintro e w1 ⟨rfl, rfl⟩
          go_wp2_with fail
          refine (wyd.out _).mono ?_; rintro e w1 ⟨rfl, rfl⟩
          go_wp2_with fail
          go_returns
          exact ⟨retBool ho.out.symm, by go_grown⟩
      · rw [decide_eq_false hxd] at wxd
        replace wxd := Lib.hid wxd
        have ho : Hid (easyB xn xd yn yd = false) := Lib.hid (by unfold easyB; rw [decide_eq_false_iff_not]; exact fun x => hxd x.2.2.1)
        clear hxn hyn hxd wyd
        go_enter Try.func36, Try.ntmps36
        go_wp2_with fail
        refine (wxn.out _).mono ?_; rintro e w1 ⟨rfl, rfl⟩
        go_wp2_with fail
        refine (wyn.out _).mono ?_; rintro e w1 ⟨rfl, rfl⟩
        go_wp2_with fail
        refine (wxd.out _).mono ?_; rintro e w1 ⟨rfl, rfl⟩
        go_wp2_with fail
        go_returns
        exact ⟨retBool ho.out.symm, by go_grown⟩
    · rw [decide_eq_false hyn] at wyn
      replace wyn := Lib.hid wyn
      have ho : Hid (easyB xn xd yn yd = false) := Lib.hid (by unfold easyB; rw [decide_eq_false_iff_not]; exact fun x => hyn x.2.1)
      clear hxn hyn wxd wyd
      go_enter Try.func36, Try.ntmps36
      go_wp2_with fail
      refine (wxn.out _).mono ?_; rintro e w1 ⟨rfl, rfl⟩
      go_wp2_with fail
      refine (wyn.out _).mono ?_; rintro e w1 ⟨rfl, rfl⟩
      go_wp2_with fail
      go_returns
      exact ⟨retBool ho.out.symm, by go_grown⟩
  · rw [decide_eq_false hxn] at wxn
    replace wxn := Lib.hid wxn
    have ho : Hid (easyB xn xd yn yd = false) := Lib.hid (by unfold easyB; rw [decide_eq_false_iff_not]; exact fun x => hxn x.1)
    clear hxn wyn wxd wyd
    go_enter Try.func36, Try.ntmps36
    go_wp2_with fail
    refine (wxn.out _).mono ?_; rintro e w1 ⟨rfl, rfl⟩
    go_wp2_with fail
    go_returns
    exact ⟨retBool ho.out.symm, by go_grown⟩

/-- A product of two numbers over a product of two numbers, in lowest terms. -/
def qN (a b c d : Int) : Int := redN ((decide (a < 0) != decide (b < 0)) != (decide (c < 0) != decide (d < 0))) (a.natAbs * b.natAbs) (c.natAbs * d.natAbs)
def qD (a b c d : Int) : Int := redD (a.natAbs * b.natAbs) (c.natAbs * d.natAbs)
def qE (a b c d : Int) : Int := redE (a.natAbs * b.natAbs) (c.natAbs * d.natAbs)
theorem neg_mul_sign (a b : Int) (h : a * b ≠ 0) : decide (a * b < 0) = (decide (a < 0) != decide (b < 0)) := by
  have ha : a ≠ 0 := fun e => h (by rw [e, Int.zero_mul])
  have hb : b ≠ 0 := fun e => h (by rw [e, Int.mul_zero])
  rcases Int.lt_or_gt_of_ne ha with h1 | h1 <;> rcases Int.lt_or_gt_of_ne hb with h2 | h2
  · have := Int.mul_pos_of_neg_of_neg h1 h2
    rw [decide_eq_false (by omega : ¬ a * b < 0), decide_eq_true h1, decide_eq_true h2]; rfl
  · have := Int.mul_neg_of_neg_of_pos h1 h2
    rw [decide_eq_true this, decide_eq_true h1, decide_eq_false (by omega : ¬ b < 0)]; rfl
  · have := Int.mul_neg_of_pos_of_neg h1 h2
    rw [decide_eq_true this, decide_eq_false (by omega : ¬ a < 0), decide_eq_true h2]; rfl
  · have := Int.mul_pos h1 h2
    rw [decide_eq_false (by omega : ¬ a * b < 0), decide_eq_false (by omega : ¬ a < 0), decide_eq_false (by omega : ¬ b < 0)]; rfl
theorem q_of_low (a b c d : Int) (h : c * d ≠ 0) : redN (decide (a * b < 0) != decide (c * d < 0)) (a * b).natAbs (c * d).natAbs = qN a b c d ∧ redD (a * b).natAbs (c * d).natAbs = qD a b c d ∧ redE (a * b).natAbs (c * d).natAbs = qE a b c d := by
  unfold qN qD qE
  rw [Int.natAbs_mul, Int.natAbs_mul]
  refine ⟨?_, rfl, rfl⟩
  by_cases hab : a * b = 0
  · rw [← Int.natAbs_mul, hab]; exact redN_zero _ _ _
  · rw [neg_mul_sign a b hab, neg_mul_sign c d h]
end Go.Proofs.Ytfofmblbcpliaaa
