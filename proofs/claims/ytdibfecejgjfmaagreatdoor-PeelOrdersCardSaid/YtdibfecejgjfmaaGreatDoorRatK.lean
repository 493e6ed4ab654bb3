/- Floor, the sanity check awake, and RatioMakes. -/
import Derived.Test.YtdibfecejgjfmaaGreatDoorRefE
set_option linter.unusedVariables false
namespace Go.Proofs.YtdibfecejgjfmaaGreatDoor.Rt
open Go.RowKit CoRat

def flF (n d : Int) : Int := if okF n d then n / d else 0
theorem mk64 : mkN 6 (-4) = -3 ∧ mkD 6 (-4) = 2 ∧ mkE 6 (-4) = 0 := by decide
theorem fl32 : flF (-3) 2 = -2 := by decide
theorem ok32 : okF (-3) 2 = true := by decide
end Go.Proofs.YtdibfecejgjfmaaGreatDoor.Rt

namespace Go.Proofs.YtdibfecejgjfmaaGreatDoor.Rt
open Go.RowKit CoRat

/-- A product of two numbers over a product of two numbers, in lowest terms. -/
def qN (a b c d : Int) : Int := redN ((decide (a < 0) != decide (b < 0)) != (decide (c < 0) != decide (d < 0))) (a.natAbs * b.natAbs) (c.natAbs * d.natAbs)
def qD (a b c d : Int) : Int := redD (a.natAbs * b.natAbs) (c.natAbs * d.natAbs)
def qE (a b c d : Int) : Int := redE (a.natAbs * b.natAbs) (c.natAbs * d.natAbs)
theorem neg_mul_sign (a b : Int) (h : a * b ≠ 0) : decide (a * b < 0) = (decide (a < 0) != decide (b < 0)) := by
  have ha : a ≠ 0 := fun e => h (by rw [e, Int.zero_mul])
  have hb : b ≠ 0 := fun e => h (by rw [e, Int.mul_zero])
  rcases Int.lt_or_gt_of_ne ha with h1 | h1 <;> rcases Int.lt_or_gt_of_ne hb with h2 | h2
  · have := Int.mul_pos_of_neg_of_neg h1 h2
    rw [decide_eq_false (by omega : ¬ a * b < 0), decide_eq_true h1, decide_eq_true h2]; rfl
  · have := Int.mul_neg_of_neg_of_pos h1 h2
    rw [decide_eq_true this, decide_eq_true h1, decide_eq_false (by omega : ¬ b < 0)]; rfl
  · have := Int.mul_neg_of_pos_of_neg h1 h2
    rw [decide_eq_true this, decide_eq_false (by omega : ¬ a < 0), decide_eq_true h2]; rfl
  · have := Int.mul_pos h1 h2
    rw [decide_eq_false (by omega : ¬ a * b < 0), decide_eq_false (by omega : ¬ a < 0), decide_eq_false (by omega : ¬ b < 0)]; rfl
theorem q_of_low (a b c d : Int) (h : c * d ≠ 0) : redN (decide (a * b < 0) != decide (c * d < 0)) (a * b).natAbs (c * d).natAbs = qN a b c d ∧ redD (a * b).natAbs (c * d).natAbs = qD a b c d ∧ redE (a * b).natAbs (c * d).natAbs = qE a b c d := by
  unfold qN qD qE
  rw [Int.natAbs_mul, Int.natAbs_mul]
  refine ⟨?_, rfl, rfl⟩
  by_cases hab : a * b = 0
  · rw [← Int.natAbs_mul, hab]; exact redN_zero _ _ _
  · rw [neg_mul_sign a b hab, neg_mul_sign c d h]
/-- What Mul makes of two fractions. -/
def mulN (a b c d : Int) : Int := if okF a b && okF c d then qN a c b d else 0
def mulD (a b c d : Int) : Int := if okF a b && okF c d then qD a c b d else 0
def mulE (a b c d : Int) : Int := if okF a b && okF c d then qE a c b d else 4
/-- What Div makes of two fractions. -/
def divN (a b c d : Int) : Int := if okF a b && okF c d then (if c = 0 then 0 else qN a d b c) else 0
def divD (a b c d : Int) : Int := if okF a b && okF c d then (if c = 0 then 0 else qD a d b c) else 0
def divE (a b c d : Int) : Int := if okF a b && okF c d then (if c = 0 then 2 else qE a d b c) else 4
/-- What Add makes of two fractions. -/
def addN (a b c d : Int) : Int := if okF a b && okF c d then (if c = 0 then a else redN ((psg (a.natAbs * d.natAbs) (c.natAbs * b.natAbs) (decide (a < 0) != decide (d < 0)) ((decide (c < 0) != decide (b < 0)))) != (decide (b < 0) != decide (d < 0))) (psz (a.natAbs * d.natAbs) (c.natAbs * b.natAbs) (decide (a < 0) != decide (d < 0)) ((decide (c < 0) != decide (b < 0)))) (b.natAbs * d.natAbs)) else 0
def addD (a b c d : Int) : Int := if okF a b && okF c d then (if c = 0 then b else redD (psz (a.natAbs * d.natAbs) (c.natAbs * b.natAbs) (decide (a < 0) != decide (d < 0)) ((decide (c < 0) != decide (b < 0)))) (b.natAbs * d.natAbs)) else 0
def addE (a b c d : Int) : Int := if okF a b && okF c d then (if c = 0 then 0 else redE (psz (a.natAbs * d.natAbs) (c.natAbs * b.natAbs) (decide (a < 0) != decide (d < 0)) ((decide (c < 0) != decide (b < 0)))) (b.natAbs * d.natAbs)) else 4
/-- What Sub makes of two fractions. -/
def subN (a b c d : Int) : Int := if okF a b && okF c d then (if c = 0 then a else redN ((psg (a.natAbs * d.natAbs) (c.natAbs * b.natAbs) (decide (a < 0) != decide (d < 0)) (!(decide (c < 0) != decide (b < 0)))) != (decide (b < 0) != decide (d < 0))) (psz (a.natAbs * d.natAbs) (c.natAbs * b.natAbs) (decide (a < 0) != decide (d < 0)) (!(decide (c < 0) != decide (b < 0)))) (b.natAbs * d.natAbs)) else 0
def subD (a b c d : Int) : Int := if okF a b && okF c d then (if c = 0 then b else redD (psz (a.natAbs * d.natAbs) (c.natAbs * b.natAbs) (decide (a < 0) != decide (d < 0)) (!(decide (c < 0) != decide (b < 0)))) (b.natAbs * d.natAbs)) else 0
def subE (a b c d : Int) : Int := if okF a b && okF c d then (if c = 0 then 0 else redE (psz (a.natAbs * d.natAbs) (c.natAbs * b.natAbs) (decide (a < 0) != decide (d < 0)) (!(decide (c < 0) != decide (b < 0)))) (b.natAbs * d.natAbs)) else 4
end Go.Proofs.YtdibfecejgjfmaaGreatDoor.Rt

namespace Go.Proofs.YtdibfecejgjfmaaGreatDoor.Rt
open Go.RowKit CoRat

def easyB (xn xd yn yd : Int) : Bool := decide ((-1073741824 ≤ xn ∧ xn ≤ 1073741824) ∧ (-1073741824 ≤ yn ∧ yn ≤ 1073741824) ∧ (-1073741824 ≤ xd ∧ xd ≤ 1073741824) ∧ (-1073741824 ≤ yd ∧ yd ≤ 1073741824))

end Go.Proofs.YtdibfecejgjfmaaGreatDoor.Rt

namespace Go.Proofs.YtdibfecejgjfmaaGreatDoor.Rt
open Go.RowKit CoRat

theorem mul30 {a b : Int} (ha0 : -1073741824 ≤ a) (ha : a ≤ 1073741824) (hb0 : -1073741824 ≤ b) (hb : b ≤ 1073741824) : -1152921504606846976 ≤ a * b ∧ a * b ≤ 1152921504606846976 := by
  have h : (a * b).natAbs ≤ 1073741824 * 1073741824 := by
    rw [Int.natAbs_mul]; exact Nat.mul_le_mul (by omega) (by omega)
  omega
theorem mul60 {a b : Int} (ha0 : -1152921504606846976 ≤ a) (ha : a ≤ 1152921504606846976) (hb0 : -1152921504606846976 ≤ b) (hb : b ≤ 1152921504606846976) : a.natAbs * b.natAbs * 2 < B := by
  have h : a.natAbs * b.natAbs ≤ 1152921504606846976 * 1152921504606846976 := Nat.mul_le_mul (by omega) (by omega)
  unfold B; omega

end Go.Proofs.YtdibfecejgjfmaaGreatDoor.Rt

namespace Go.Proofs.YtdibfecejgjfmaaGreatDoor.Rt
open Go.RowKit CoRat


end Go.Proofs.YtdibfecejgjfmaaGreatDoor.Rt
