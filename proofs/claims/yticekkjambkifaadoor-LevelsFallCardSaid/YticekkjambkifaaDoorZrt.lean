/- Printed from RatK, RatN, RatS. -/
import Derived.Test.YticekkjambkifaaDoorRefE
/- Floor, the sanity check awake, and RatioMakes. -/
set_option linter.unusedVariables false
namespace Go.Proofs.YticekkjambkifaaDoor.Rt
open Go.RowKit CoRat

def flF (n d : Int) : Int := if okF n d then n / d else 0
theorem mk64 : mkN 6 (-4) = -3 ∧ mkD 6 (-4) = 2 ∧ mkE 6 (-4) = 0 := by decide
theorem fl32 : flF (-3) 2 = -2 := by decide
theorem ok32 : okF (-3) 2 = true := by decide
end Go.Proofs.YticekkjambkifaaDoor.Rt

namespace Go.Proofs.YticekkjambkifaaDoor.Rt
open Go.RowKit CoRat

/-- A product of two numbers over a product of two numbers, in lowest terms. -/
def qN (a b c d : Int) : Int := redN ((decide (a < 0) != decide (b < 0)) != (decide (c < 0) != decide (d < 0))) (a.natAbs * b.natAbs) (c.natAbs * d.natAbs)
def qD (a b c d : Int) : Int := redD (a.natAbs * b.natAbs) (c.natAbs * d.natAbs)
def qE (a b c d : Int) : Int := redE (a.natAbs * b.natAbs) (c.natAbs * d.natAbs)
theorem neg_mul_sign (a b : Int) (h : a * b ≠ 0) : decide (a * b < 0) = (decide (a < 0) != decide (b < 0)) := by
  have ha : a ≠ 0 := fun e => h (by rw [e, Int.zero_mul])
  have hb : b ≠ 0 := fun e => h (by rw [e, Int.mul_zero])
  rcases Int.lt_or_gt_of_ne ha with h1 | h1 <;> rcases Int.lt_or_gt_of_ne hb with h2 | h2
  · have := Int.mul_pos_of_neg_of_neg h1 h2
    rw [decide_eq_false (by omega : ¬ a * b < 0), decide_eq_true h1, decide_eq_true h2]; rfl
  · have := Int.mul_neg_of_neg_of_pos h1 h2
    rw [decide_eq_true this, decide_eq_true h1, decide_eq_false (by omega : ¬ b < 0)]; rfl
  · have := Int.mul_neg_of_pos_of_neg h1 h2
    rw [decide_eq_true this, decide_eq_false (by omega : ¬ a < 0), decide_eq_true h2]; rfl
  · have := Int.mul_pos h1 h2
    rw [decide_eq_false (by omega : ¬ a * b < 0), decide_eq_false (by omega : ¬ a < 0), decide_eq_false (by omega : ¬ b < 0)]; rfl
theorem q_of_low (a b c d : Int) (h : c * d ≠ 0) : redN (decide (a * b < 0) != decide (c * d < 0)) (a * b).natAbs (c * d).natAbs = qN a b c d ∧ redD (a * b).natAbs (c * d).natAbs = qD a b c d ∧ redE (a * b).natAbs (c * d).natAbs = qE a b c d := by
  unfold qN qD qE
  rw [Int.natAbs_mul, Int.natAbs_mul]
  refine ⟨?_, rfl, rfl⟩
  by_cases hab : a * b = 0
  · rw [← Int.natAbs_mul, hab]; exact redN_zero _ _ _
  · rw [neg_mul_sign a b hab, neg_mul_sign c d h]
/-- What Mul makes of two fractions. -/
def mulN (a b c d : Int) : Int := if okF a b && okF c d then qN a c b d else 0
def mulD (a b c d : Int) : Int := if okF a b && okF c d then qD a c b d else 0
def mulE (a b c d : Int) : Int := if okF a b && okF c d then qE a c b d else 4
/-- What Div makes of two fractions. -/
def divN (a b c d : Int) : Int := if okF a b && okF c d then (if c = 0 then 0 else qN a d b c) else 0
def divD (a b c d : Int) : Int := if okF a b && okF c d then (if c = 0 then 0 else qD a d b c) else 0
def divE (a b c d : Int) : Int := if okF a b && okF c d then (if c = 0 then 2 else qE a d b c) else 4
/-- What Add makes of two fractions. -/
def addN (a b c d : Int) : Int := if okF a b && okF c d then (if c = 0 then a else redN ((psg (a.natAbs * d.natAbs) (c.natAbs * b.natAbs) (decide (a < 0) != decide (d < 0)) ((decide (c < 0) != decide (b < 0)))) != (decide (b < 0) != decide (d < 0))) (psz (a.natAbs * d.natAbs) (c.natAbs * b.natAbs) (decide (a < 0) != decide (d < 0)) ((decide (c < 0) != decide (b < 0)))) (b.natAbs * d.natAbs)) else 0
def addD (a b c d : Int) : Int := if okF a b && okF c d then (if c = 0 then b else redD (psz (a.natAbs * d.natAbs) (c.natAbs * b.natAbs) (decide (a < 0) != decide (d < 0)) ((decide (c < 0) != decide (b < 0)))) (b.natAbs * d.natAbs)) else 0
def addE (a b c d : Int) : Int := if okF a b && okF c d then (if c = 0 then 0 else redE (psz (a.natAbs * d.natAbs) (c.natAbs * b.natAbs) (decide (a < 0) != decide (d < 0)) ((decide (c < 0) != decide (b < 0)))) (b.natAbs * d.natAbs)) else 4
/-- What Sub makes of two fractions. -/
def subN (a b c d : Int) : Int := if okF a b && okF c d then (if c = 0 then a else redN ((psg (a.natAbs * d.natAbs) (c.natAbs * b.natAbs) (decide (a < 0) != decide (d < 0)) (!(decide (c < 0) != decide (b < 0)))) != (decide (b < 0) != decide (d < 0))) (psz (a.natAbs * d.natAbs) (c.natAbs * b.natAbs) (decide (a < 0) != decide (d < 0)) (!(decide (c < 0) != decide (b < 0)))) (b.natAbs * d.natAbs)) else 0
def subD (a b c d : Int) : Int := if okF a b && okF c d then (if c = 0 then b else redD (psz (a.natAbs * d.natAbs) (c.natAbs * b.natAbs) (decide (a < 0) != decide (d < 0)) (!(decide (c < 0) != decide (b < 0)))) (b.natAbs * d.natAbs)) else 0
def subE (a b c d : Int) : Int := if okF a b && okF c d then (if c = 0 then 0 else redE (psz (a.natAbs * d.natAbs) (c.natAbs * b.natAbs) (decide (a < 0) != decide (d < 0)) (!(decide (c < 0) != decide (b < 0)))) (b.natAbs * d.natAbs)) else 4
end Go.Proofs.YticekkjambkifaaDoor.Rt

namespace Go.Proofs.YticekkjambkifaaDoor.Rt
open Go.RowKit CoRat

def easyB (xn xd yn yd : Int) : Bool := decide ((-1073741824 ≤ xn ∧ xn ≤ 1073741824) ∧ (-1073741824 ≤ yn ∧ yn ≤ 1073741824) ∧ (-1073741824 ≤ xd ∧ xd ≤ 1073741824) ∧ (-1073741824 ≤ yd ∧ yd ≤ 1073741824))

end Go.Proofs.YticekkjambkifaaDoor.Rt

namespace Go.Proofs.YticekkjambkifaaDoor.Rt
open Go.RowKit CoRat

theorem mul30 {a b : Int} (ha0 : -1073741824 ≤ a) (ha : a ≤ 1073741824) (hb0 : -1073741824 ≤ b) (hb : b ≤ 1073741824) : -1152921504606846976 ≤ a * b ∧ a * b ≤ 1152921504606846976 := by
  have h : (a * b).natAbs ≤ 1073741824 * 1073741824 := by
    rw [Int.natAbs_mul]; exact Nat.mul_le_mul (by omega) (by omega)
  omega
theorem mul60 {a b : Int} (ha0 : -1152921504606846976 ≤ a) (ha : a ≤ 1152921504606846976) (hb0 : -1152921504606846976 ≤ b) (hb : b ≤ 1152921504606846976) : a.natAbs * b.natAbs * 2 < B := by
  have h : a.natAbs * b.natAbs ≤ 1152921504606846976 * 1152921504606846976 := Nat.mul_le_mul (by omega) (by omega)
  unfold B; omega

end Go.Proofs.YticekkjambkifaaDoor.Rt

namespace Go.Proofs.YticekkjambkifaaDoor.Rt
open Go.RowKit CoRat


end Go.Proofs.YticekkjambkifaaDoor.Rt

/- Plain laws of reduced fractions, and RatioLimits. -/
set_option linter.unusedVariables false
namespace CoRat
/-- Equal values have equal lowest terms. -/
theorem low_eq {u v u' v' : Nat} (hv : 0 < v) (hv' : 0 < v') (h : u * v' = u' * v) : u / Nat.gcd u v = u' / Nat.gcd u' v' ∧ v / Nat.gcd u v = v' / Nat.gcd u' v' := by
  have g0 : 0 < Nat.gcd u v := Nat.gcd_pos_of_pos_right u hv
  have g0' : 0 < Nat.gcd u' v' := Nat.gcd_pos_of_pos_right u' hv'
  have c := Nat.coprime_div_gcd_div_gcd g0
  have c' := Nat.coprime_div_gcd_div_gcd g0'
  have e1 : u / Nat.gcd u v * Nat.gcd u v = u := Nat.div_mul_cancel (Nat.gcd_dvd_left u v)
  have e2 : v / Nat.gcd u v * Nat.gcd u v = v := Nat.div_mul_cancel (Nat.gcd_dvd_right u v)
  have e3 : u' / Nat.gcd u' v' * Nat.gcd u' v' = u' := Nat.div_mul_cancel (Nat.gcd_dvd_left u' v')
  have e4 : v' / Nat.gcd u' v' * Nat.gcd u' v' = v' := Nat.div_mul_cancel (Nat.gcd_dvd_right u' v')
  generalize Nat.gcd u v = g at *
  generalize Nat.gcd u' v' = g' at *
  generalize u / g = a at *
  generalize v / g = b at *
  generalize u' / g' = a' at *
  generalize v' / g' = b' at *
  have hb : 0 < b := by
    rcases Nat.eq_zero_or_pos b with z | z
    · rw [z, Nat.zero_mul] at e2; omega
    · exact z
  have key : a * b' = a' * b := by
    rw [← e1, ← e2, ← e3, ← e4] at h
    have h2 : (g * g') * (a * b') = (g * g') * (a' * b) := by
      rw [show g * g' * (a * b') = a * g * (b' * g') by rw [Nat.mul_mul_mul_comm, Nat.mul_comm g a, Nat.mul_comm g' b'], h, show g * g' * (a' * b) = a' * g' * (b * g) by rw [Nat.mul_comm g g', Nat.mul_mul_mul_comm, Nat.mul_comm g' a', Nat.mul_comm g b]]
    exact Nat.eq_of_mul_eq_mul_left (Nat.mul_pos g0 g0') h2
  have d1 : b ∣ b' := Nat.Coprime.dvd_of_dvd_mul_left (Nat.Coprime.symm c) ⟨a', by rw [key, Nat.mul_comm]⟩
  have d2 : b' ∣ b := Nat.Coprime.dvd_of_dvd_mul_left (Nat.Coprime.symm c') ⟨a, by rw [← key, Nat.mul_comm]⟩
  have hbb : b = b' := Nat.dvd_antisymm d1 d2
  refine ⟨?_, hbb⟩
  rw [← hbb] at key
  exact Nat.eq_of_mul_eq_mul_right hb key
theorem red_eq {u v u' v' : Nat} (hv : 0 < v) (hv' : 0 < v') (h : u * v' = u' * v) (s : Bool) : redN s u v = redN s u' v' ∧ redD u v = redD u' v' ∧ redE u v = redE u' v' := by
  obtain ⟨h1, h2⟩ := low_eq hv hv' h
  unfold redN redD redE fits
  rw [h1, h2]
  exact ⟨rfl, rfl, rfl⟩
theorem red_small {u v : Nat} (hv : 0 < v) (h1 : u ≤ M) (h2 : v ≤ M) : redN false u v = ((u / Nat.gcd u v : Nat) : Int) ∧ redD u v = ((v / Nat.gcd u v : Nat) : Int) ∧ redE u v = 0 := by
  have f : fits u v = true := by
    unfold fits
    rw [decide_eq_true_iff]
    exact ⟨Nat.le_trans (Nat.div_le_self _ _) h1, Nat.le_trans (Nat.div_le_self _ _) h2⟩
  unfold redN redD redE
  rw [f]
  exact ⟨rfl, rfl, rfl⟩
end CoRat
namespace Go.Proofs.YticekkjambkifaaDoor.Rt
open Go.RowKit CoRat

theorem mk_small {a b : Nat} (hb : 0 < b) (h1 : a ≤ M) (h2 : b ≤ M) : mkN a b = ((a / Nat.gcd a b : Nat) : Int) ∧ mkD a b = ((b / Nat.gcd a b : Nat) : Int) ∧ mkE a b = 0 := by
  have hb' : ¬ ((b : Int) = 0) := by omega
  unfold mkN mkD mkE
  rw [if_neg hb', if_neg hb', if_neg hb', decide_eq_false (by omega : ¬ ((a : Int) < 0)), decide_eq_false (by omega : ¬ ((b : Int) < 0))]
  exact red_small hb h1 h2
theorem ok_small {a b : Nat} (hb : 0 < b) (h1 : a ≤ M) (h2 : b ≤ M) : okF ((a / Nat.gcd a b : Nat) : Int) ((b / Nat.gcd a b : Nat) : Int) = true := by
  have g0 : 0 < Nat.gcd a b := Nat.gcd_pos_of_pos_right a hb
  have c : Nat.gcd (a / Nat.gcd a b) (b / Nat.gcd a b) = 1 := Nat.coprime_div_gcd_div_gcd g0
  have l1 : a / Nat.gcd a b ≤ a := Nat.div_le_self _ _
  have l2 : b / Nat.gcd a b ≤ b := Nat.div_le_self _ _
  have l3 : 0 < b / Nat.gcd a b := Nat.div_pos (Nat.le_of_dvd hb (Nat.gcd_dvd_right a b)) g0
  unfold M at h1 h2
  unfold okF
  rw [decide_eq_true_iff]
  generalize a / Nat.gcd a b = x at *
  generalize b / Nat.gcd a b = y at *
  refine ⟨by omega, by omega, by omega, by omega, ?_⟩
  simpa using c

set_option maxHeartbeats 400000 in
theorem mod_any (n k : Int) (w : World) (hk : 0 < k) (hk2 : k ≤ 4611686018427387904) :
    Calls Tryd.prog 49 #[.int .i64 n, .int .i64 k] w fun e w' => e = .returned (.int .i64 (n % k)) ∧ w = w' := by
  obtain ⟨T, hT⟩ : ∃ T, n.tmod k = T := ⟨_, rfl⟩
  have h1 : T < k := hT ▸ Int.tmod_lt_of_pos n hk
  have h2 : -k < T := by
    have := Int.tmod_lt_of_pos (-n) hk
    rw [Int.neg_tmod, hT] at this
    omega
  have h3 : Hid (n % k = (T + k) % k) := Lib.hid (by
    rw [Int.add_emod_right, ← hT]
    have e1 := Int.mul_tdiv_add_tmod n k
    conv => lhs; rw [← e1]
    rw [Int.mul_add_emod_self_left])
  go_enter Tryd.func49, Tryd.ntmps49
  go_wp2
  go_ret
  exact ⟨retInt h3.out.symm, rfl⟩

set_option maxHeartbeats 400000 in
theorem of_f (a b : Int) (w : World) (a0 : -9223372036854775808 ≤ a) (a1 : a ≤ 9223372036854775807) (b0 : -9223372036854775808 ≤ b) (b1 : b ≤ 9223372036854775807) :
    Calls Tryd.prog 26 #[.int .i64 a, .int .i64 b] w fun e w' => e = .returned (.agg #[.int .i64 (mkN a b), .int .i64 (mkD a b)]) ∧ Below w.heap.size w w' := by
  go_enter Tryd.func26, Tryd.ntmps26
  go_wp2_with fail
  refine (rmake_any a b _ a0 a1 b0 b1).mono ?_; rintro e w1 ⟨rfl, hb⟩; obtain ⟨hc, hf⟩ := bat hb (w.heap.size + 1) (by simp)
  have s1 : w.heap.size < w1.heap.size := by have := hb.size; simp at this; omega
  go_wp2_with fail
  refine bodyPost_ret (v := .agg #[.int .i64 (mkN a b), .int .i64 (mkD a b)]) (by simp [results, Tryd.results26, go_sem, hc, s1]) rfl ?_
  exact ⟨rfl, (two_below ((by go_grown : Below w.heap.size w _).trans (hb.mono (by simp))) (by omega) _ _).alloc (by simp; omega) _⟩
end Go.Proofs.YticekkjambkifaaDoor.Rt

/- Cmp of package ratio. -/
set_option linter.unusedVariables false
namespace Go.Proofs.YticekkjambkifaaDoor.Rt
open Go.RowKit CoRat

/-- What Cmp answers. -/
def cmpF (a b c d : Int) : Int := if okF a b && okF c d then (a * d - c * b).sign else 0
theorem cmp_pos (A C D E : Nat) : (A * D = C * E → ((A : Int) * D - C * E).sign = 0) ∧ (A * D < C * E → ((A : Int) * D - C * E).sign = -1) ∧ (C * E < A * D → ((A : Int) * D - C * E).sign = 1) := by
  rw [← Int.natCast_mul, ← Int.natCast_mul]
  generalize A * D = P
  generalize C * E = Q
  refine ⟨fun h => ?_, fun h => Int.sign_eq_neg_one_of_neg (by omega), fun h => Int.sign_eq_one_of_pos (by omega)⟩
  rw [h, Int.sub_self]
  try rfl
theorem cmp_neg (A C D E : Nat) : (A * D = C * E → (-(A : Int) * D - -(C : Int) * E).sign = 0) ∧ (A * D < C * E → (-(A : Int) * D - -(C : Int) * E).sign = 1) ∧ (C * E < A * D → (-(A : Int) * D - -(C : Int) * E).sign = -1) := by
  rw [Int.neg_mul, Int.neg_mul, ← Int.natCast_mul, ← Int.natCast_mul]
  generalize A * D = P
  generalize C * E = Q
  refine ⟨fun h => ?_, fun h => Int.sign_eq_one_of_pos (by omega), fun h => Int.sign_eq_neg_one_of_neg (by omega)⟩
  rw [h]; have : -(Q : Int) - -(Q : Int) = 0 := by omega
  rw [this]; rfl

theorem cmp_mixed (a b c d X Y : Int) (hX : X = -1 ∧ a < 0 ∨ X = 0 ∧ a = 0 ∨ X = 1 ∧ 0 < a) (hY : Y = -1 ∧ c < 0 ∨ Y = 0 ∧ c = 0 ∨ Y = 1 ∧ 0 < c) (hb : 0 < b) (hd : 0 < d) (h1 : ¬ (0 < a ∧ 0 < c)) (h2 : ¬ (a < 0 ∧ c < 0)) :
    (a * d - c * b).sign = (X - Y).sign := by
  rcases hX with ⟨rfl, ha⟩ | ⟨rfl, ha⟩ | ⟨rfl, ha⟩ <;> rcases hY with ⟨rfl, hc⟩ | ⟨rfl, hc⟩ | ⟨rfl, hc⟩
  · omega
  · rw [hc, Int.zero_mul, Int.sub_zero, Int.sign_eq_neg_one_of_neg (Int.mul_neg_of_neg_of_pos ha hd)]; rfl
  · have e1 := Int.mul_neg_of_neg_of_pos ha hd
    have e2 := Int.mul_pos hc hb
    rw [Int.sign_eq_neg_one_of_neg (by omega)]; rfl
  · rw [ha, Int.zero_mul]
    have e2 := Int.mul_neg_of_neg_of_pos hc hb
    rw [Int.sign_eq_one_of_pos (by omega)]; rfl
  · rw [ha, hc, Int.zero_mul, Int.zero_mul]
  · rw [ha, Int.zero_mul]
    have e2 := Int.mul_pos hc hb
    rw [Int.sign_eq_neg_one_of_neg (by omega)]; rfl
  · have e1 := Int.mul_pos ha hd
    have e2 := Int.mul_neg_of_neg_of_pos hc hb
    rw [Int.sign_eq_one_of_pos (by omega)]; rfl
  · rw [hc, Int.zero_mul, Int.sub_zero, Int.sign_eq_one_of_pos (Int.mul_pos ha hd)]; rfl
  · omega

set_option maxHeartbeats 4000000 in
theorem cmp_any (a b c d : Int) (w : World) :
    Calls Tryd.prog 88 #[.agg #[.int .i64 a, .int .i64 b], .agg #[.int .i64 c, .int .i64 d]] w fun e w' => e = .returned (.int .i64 (cmpF a b c d)) ∧ Below w.heap.size w w' := by
  have okx := fun w => valid_any a b w
  have oky := fun w => valid_any c d w
  cases hx : okF a b
  · have e1 : Hid (cmpF a b c d = 0) := Lib.hid (by unfold cmpF; rw [hx]; rfl)
    rw [hx] at okx
    replace okx := Lib.hid okx
    clear hx oky
    go_enter Tryd.func88, Tryd.ntmps88
    go_wp2_with fail
    refine (okx.out _).mono ?_; rintro e w1 ⟨rfl, hb1⟩
    go_wp2_with fail
    go_returns
    exact ⟨retInt e1.out.symm, (by go_grown : Below w.heap.size w _).trans (hb1.mono (by simp; omega))⟩
  · rw [hx] at okx
    replace okx := Lib.hid okx
    cases hy : okF c d
    · have e1 : Hid (cmpF a b c d = 0) := Lib.hid (by unfold cmpF; rw [hx, hy]; rfl)
      rw [hy] at oky
      replace oky := Lib.hid oky
      clear hx hy
      go_enter Tryd.func88, Tryd.ntmps88
      go_wp2_with fail
      refine (okx.out _).mono ?_; rintro e w1 ⟨rfl, hb1⟩; obtain ⟨hc1, hf1⟩ := bat hb1 (w.heap.size + 2) (by simp)
      have s1 : w.heap.size + 2 ≤ w1.heap.size := by have := hb1.size; simp at this; omega
      go_wp2_with fail
      refine (oky.out _).mono ?_; rintro e w2 ⟨rfl, hb2⟩
      go_wp2_with fail
      go_returns
      exact ⟨retInt e1.out.symm, ((by go_grown : Below w.heap.size w _).trans (hb1.mono (by simp; omega))).trans (hb2.mono (by omega))⟩
    · rw [hy] at oky
      replace oky := Lib.hid oky
      have e1 : Hid (cmpF a b c d = (a * d - c * b).sign) := Lib.hid (by unfold cmpF; rw [hx, hy]; rfl)
      have bx := okF_bd hx
      have bz := okF_bd hy
      clear hx hy
      by_cases hpp : 0 < a ∧ 0 < c
      · -- both pos
        obtain ⟨A, hA⟩ := Int.eq_ofNat_of_zero_le (show 0 ≤ a by omega)
        obtain ⟨C, hC⟩ := Int.eq_ofNat_of_zero_le (show 0 ≤ c by omega)
        obtain ⟨E, rfl⟩ := Int.eq_ofNat_of_zero_le (show 0 ≤ b by omega)
        obtain ⟨D, rfl⟩ := Int.eq_ofNat_of_zero_le (show 0 ≤ d by omega)
        obtain rfl : a = (A : Int) := by omega
        obtain rfl : c = (C : Int) := by omega
        have mP := fun w => mul64_any A D w (by omega) (by omega)
        have mQ := fun w => mul64_any C E w (by omega) (by omega)
        have sA := fun w => sign_any ((A : Int)) w
        have sC := fun w => sign_any ((C : Int)) w
        rw [Int.sign_eq_one_of_pos (by omega)] at sA
        rw [Int.sign_eq_one_of_pos (by omega)] at sC
        have hv := Lib.hid (cmp_pos A C D E)
        have hPB := prod_lt A D (by omega) (by omega)
        have hQB := prod_lt C E (by omega) (by omega)
        have vP := (W.mk (A * D)).val
        have vQ := (W.mk (C * E)).val
        have bP := (W.mk (A * D)).bd hPB
        have bQ := (W.mk (C * E)).bd hQB
        have A1 : (1 : Int) ≤ A := by omega
        have A2 : (A : Int) ≤ 1152921504606846976 := by omega
        have C1 : (1 : Int) ≤ C := by omega
        have C2 : (C : Int) ≤ 1152921504606846976 := by omega
        have D1 : (0 : Int) ≤ D := by omega
        have D2 : (D : Int) ≤ 1152921504606846976 := by omega
        have E1 : (0 : Int) ≤ E := by omega
        have E2 : (E : Int) ≤ 1152921504606846976 := by omega
        generalize A * D = P at *
        generalize C * E = Q at *
        replace vP := Lib.hid vP
        replace vQ := Lib.hid vQ
        replace bP := Lib.hid bP
        replace bQ := Lib.hid bQ
        replace mP := Lib.hid mP
        replace mQ := Lib.hid mQ
        replace sA := Lib.hid sA
        replace sC := Lib.hid sC
        clear bx bz hA hC hPB hQB
        go_enter Tryd.func88, Tryd.ntmps88
        go_wp2_with fail
        refine (okx.out _).mono ?_; rintro e w1 ⟨rfl, hb1⟩; obtain ⟨hc1, hf1⟩ := bat hb1 (w.heap.size + 2) (by simp)
        have s1 : w.heap.size + 2 ≤ w1.heap.size := by have := hb1.size; simp at this; omega
        go_wp2_with fail
        refine (oky.out _).mono ?_; rintro e w2 ⟨rfl, hb2⟩; obtain ⟨hc2, hf2⟩ := bat hb2 (w.heap.size + 2) s1
        go_wp2_with fail
        refine (sA.out _).mono ?_; rintro e w3 ⟨rfl, rfl⟩
        go_wp2_with fail
        refine (sC.out _).mono ?_; rintro e w3 ⟨rfl, rfl⟩
        go_wp2_with fail
        refine (mP.out _).mono ?_; rintro e w3 ⟨rfl, rfl⟩
        go_wp2_with fail
        refine (mQ.out _).mono ?_; rintro e w3 ⟨rfl, rfl⟩
        have b2 : Below w.heap.size w w2 := ((by go_grown : Below w.heap.size w _).trans (hb1.mono (by simp; omega))).trans (hb2.mono (by omega))
        clear hc1 hf1 hc2 hf2 hb1 hb2
        go_wp2_with fail
        all_goals go_returns
        all_goals
          have vP := vP.out
          have vQ := vQ.out
          have bP := bP.out
          have bQ := bQ.out
          refine ⟨retInt ?_, b2⟩
          rw [e1.out]
        all_goals try simp only [beq_iff_eq, beq_eq_false_iff_ne, ne_eq] at *
        all_goals obtain ⟨v1, v2, v3⟩ := hv.out
        all_goals first | exact (v1 (by omega)).symm | exact (v2 (by omega)).symm | exact (v3 (by omega)).symm
      · by_cases hnn : a < 0 ∧ c < 0
        · -- both neg
          obtain ⟨A, hA⟩ := Int.eq_ofNat_of_zero_le (show 0 ≤ -a by omega)
          obtain ⟨C, hC⟩ := Int.eq_ofNat_of_zero_le (show 0 ≤ -c by omega)
          obtain ⟨E, rfl⟩ := Int.eq_ofNat_of_zero_le (show 0 ≤ b by omega)
          obtain ⟨D, rfl⟩ := Int.eq_ofNat_of_zero_le (show 0 ≤ d by omega)
          obtain rfl : a = -(A : Int) := by omega
          obtain rfl : c = -(C : Int) := by omega
          have mP := fun w => mul64_any A D w (by omega) (by omega)
          have mQ := fun w => mul64_any C E w (by omega) (by omega)
          have sA := fun w => sign_any (-(A : Int)) w
          have sC := fun w => sign_any (-(C : Int)) w
          rw [Int.sign_eq_neg_one_of_neg (by omega)] at sA
          rw [Int.sign_eq_neg_one_of_neg (by omega)] at sC
          have hv := Lib.hid (cmp_neg A C D E)
          have hPB := prod_lt A D (by omega) (by omega)
          have hQB := prod_lt C E (by omega) (by omega)
          have vP := (W.mk (A * D)).val
          have vQ := (W.mk (C * E)).val
          have bP := (W.mk (A * D)).bd hPB
          have bQ := (W.mk (C * E)).bd hQB
          have A1 : (1 : Int) ≤ A := by omega
          have A2 : (A : Int) ≤ 1152921504606846976 := by omega
          have C1 : (1 : Int) ≤ C := by omega
          have C2 : (C : Int) ≤ 1152921504606846976 := by omega
          have D1 : (0 : Int) ≤ D := by omega
          have D2 : (D : Int) ≤ 1152921504606846976 := by omega
          have E1 : (0 : Int) ≤ E := by omega
          have E2 : (E : Int) ≤ 1152921504606846976 := by omega
          generalize A * D = P at *
          generalize C * E = Q at *
          replace vP := Lib.hid vP
          replace vQ := Lib.hid vQ
          replace bP := Lib.hid bP
          replace bQ := Lib.hid bQ
          replace mP := Lib.hid mP
          replace mQ := Lib.hid mQ
          replace sA := Lib.hid sA
          replace sC := Lib.hid sC
          clear bx bz hA hC hPB hQB
          go_enter Tryd.func88, Tryd.ntmps88
          go_wp2_with fail
          refine (okx.out _).mono ?_; rintro e w1 ⟨rfl, hb1⟩; obtain ⟨hc1, hf1⟩ := bat hb1 (w.heap.size + 2) (by simp)
          have s1 : w.heap.size + 2 ≤ w1.heap.size := by have := hb1.size; simp at this; omega
          go_wp2_with fail
          refine (oky.out _).mono ?_; rintro e w2 ⟨rfl, hb2⟩; obtain ⟨hc2, hf2⟩ := bat hb2 (w.heap.size + 2) s1
          go_wp2_with fail
          refine (sA.out _).mono ?_; rintro e w3 ⟨rfl, rfl⟩
          go_wp2_with fail
          refine (sC.out _).mono ?_; rintro e w3 ⟨rfl, rfl⟩
          go_wp2_with fail
          refine (mP.out _).mono ?_; rintro e w3 ⟨rfl, rfl⟩
          go_wp2_with fail
          refine (mQ.out _).mono ?_; rintro e w3 ⟨rfl, rfl⟩
          have b2 : Below w.heap.size w w2 := ((by go_grown : Below w.heap.size w _).trans (hb1.mono (by simp; omega))).trans (hb2.mono (by omega))
          clear hc1 hf1 hc2 hf2 hb1 hb2
          go_wp2_with fail
          all_goals go_returns
          all_goals
            have vP := vP.out
            have vQ := vQ.out
            have bP := bP.out
            have bQ := bQ.out
            refine ⟨retInt ?_, b2⟩
            rw [e1.out]
          all_goals try simp only [beq_iff_eq, beq_eq_false_iff_ne, ne_eq] at *
          all_goals obtain ⟨v1, v2, v3⟩ := hv.out
          all_goals first | exact (v1 (by omega)).symm | exact (v2 (by omega)).symm | exact (v3 (by omega)).symm
        · -- signs that differ, or 0
          obtain ⟨X, hX⟩ : ∃ X, a.sign = X := ⟨_, rfl⟩
          obtain ⟨Y, hY⟩ : ∃ Y, c.sign = Y := ⟨_, rfl⟩
          have sA := fun w => sign_any a w
          have sC := fun w => sign_any c w
          rw [hX] at sA
          rw [hY] at sC
          have hXb : X = -1 ∧ a < 0 ∨ X = 0 ∧ a = 0 ∨ X = 1 ∧ 0 < a := by
            rcases Int.lt_trichotomy a 0 with h | h | h
            · exact .inl ⟨by rw [← hX]; exact Int.sign_eq_neg_one_of_neg h, h⟩
            · exact .inr (.inl ⟨by rw [← hX, h]; rfl, h⟩)
            · exact .inr (.inr ⟨by rw [← hX]; exact Int.sign_eq_one_of_pos h, h⟩)
          have hYb : Y = -1 ∧ c < 0 ∨ Y = 0 ∧ c = 0 ∨ Y = 1 ∧ 0 < c := by
            rcases Int.lt_trichotomy c 0 with h | h | h
            · exact .inl ⟨by rw [← hY]; exact Int.sign_eq_neg_one_of_neg h, h⟩
            · exact .inr (.inl ⟨by rw [← hY, h]; rfl, h⟩)
            · exact .inr (.inr ⟨by rw [← hY]; exact Int.sign_eq_one_of_pos h, h⟩)
          have hr : Hid ((a * d - c * b).sign = (X - Y).sign) := Lib.hid (cmp_mixed a b c d X Y hXb hYb (by omega) (by omega) hpp hnn)
          have hsd := fun w => sign_any (X - Y) w
          have g1 : -1 ≤ X := by omega
          have g2 : X ≤ 1 := by omega
          have g3 : -1 ≤ Y := by omega
          have g4 : Y ≤ 1 := by omega
          have hd : (X != Y) = true ∨ (X != Y) = false ∧ (X == 0) = true := by
            by_cases h : X = Y
            · right; simp; omega
            · left; simpa using h
          replace hsd := Lib.hid hsd
          replace sA := Lib.hid sA
          replace sC := Lib.hid sC
          clear bx bz hX hY hXb hYb hpp hnn
          rcases hd with hd | ⟨hd, hd2⟩
          all_goals
            go_enter Tryd.func88, Tryd.ntmps88
            go_wp2_with fail
            refine (okx.out _).mono ?_; rintro e w1 ⟨rfl, hb1⟩; obtain ⟨hc1, hf1⟩ := bat hb1 (w.heap.size + 2) (by simp)
            have s1 : w.heap.size + 2 ≤ w1.heap.size := by have := hb1.size; simp at this; omega
            go_wp2_with fail
            refine (oky.out _).mono ?_; rintro e w2 ⟨rfl, hb2⟩; obtain ⟨hc2, hf2⟩ := bat hb2 (w.heap.size + 2) s1
            go_wp2_with fail
            refine (sA.out _).mono ?_; rintro e w3 ⟨rfl, rfl⟩
            go_wp2_with fail
            refine (sC.out _).mono ?_; rintro e w3 ⟨rfl, rfl⟩
            go_wp2_with fail
            refine (hsd.out _).mono ?_; rintro e w3 ⟨rfl, rfl⟩
            go_wp2_with fail
            go_returns
            exact ⟨retInt (by rw [e1.out, hr.out]), ((by go_grown : Below w.heap.size w _).trans (hb1.mono (by simp; omega))).trans (hb2.mono (by omega))⟩
end Go.Proofs.YticekkjambkifaaDoor.Rt
