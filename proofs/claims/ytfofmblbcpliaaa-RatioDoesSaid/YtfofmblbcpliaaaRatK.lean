/- Floor, the sanity check awake, and RatioMakes. -/
import Derived.Test.YtfofmblbcpliaaaRefE
set_option linter.unusedVariables false
namespace Go.Proofs.Ytfofmblbcpliaaa.Rt
open Go.RowKit CoRat

def flF (n d : Int) : Int := if okF n d then n / d else 0
set_option maxHeartbeats 1000000 in
theorem floor_any (n d : Int) (w : World) :
    Calls Try.prog 20 #[.agg #[.int .i64 n, .int .i64 d]] w fun e w' => e = .returned (.int .i64 (flF n d)) ∧ Below w.heap.size w w' := by
  have va := fun w => valid_any n d w
  cases ho : okF n d
  · rw [ho] at va
    replace va := Lib.hid va
    replace ho := Lib.hid ho
    go_enter Try.func20, Try.ntmps20
    go_wp2_with fail
    refine (va.out _).mono ?_; rintro e w1 ⟨rfl, hb⟩
    go_wp2_with fail
    go_returns
    exact ⟨retInt (by unfold flF; rw [ho.out]; rfl), ((Below.refl _ _).alloc (Nat.le_refl _) _).trans (hb.mono (by simp))⟩
  · have hbd : -1152921504606846976 ≤ n ∧ n ≤ 1152921504606846976 ∧ 1 ≤ d ∧ d ≤ 1152921504606846976 := by
      unfold okF at ho; have := of_decide_eq_true ho; omega
    obtain ⟨h1, h2, h3, h4⟩ := hbd
    rw [ho] at va
    replace va := Lib.hid va
    replace ho := Lib.hid ho
    by_cases hn : n < 0
    · have q1 : n.tdiv d = -(-n / d) := by
        obtain ⟨m, hm⟩ := Int.eq_ofNat_of_zero_le (show 0 ≤ -n by omega)
        obtain rfl : n = -(m : Int) := by omega
        rw [Int.neg_tdiv, Int.tdiv_eq_ediv_of_nonneg (by omega), Int.neg_neg]
      have q2 : n.tmod d = -(-n % d) := by
        obtain ⟨m, hm⟩ := Int.eq_ofNat_of_zero_le (show 0 ≤ -n by omega)
        obtain rfl : n = -(m : Int) := by omega
        rw [Int.neg_tmod, Int.tmod_eq_emod_of_nonneg (by omega), Int.neg_neg]
      obtain ⟨Q, hQ⟩ : ∃ Q, -n / d = Q := ⟨_, rfl⟩
      obtain ⟨R, hR⟩ : ∃ R, -n % d = R := ⟨_, rfl⟩
      have hR0 : 0 ≤ R := hR ▸ Int.emod_nonneg _ (by omega)
      have hR1 : R < d := hR ▸ Int.emod_lt_of_pos _ (by omega)
      have hQ0 : 0 ≤ Q := hQ ▸ Int.ediv_nonneg (by omega) (by omega)
      have hQ1 : Q ≤ 1152921504606846976 := by
        have := Int.ediv_le_self d (show 0 ≤ -n by omega)
        omega
      have hfl : Hid (n / d = if R = 0 then -Q else -Q - 1) := Lib.hid (by
        have e1 := Int.mul_ediv_add_emod (-n) d
        rw [hQ, hR] at e1
        split
        · rename_i hz
          have : n = d * (-Q) := by rw [Int.mul_neg]; omega
          rw [this, Int.mul_ediv_cancel_left _ (by omega)]
        · rename_i hz
          have : n = (d - R) + d * (-Q - 1) := by rw [Int.mul_sub, Int.mul_neg]; omega
          rw [this, Int.add_mul_ediv_left _ _ (by omega), Int.ediv_eq_zero_of_lt (by omega) (by omega)]
          omega)
      rw [hQ] at q1
      rw [hR] at q2
      clear hQ hR
      by_cases hz : R = 0
      · have hz' : (-R != 0) = false := by simp [hz]
        have hz2 : (R != 0) = false := by simp [hz]
        replace hz := Lib.hid hz
        go_enter Try.func20, Try.ntmps20
        go_wp2_with fail
        refine (va.out _).mono ?_; rintro e w1 ⟨rfl, hb⟩; obtain ⟨hc, hf⟩ := bat hb (w.heap.size + 1) (by simp)
        go_wp2_with fail
        go_returns
        exact ⟨retInt (by unfold flF; rw [ho.out, if_pos rfl, hfl.out]; simp [hz.out]), ((Below.refl _ _).alloc (Nat.le_refl _) _).trans (hb.mono (by simp))⟩
      · have hz' : (-R != 0) = true := by simp; omega
        have hz2 : (R != 0) = true := by simp; omega
        replace hz := Lib.hid hz
        go_enter Try.func20, Try.ntmps20
        go_wp2_with fail
        refine (va.out _).mono ?_; rintro e w1 ⟨rfl, hb⟩; obtain ⟨hc, hf⟩ := bat hb (w.heap.size + 1) (by simp)
        go_wp2_with fail
        go_returns
        exact ⟨retInt (by unfold flF; rw [ho.out, if_pos rfl, hfl.out]; simp [hz.out]), ((Below.refl _ _).alloc (Nat.le_refl _) _).trans (hb.mono (by simp))⟩
    · have q1 : 0 ≤ n / d := Int.ediv_nonneg (by omega) (by omega)
      have q2 : n / d ≤ 1152921504606846976 := by
        have := Int.ediv_le_self d (show 0 ≤ n by omega)
        omega
      go_enter Try.func20, Try.ntmps20
      go_wp2_with fail
      refine (va.out _).mono ?_; rintro e w1 ⟨rfl, hb⟩; obtain ⟨hc, hf⟩ := bat hb (w.heap.size + 1) (by simp)
      go_wp2_with fail
      all_goals go_returns
      all_goals exact ⟨retInt (by unfold flF; rw [ho.out, if_pos rfl]), ((Below.refl _ _).alloc (Nat.le_refl _) _).trans (hb.mono (by simp))⟩

theorem mk64 : mkN 6 (-4) = -3 ∧ mkD 6 (-4) = 2 ∧ mkE 6 (-4) = 0 := by decide
theorem fl32 : flF (-3) 2 = -2 := by decide
theorem ok32 : okF (-3) 2 = true := by decide
set_option maxHeartbeats 1000000 in
theorem awake_any (w : World) :
    Calls Try.prog 12 #[] w fun e w' => e = .returned (.bool true) ∧ Below w.heap.size w w' := by
  have mk := fun w => make_any 6 (-4) w (by omega) (by omega) (by omega) (by omega)
  have fl := fun w => floor_any (-3) 2 w
  have ok := fun w => valid_any (-3) 2 w
  rw [mk64.1, mk64.2.1, mk64.2.2] at mk
  rw [fl32] at fl
  rw [ok32] at ok
  replace mk := Lib.hid mk
  replace fl := Lib.hid fl
  replace ok := Lib.hid ok
  go_enter Try.func12, Try.ntmps12
  go_wp2_with fail
  refine (mk.out _).mono ?_; rintro e w1 ⟨rfl, hb⟩
  go_wp2_with fail
  refine (fl.out _).mono ?_; rintro e w2 ⟨rfl, hb2⟩; obtain ⟨hc2, hf2⟩ := bat hb2 (w1.heap.size + 1) (by simp)
  go_wp2_with fail
  refine (ok.out _).mono ?_; rintro e w3 ⟨rfl, hb3⟩
  go_wp2_with fail
  go_returns
  exact ⟨rfl, (((hb.alloc hb.size _)).trans (hb2.mono (by have := hb.size; simp; omega))).trans (hb3.mono (by have := hb.size; have := hb2.size; simp at this; omega))⟩

set_option maxHeartbeats 1000000 in
theorem makes_any (n d a b : Int) (w : World) (a0 : -9223372036854775808 ≤ a) (a1 : a ≤ 9223372036854775807) (b0 : -9223372036854775808 ≤ b) (b1 : b ≤ 9223372036854775807) :
    Calls Try.prog 3 #[.agg #[.int .i64 n, .int .i64 d], .int .i64 a, .int .i64 b] w fun e w' => e = .returned (.bool true) ∧ Below w.heap.size w w' := by
  obtain ⟨X, hX⟩ : ∃ X, mkN a b = X := ⟨_, rfl⟩
  obtain ⟨Y, hY⟩ : ∃ Y, mkD a b = Y := ⟨_, rfl⟩
  obtain ⟨Z, hZ⟩ : ∃ Z, mkE a b = Z := ⟨_, rfl⟩
  have mk := fun w => make_any a b w a0 a1 b0 b1
  have rk := fun w => rmake_any a b w a0 a1 b0 b1
  rw [hX, hY, hZ] at mk rk
  clear hX hY hZ
  have ok := fun w => valid_any n d w
  have rok := fun w => rvalid_any n d w
  generalize okF n d = K at ok rok
  replace mk := Lib.hid mk
  replace rk := Lib.hid rk
  replace ok := Lib.hid ok
  replace rok := Lib.hid rok
  go_enter Try.func3, Try.ntmps3
  go_wp2_with fail
  refine (mk.out _).mono ?_; rintro e w1 ⟨rfl, hb⟩; obtain ⟨hc, hf⟩ := bat hb (w.heap.size + 1) (by simp)
  have s1 : w.heap.size + 1 ≤ w1.heap.size := by have := hb.size; simpa using this
  have s1' : w.heap.size < w1.heap.size := by omega
  go_wp2_with fail
  refine (rk.out _).mono ?_; rintro e w2 ⟨rfl, hb2⟩; obtain ⟨hc2, hf2⟩ := bat hb2 (w.heap.size + 1) (by simp; omega)
  obtain ⟨hd2, hg2⟩ := bat hb2 (w1.heap.size + 1) (by simp)
  have s2 : w1.heap.size + 1 ≤ w2.heap.size := by have := hb2.size; simpa using this
  have s2' : w1.heap.size < w2.heap.size := by omega
  have s2'' : w.heap.size < w2.heap.size := by omega
  have b2 : Below w.heap.size w w2 := (((by go_grown : Below w.heap.size w _).trans (hb.mono (by simp))).alloc (by omega) _).trans (hb2.mono (by simp; omega))
  go_wp2_with fail
  go_region_with (first | (go_at_call 10; (with_reducible refine (ok.out _).mono ?_); rintro e w3 ⟨rfl, hb3⟩; obtain ⟨hc3, hf3⟩ := bat hb3 (w.heap.size + 1) (by simp; omega)) | (go_at_call 11; (with_reducible refine (rok.out _).mono ?_); rintro e w4 ⟨rfl, hb4⟩) | (go_at_call 12; (with_reducible refine (awake_any _).mono ?_); rintro e w5 ⟨rfl, hb5⟩))
  all_goals go_wp2_with fail
  all_goals go_returns
  all_goals
    have s3 := hb3.size
    have s4 := hb4.size
    simp at s3
    exact ⟨rfl, (((b2.alloc (by omega) _).drew.trans (hb3.mono (by simp; omega))).trans (hb4.mono (by omega))).trans (hb5.mono (by omega))⟩
end Go.Proofs.Ytfofmblbcpliaaa.Rt

namespace Go.Proofs.Ytfofmblbcpliaaa.Rt
open Go.RowKit CoRat

/-- A product of two numbers over a product of two numbers, in lowest terms. -/
def qN (a b c d : Int) : Int := redN ((decide (a < 0) != decide (b < 0)) != (decide (c < 0) != decide (d < 0))) (a.natAbs * b.natAbs) (c.natAbs * d.natAbs)
def qD (a b c d : Int) : Int := redD (a.natAbs * b.natAbs) (c.natAbs * d.natAbs)
def qE (a b c d : Int) : Int := redE (a.natAbs * b.natAbs) (c.natAbs * d.natAbs)
theorem neg_mul_sign (a b : Int) (h : a * b ≠ 0) : decide (a * b < 0) = (decide (a < 0) != decide (b < 0)) := by
  have ha : a ≠ 0 := fun e => h (by rw [e, Int.zero_mul])
  have hb : b ≠ 0 := fun e => h (by rw [e, Int.mul_zero])
  rcases Int.lt_or_gt_of_ne ha with h1 | h1 <;> rcases Int.lt_or_gt_of_ne hb with h2 | h2
  · have := Int.mul_pos_of_neg_of_neg h1 h2
    rw [decide_eq_false (by omega : ¬ a * b < 0), decide_eq_true h1, decide_eq_true h2]; rfl
  · have := Int.mul_neg_of_neg_of_pos h1 h2
    rw [decide_eq_true this, decide_eq_true h1, decide_eq_false (by omega : ¬ b < 0)]; rfl
  · have := Int.mul_neg_of_pos_of_neg h1 h2
    rw [decide_eq_true this, decide_eq_false (by omega : ¬ a < 0), decide_eq_true h2]; rfl
  · have := Int.mul_pos h1 h2
    rw [decide_eq_false (by omega : ¬ a * b < 0), decide_eq_false (by omega : ¬ a < 0), decide_eq_false (by omega : ¬ b < 0)]; rfl
theorem q_of_low (a b c d : Int) (h : c * d ≠ 0) : redN (decide (a * b < 0) != decide (c * d < 0)) (a * b).natAbs (c * d).natAbs = qN a b c d ∧ redD (a * b).natAbs (c * d).natAbs = qD a b c d ∧ redE (a * b).natAbs (c * d).natAbs = qE a b c d := by
  unfold qN qD qE
  rw [Int.natAbs_mul, Int.natAbs_mul]
  refine ⟨?_, rfl, rfl⟩
  by_cases hab : a * b = 0
  · rw [← Int.natAbs_mul, hab]; exact redN_zero _ _ _
  · rw [neg_mul_sign a b hab, neg_mul_sign c d h]
/-- What Mul makes of two fractions. -/
def mulN (a b c d : Int) : Int := if okF a b && okF c d then qN a c b d else 0
def mulD (a b c d : Int) : Int := if okF a b && okF c d then qD a c b d else 0
def mulE (a b c d : Int) : Int := if okF a b && okF c d then qE a c b d else 4
/-- What Div makes of two fractions. -/
def divN (a b c d : Int) : Int := if okF a b && okF c d then (if c = 0 then 0 else qN a d b c) else 0
def divD (a b c d : Int) : Int := if okF a b && okF c d then (if c = 0 then 0 else qD a d b c) else 0
def divE (a b c d : Int) : Int := if okF a b && okF c d then (if c = 0 then 2 else qE a d b c) else 4
/-- What Add makes of two fractions. -/
def addN (a b c d : Int) : Int := if okF a b && okF c d then (if c = 0 then a else redN ((psg (a.natAbs * d.natAbs) (c.natAbs * b.natAbs) (decide (a < 0) != decide (d < 0)) ((decide (c < 0) != decide (b < 0)))) != (decide (b < 0) != decide (d < 0))) (psz (a.natAbs * d.natAbs) (c.natAbs * b.natAbs) (decide (a < 0) != decide (d < 0)) ((decide (c < 0) != decide (b < 0)))) (b.natAbs * d.natAbs)) else 0
def addD (a b c d : Int) : Int := if okF a b && okF c d then (if c = 0 then b else redD (psz (a.natAbs * d.natAbs) (c.natAbs * b.natAbs) (decide (a < 0) != decide (d < 0)) ((decide (c < 0) != decide (b < 0)))) (b.natAbs * d.natAbs)) else 0
def addE (a b c d : Int) : Int := if okF a b && okF c d then (if c = 0 then 0 else redE (psz (a.natAbs * d.natAbs) (c.natAbs * b.natAbs) (decide (a < 0) != decide (d < 0)) ((decide (c < 0) != decide (b < 0)))) (b.natAbs * d.natAbs)) else 4
/-- What Sub makes of two fractions. -/
def subN (a b c d : Int) : Int := if okF a b && okF c d then (if c = 0 then a else redN ((psg (a.natAbs * d.natAbs) (c.natAbs * b.natAbs) (decide (a < 0) != decide (d < 0)) (!(decide (c < 0) != decide (b < 0)))) != (decide (b < 0) != decide (d < 0))) (psz (a.natAbs * d.natAbs) (c.natAbs * b.natAbs) (decide (a < 0) != decide (d < 0)) (!(decide (c < 0) != decide (b < 0)))) (b.natAbs * d.natAbs)) else 0
def subD (a b c d : Int) : Int := if okF a b && okF c d then (if c = 0 then b else redD (psz (a.natAbs * d.natAbs) (c.natAbs * b.natAbs) (decide (a < 0) != decide (d < 0)) (!(decide (c < 0) != decide (b < 0)))) (b.natAbs * d.natAbs)) else 0
def subE (a b c d : Int) : Int := if okF a b && okF c d then (if c = 0 then 0 else redE (psz (a.natAbs * d.natAbs) (c.natAbs * b.natAbs) (decide (a < 0) != decide (d < 0)) (!(decide (c < 0) != decide (b < 0)))) (b.natAbs * d.natAbs)) else 4
end Go.Proofs.Ytfofmblbcpliaaa.Rt

namespace Go.Proofs.Ytfofmblbcpliaaa.Rt
open Go.RowKit CoRat

def easyB (xn xd yn yd : Int) : Bool := decide ((-1073741824 ≤ xn ∧ xn ≤ 1073741824) ∧ (-1073741824 ≤ yn ∧ yn ≤ 1073741824) ∧ (-1073741824 ≤ xd ∧ xd ≤ 1073741824) ∧ (-1073741824 ≤ yd ∧ yd ≤ 1073741824))

set_option maxHeartbeats 2000000 in
theorem easy_any (xn xd yn yd : Int) (w : World) :
    Calls Try.prog 36 #[.agg #[.int .i64 xn, .int .i64 xd], .agg #[.int .i64 yn, .int .i64 yd]] w fun e w' => e = .returned (.bool (easyB xn xd yn yd)) ∧ Below w.heap.size w w' := by
  have wxn := fun w => within_any xn 1073741824 w (by omega) (by omega)
  have wyn := fun w => within_any yn 1073741824 w (by omega) (by omega)
  have wxd := fun w => within_any xd 1073741824 w (by omega) (by omega)
  have wyd := fun w => within_any yd 1073741824 w (by omega) (by omega)
  by_cases hxn : -1073741824 ≤ xn ∧ xn ≤ 1073741824
  · rw [decide_eq_true hxn] at wxn
    replace wxn := Lib.hid wxn
    by_cases hyn : -1073741824 ≤ yn ∧ yn ≤ 1073741824
    · rw [decide_eq_true hyn] at wyn
      replace wyn := Lib.hid wyn
      by_cases hxd : -1073741824 ≤ xd ∧ xd ≤ 1073741824
      · rw [decide_eq_true hxd] at wxd
        replace wxd := Lib.hid wxd
        by_cases hyd : -1073741824 ≤ yd ∧ yd ≤ 1073741824
        · rw [decide_eq_true hyd] at wyd
          replace wyd := Lib.hid wyd
          have ho : Hid (easyB xn xd yn yd = true) := Lib.hid (by unfold easyB; rw [decide_eq_true_iff]; exact ⟨hxn, hyn, hxd, hyd⟩)
          clear hxn hyn hxd hyd
          go_enter Try.func36, Try.ntmps36
          go_wp2_with fail
          refine (wxn.out _).mono ?_; rintro e w1 ⟨rfl, rfl⟩
          go_wp2_with fail
          refine (wyn.out _).mono ?_; rintro e w1 ⟨rfl, rfl⟩
          go_wp2_with fail
          refine (wxd.out _).mono ?_; rintro e w1 ⟨rfl, rfl⟩
          go_wp2_with fail
          refine (wyd.out _).mono ?_; rintro e w1 ⟨rfl, rfl⟩
          go_wp2_with fail
          go_returns
          exact ⟨retBool ho.out.symm, by go_grown⟩
        · rw [decide_eq_false hyd] at wyd
          replace wyd := Lib.hid wyd
          have ho : Hid (easyB xn xd yn yd = false) := Lib.hid (by unfold easyB; rw [decide_eq_false_iff_not]; exact fun x => hyd x.2.2.2)
          clear hxn hyn hxd hyd
          go_enter Try.func36, Try.ntmps36
          go_wp2_with fail
          refine (wxn.out _).mono ?_; rintro e w1 ⟨rfl, rfl⟩
          go_wp2_with fail
          refine (wyn.out _).mono ?_; rintro e w1 ⟨rfl, rfl⟩
          go_wp2_with fail
          refine (wxd.out _).mono ?_; rintro e w1 ⟨rfl, rfl⟩
          go_wp2_with fail
          refine (wyd.out _).mono ?_; rintro e w1 ⟨rfl, rfl⟩
          go_wp2_with fail
          go_returns
          exact ⟨retBool ho.out.symm, by go_grown⟩
      · rw [decide_eq_false hxd] at wxd
        replace wxd := Lib.hid wxd
        have ho : Hid (easyB xn xd yn yd = false) := Lib.hid (by unfold easyB; rw [decide_eq_false_iff_not]; exact fun x => hxd x.2.2.1)
        clear hxn hyn hxd wyd
        go_enter Try.func36, Try.ntmps36
        go_wp2_with fail
        refine (wxn.out _).mono ?_; rintro e w1 ⟨rfl, rfl⟩
        go_wp2_with fail
        refine (wyn.out _).mono ?_; rintro e w1 ⟨rfl, rfl⟩
        go_wp2_with fail
        refine (wxd.out _).mono ?_; rintro e w1 ⟨rfl, rfl⟩
        go_wp2_with fail
        go_returns
        exact ⟨retBool ho.out.symm, by go_grown⟩
    · rw [decide_eq_false hyn] at wyn
      replace wyn := Lib.hid wyn
      have ho : Hid (easyB xn xd yn yd = false) := Lib.hid (by unfold easyB; rw [decide_eq_false_iff_not]; exact fun x => hyn x.2.1)
      clear hxn hyn wxd wyd
      go_enter Try.func36, Try.ntmps36
      go_wp2_with fail
      refine (wxn.out _).mono ?_; rintro e w1 ⟨rfl, rfl⟩
      go_wp2_with fail
      refine (wyn.out _).mono ?_; rintro e w1 ⟨rfl, rfl⟩
      go_wp2_with fail
      go_returns
      exact ⟨retBool ho.out.symm, by go_grown⟩
  · rw [decide_eq_false hxn] at wxn
    replace wxn := Lib.hid wxn
    have ho : Hid (easyB xn xd yn yd = false) := Lib.hid (by unfold easyB; rw [decide_eq_false_iff_not]; exact fun x => hxn x.1)
    clear hxn wyn wxd wyd
    go_enter Try.func36, Try.ntmps36
    go_wp2_with fail
    refine (wxn.out _).mono ?_; rintro e w1 ⟨rfl, rfl⟩
    go_wp2_with fail
    go_returns
    exact ⟨retBool ho.out.symm, by go_grown⟩

end Go.Proofs.Ytfofmblbcpliaaa.Rt

namespace Go.Proofs.Ytfofmblbcpliaaa.Rt
open Go.RowKit CoRat

theorem mul30 {a b : Int} (ha0 : -1073741824 ≤ a) (ha : a ≤ 1073741824) (hb0 : -1073741824 ≤ b) (hb : b ≤ 1073741824) : -1152921504606846976 ≤ a * b ∧ a * b ≤ 1152921504606846976 := by
  have h : (a * b).natAbs ≤ 1073741824 * 1073741824 := by
    rw [Int.natAbs_mul]; exact Nat.mul_le_mul (by omega) (by omega)
  omega
theorem mul60 {a b : Int} (ha0 : -1152921504606846976 ≤ a) (ha : a ≤ 1152921504606846976) (hb0 : -1152921504606846976 ≤ b) (hb : b ≤ 1152921504606846976) : a.natAbs * b.natAbs * 2 < B := by
  have h : a.natAbs * b.natAbs ≤ 1152921504606846976 * 1152921504606846976 := Nat.mul_le_mul (by omega) (by omega)
  unfold B; omega

set_option maxHeartbeats 4000000 in
theorem mul_any (a b c d : Int) (w : World) :
    Calls Try.prog 14 #[.agg #[.int .i64 a, .int .i64 b], .agg #[.int .i64 c, .int .i64 d]] w fun e w' => e = .returned (.tuple #[.agg #[.int .i64 (mulN a b c d), .int .i64 (mulD a b c d)], .int .i64 (mulE a b c d)]) ∧ Below w.heap.size w w' := by
  have okx := fun w => valid_any a b w
  have oky := fun w => valid_any c d w
  cases hx : okF a b
  · have e1 : Hid (mulN a b c d = 0 ∧ mulD a b c d = 0 ∧ mulE a b c d = 4) := Lib.hid (by unfold mulN mulD mulE; rw [hx]; exact ⟨rfl, rfl, rfl⟩)
    rw [hx] at okx
    replace okx := Lib.hid okx
    clear hx oky
    go_enter Try.func14, Try.ntmps14
    go_wp2_with fail
    refine (okx.out _).mono ?_; rintro e w1 ⟨rfl, hb1⟩; obtain ⟨hc1, hf1⟩ := bat hb1 (w.heap.size + 3) (by simp)
    go_wp2_with fail
    refine bodyPost_ret (v := .tuple #[.agg #[.int .i64 0, .int .i64 0], .int .i64 4]) (by simp [results, Try.results14, go_sem, hc1]) rfl ?_
    exact ⟨retF e1.out.1.symm e1.out.2.1.symm e1.out.2.2.symm, ((by go_grown : Below w.heap.size w _).trans (hb1.mono (by simp; omega))).trans (two_below (Below.refl _ _) (by have := hb1.size; simp at this; omega) _ _)⟩
  · rw [hx] at okx
    replace okx := Lib.hid okx
    cases hy : okF c d
    · have e1 : Hid (mulN a b c d = 0 ∧ mulD a b c d = 0 ∧ mulE a b c d = 4) := Lib.hid (by unfold mulN mulD mulE; rw [hx, hy]; exact ⟨rfl, rfl, rfl⟩)
      rw [hy] at oky
      replace oky := Lib.hid oky
      clear hx hy
      go_enter Try.func14, Try.ntmps14
      go_wp2_with fail
      refine (okx.out _).mono ?_; rintro e w1 ⟨rfl, hb1⟩; obtain ⟨hc1, hf1⟩ := bat hb1 (w.heap.size + 3) (by simp)
      have s1 : w.heap.size + 3 ≤ w1.heap.size := by have := hb1.size; simp at this; omega
      go_wp2_with fail
      refine (oky.out _).mono ?_; rintro e w2 ⟨rfl, hb2⟩; obtain ⟨hc2, hf2⟩ := bat hb2 (w.heap.size + 3) s1
      go_wp2_with fail
      refine bodyPost_ret (v := .tuple #[.agg #[.int .i64 0, .int .i64 0], .int .i64 4]) (by simp [results, Try.results14, go_sem, hc1, hc2]) rfl ?_
      exact ⟨retF e1.out.1.symm e1.out.2.1.symm e1.out.2.2.symm, (((by go_grown : Below w.heap.size w _).trans (hb1.mono (by simp; omega))).trans (hb2.mono (by omega))).trans (two_below (Below.refl _ _) (by have := hb2.size; omega) _ _)⟩
    · have e1 : Hid (mulN a b c d = qN a c b d ∧ mulD a b c d = qD a c b d ∧ mulE a b c d = qE a c b d) := Lib.hid (by unfold mulN mulD mulE; rw [hx, hy]; exact ⟨rfl, rfl, rfl⟩)
      rw [hy] at oky
      replace oky := Lib.hid oky
      have bx := okF_bd hx
      have bz := okF_bd hy
      have ea := fun w => easy_any a b c d w
      clear hx hy
      cases hz : easyB a b c d
      · rw [hz] at ea
        replace ea := Lib.hid ea
        have p1 := mul60 bx.1 bx.2.1 bz.1 bz.2.1
        have p2 := mul60 (a := b) (b := d) (by omega) (by omega) (by omega) (by omega)
        have p3 : 0 < b.natAbs * d.natAbs := Nat.mul_pos (by omega) (by omega)
        have pr1 := fun w => product_any a c w (by omega) (by omega) (by omega) (by omega)
        have pr2 := fun w => product_any b d w (by omega) (by omega) (by omega) (by omega)
        have ex := fun w => exact_any (hi (a.natAbs * c.natAbs)) (lo (a.natAbs * c.natAbs)) (hi (b.natAbs * d.natAbs)) (lo (b.natAbs * d.natAbs)) (decide (a < 0) != decide (c < 0)) (decide (b < 0) != decide (d < 0)) (a.natAbs * c.natAbs) (b.natAbs * d.natAbs) w (W.mk _) (by omega) (W.mk _) p2 p3
        obtain ⟨S1, S1h⟩ : ∃ S1, (decide (a < 0) != decide (c < 0)) = S1 := ⟨_, rfl⟩
        obtain ⟨S2, S2h⟩ : ∃ S2, (decide (b < 0) != decide (d < 0)) = S2 := ⟨_, rfl⟩
        rw [S1h] at pr1
        rw [S2h] at pr2
        rw [S1h, S2h] at ex
        replace S1h := Lib.hid S1h
        replace S2h := Lib.hid S2h
        replace pr1 := Lib.hid pr1
        replace pr2 := Lib.hid pr2
        replace ex := Lib.hid ex
        clear bx bz p1 p2 p3 hz
        go_enter Try.func14, Try.ntmps14
        go_wp2_with fail
        refine (okx.out _).mono ?_; rintro e w1 ⟨rfl, hb1⟩; obtain ⟨hc1, hf1⟩ := bat hb1 (w.heap.size + 3) (by simp)
        have s1 : w.heap.size + 3 ≤ w1.heap.size := by have := hb1.size; simp at this; omega
        go_wp2_with fail
        refine (oky.out _).mono ?_; rintro e w2 ⟨rfl, hb2⟩; obtain ⟨hc2, hf2⟩ := bat hb2 (w.heap.size + 3) s1
        have s2 : w.heap.size + 3 ≤ w2.heap.size := by have := hb2.size; omega
        go_wp2_with fail
        refine (ea.out _).mono ?_; rintro e w3 ⟨rfl, hb3⟩; obtain ⟨hc3, hf3⟩ := bat hb3 (w.heap.size + 3) s2
        have s3 : w.heap.size + 3 ≤ w3.heap.size := by have := hb3.size; omega
        have x0 : w3.cell? ⟨w.heap.size, 0, none⟩ = some (.int .i64 a) := by rw [hc3 _ _ (by omega), hc2 _ _ (by omega), hc1 _ _ (by omega)]; go_simp
        have x1 : w3.cell? ⟨w.heap.size, 1, none⟩ = some (.int .i64 b) := by rw [hc3 _ _ (by omega), hc2 _ _ (by omega), hc1 _ _ (by omega)]; go_simp
        have y0 : w3.cell? ⟨w.heap.size + 1, 0, none⟩ = some (.int .i64 c) := by rw [hc3 _ _ (by omega), hc2 _ _ (by omega), hc1 _ _ (by omega)]; go_simp
        have y1 : w3.cell? ⟨w.heap.size + 1, 1, none⟩ = some (.int .i64 d) := by rw [hc3 _ _ (by omega), hc2 _ _ (by omega), hc1 _ _ (by omega)]; go_simp
        have t0 : w3.cell? ⟨w.heap.size + 1 + 1, 0, none⟩ = some (.int .i64 0) := by rw [hc3 _ _ (by omega), hc2 _ _ (by omega), hc1 _ _ (by omega)]; go_simp
        have t1 : w3.cell? ⟨w.heap.size + 1 + 1, 1, none⟩ = some (.int .i64 0) := by rw [hc3 _ _ (by omega), hc2 _ _ (by omega), hc1 _ _ (by omega)]; go_simp
        have t2 : w3.frozen? ⟨w.heap.size + 1 + 1, 0, none⟩ = false := by rw [hf3 _ _ (by omega), hf2 _ _ (by omega), hf1 _ _ (by omega)]; go_simp
        have t3 : w3.frozen? ⟨w.heap.size + 1 + 1, 1, none⟩ = false := by rw [hf3 _ _ (by omega), hf2 _ _ (by omega), hf1 _ _ (by omega)]; go_simp
        have b3 : Below w.heap.size w w3 := (((by go_grown : Below w.heap.size w _).trans (hb1.mono (by simp; omega))).trans (hb2.mono (by omega))).trans (hb3.mono (by omega))
        clear hc1 hf1 hc2 hf2 hc3 hf3 hb1 hb2 hb3
        go_wp2_with fail
        go_region_held3 (fun w' => w'.cell? ⟨w.heap.size, 0, none⟩ = some (.int .i64 a) ∧ w'.cell? ⟨w.heap.size, 1, none⟩ = some (.int .i64 b) ∧ w'.cell? ⟨w.heap.size + 1, 0, none⟩ = some (.int .i64 c) ∧ w'.cell? ⟨w.heap.size + 1, 1, none⟩ = some (.int .i64 d))
          ((first | (go_split_ands; refine ⟨?_, ?_, ?_, ?_⟩ <;> (rw [hc4 _ _ (by omega)]; assumption)) | (go_split_ands; refine ⟨?_, ?_, ?_, ?_⟩ <;> (rw [hc5 _ _ (by omega), hc4 _ _ (by omega)]; assumption)) | (go_split_ands; refine ⟨?_, ?_, ?_, ?_⟩ <;> (rw [hc6 _ _ (by omega), hc5 _ _ (by omega), hc4 _ _ (by omega)]; assumption)) | (go_split_ands; refine ⟨?_, ?_, ?_, ?_⟩ <;> (rw [World.cell?_setCell_other _ _ _ _ (fun e => by injection e with e1; omega), World.cell?_setCell_other _ _ _ _ (fun e => by injection e with e1; omega)]; assumption)) | ((repeat' apply And.intro) <;> (go_keep; done))))
          (first | (go_at_call 37; (with_reducible refine (pr1.out _).mono ?_); rintro e w4 ⟨rfl, hb4⟩; obtain ⟨hc4, hf4⟩ := bat hb4 (w.heap.size + 3) s3; have s4 : w.heap.size + 3 ≤ w4.heap.size := Nat.le_trans s3 hb4.size; have b4 : Below w.heap.size w w4 := b3.drew.trans (hb4.mono (by simp; omega))) | (go_at_call 37; (with_reducible refine (pr2.out _).mono ?_); rintro e w5 ⟨rfl, hb5⟩; obtain ⟨hc5, hf5⟩ := bat hb5 (w.heap.size + 3) s4; have s5 : w.heap.size + 3 ≤ w5.heap.size := Nat.le_trans s4 hb5.size; have b5 : Below w.heap.size w w5 := b4.trans (hb5.mono (by omega))) | (go_at_call 30; (with_reducible refine (ex.out _).mono ?_); rintro e w6 ⟨rfl, hb6⟩; obtain ⟨hc6, hf6⟩ := bat hb6 (w.heap.size + 3) s5; have s6 : w.heap.size + 3 ≤ w6.heap.size := Nat.le_trans s5 hb6.size; have b6 : Below w.heap.size w w6 := b5.trans (hb6.mono (by omega))))
        go_wp2_with fail
        refine bodyPost_ret (v := .tuple #[.agg #[.int .i64 (redN (S1 != S2) (a.natAbs * c.natAbs) (b.natAbs * d.natAbs)), .int .i64 (redD (a.natAbs * c.natAbs) (b.natAbs * d.natAbs))], .int .i64 (redE (a.natAbs * c.natAbs) (b.natAbs * d.natAbs))]) (by simp [results, Try.results14, go_sem, hc6, hc5, hc4, t0, t1]) rfl ?_
        exact ⟨retF (by rw [e1.out.1, ← S1h.out, ← S2h.out]; rfl) (by rw [e1.out.2.1]; rfl) (by rw [e1.out.2.2]; rfl), two_below b6 (by omega) _ _⟩
      · rw [hz] at ea
        replace ea := Lib.hid ea
        have hz2 : (-1073741824 ≤ a ∧ a ≤ 1073741824) ∧ (-1073741824 ≤ c ∧ c ≤ 1073741824) ∧ (-1073741824 ≤ b ∧ b ≤ 1073741824) ∧ (-1073741824 ≤ d ∧ d ≤ 1073741824) := by
          unfold easyB at hz; exact of_decide_eq_true hz
        obtain ⟨⟨u1, u2⟩, ⟨u3, u4⟩, ⟨u5, u6⟩, ⟨u7, u8⟩⟩ := hz2
        have m1 := mul30 u1 u2 u3 u4
        have m2 := mul30 u5 u6 u7 u8
        obtain ⟨m1a, m1b⟩ := m1
        obtain ⟨m2a, m2b⟩ := m2
        have nz : b * d ≠ 0 := by
          have : 0 < b * d := Int.mul_pos (by omega) (by omega)
          omega
        have lw := fun w => lowest_any (a * c) (b * d) w (by omega) (by omega) (by omega) (by omega) nz
        have q := q_of_low a c b d nz
        rw [q.1, q.2.1, q.2.2] at lw
        replace lw := Lib.hid lw
        clear bx bz hz nz q
        go_enter Try.func14, Try.ntmps14
        go_wp2_with fail
        refine (okx.out _).mono ?_; rintro e w1 ⟨rfl, hb1⟩; obtain ⟨hc1, hf1⟩ := bat hb1 (w.heap.size + 3) (by simp)
        have s1 : w.heap.size + 3 ≤ w1.heap.size := by have := hb1.size; simp at this; omega
        go_wp2_with fail
        refine (oky.out _).mono ?_; rintro e w2 ⟨rfl, hb2⟩; obtain ⟨hc2, hf2⟩ := bat hb2 (w.heap.size + 3) s1
        have s2 : w.heap.size + 3 ≤ w2.heap.size := by have := hb2.size; omega
        go_wp2_with fail
        refine (ea.out _).mono ?_; rintro e w3 ⟨rfl, hb3⟩; obtain ⟨hc3, hf3⟩ := bat hb3 (w.heap.size + 3) s2
        have s3 : w.heap.size + 3 ≤ w3.heap.size := by have := hb3.size; omega
        go_wp2_with fail
        refine (lw.out _).mono ?_; rintro e w4 ⟨rfl, hb4⟩; obtain ⟨hc4, hf4⟩ := bat hb4 (w.heap.size + 3) s3
        go_wp2_with fail
        refine bodyPost_ret (v := .tuple #[.agg #[.int .i64 (qN a c b d), .int .i64 (qD a c b d)], .int .i64 (qE a c b d)]) (by simp [results, Try.results14, go_sem, hc4, hc3, hc2, hc1]) rfl ?_
        exact ⟨retF e1.out.1.symm e1.out.2.1.symm e1.out.2.2.symm, (((((by go_grown : Below w.heap.size w _).trans (hb1.mono (by simp; omega))).trans (hb2.mono (by omega))).trans (hb3.mono (by omega))).trans (hb4.mono (by omega))).trans (two_below (Below.refl _ _) (by have := hb4.size; omega) _ _)⟩
end Go.Proofs.Ytfofmblbcpliaaa.Rt

namespace Go.Proofs.Ytfofmblbcpliaaa.Rt
open Go.RowKit CoRat


set_option maxHeartbeats 4000000 in
theorem div_any (a b c d : Int) (w : World) :
    Calls Try.prog 15 #[.agg #[.int .i64 a, .int .i64 b], .agg #[.int .i64 c, .int .i64 d]] w fun e w' => e = .returned (.tuple #[.agg #[.int .i64 (divN a b c d), .int .i64 (divD a b c d)], .int .i64 (divE a b c d)]) ∧ Below w.heap.size w w' := by
  have okx := fun w => valid_any a b w
  have oky := fun w => valid_any c d w
  cases hx : okF a b
  · have e1 : Hid (divN a b c d = 0 ∧ divD a b c d = 0 ∧ divE a b c d = 4) := Lib.hid (by unfold divN divD divE; rw [hx]; exact ⟨rfl, rfl, rfl⟩)
    rw [hx] at okx
    replace okx := Lib.hid okx
    clear hx oky
    go_enter Try.func15, Try.ntmps15
    go_wp2_with fail
    refine (okx.out _).mono ?_; rintro e w1 ⟨rfl, hb1⟩; obtain ⟨hc1, hf1⟩ := bat hb1 (w.heap.size + 3) (by simp)
    go_wp2_with fail
    refine bodyPost_ret (v := .tuple #[.agg #[.int .i64 0, .int .i64 0], .int .i64 4]) (by simp [results, Try.results15, go_sem, hc1]) rfl ?_
    exact ⟨retF e1.out.1.symm e1.out.2.1.symm e1.out.2.2.symm, ((by go_grown : Below w.heap.size w _).trans (hb1.mono (by simp; omega))).trans (two_below (Below.refl _ _) (by have := hb1.size; simp at this; omega) _ _)⟩
  · rw [hx] at okx
    replace okx := Lib.hid okx
    cases hy : okF c d
    · have e1 : Hid (divN a b c d = 0 ∧ divD a b c d = 0 ∧ divE a b c d = 4) := Lib.hid (by unfold divN divD divE; rw [hx, hy]; exact ⟨rfl, rfl, rfl⟩)
      rw [hy] at oky
      replace oky := Lib.hid oky
      clear hx hy
      go_enter Try.func15, Try.ntmps15
      go_wp2_with fail
      refine (okx.out _).mono ?_; rintro e w1 ⟨rfl, hb1⟩; obtain ⟨hc1, hf1⟩ := bat hb1 (w.heap.size + 3) (by simp)
      have s1 : w.heap.size + 3 ≤ w1.heap.size := by have := hb1.size; simp at this; omega
      go_wp2_with fail
      refine (oky.out _).mono ?_; rintro e w2 ⟨rfl, hb2⟩; obtain ⟨hc2, hf2⟩ := bat hb2 (w.heap.size + 3) s1
      go_wp2_with fail
      refine bodyPost_ret (v := .tuple #[.agg #[.int .i64 0, .int .i64 0], .int .i64 4]) (by simp [results, Try.results15, go_sem, hc1, hc2]) rfl ?_
      exact ⟨retF e1.out.1.symm e1.out.2.1.symm e1.out.2.2.symm, (((by go_grown : Below w.heap.size w _).trans (hb1.mono (by simp; omega))).trans (hb2.mono (by omega))).trans (two_below (Below.refl _ _) (by have := hb2.size; omega) _ _)⟩
    · by_cases hc0 : c = 0
      · have e1 : Hid (divN a b c d = 0 ∧ divD a b c d = 0 ∧ divE a b c d = 2) := Lib.hid (by unfold divN divD divE; rw [hx, hy, hc0]; exact ⟨rfl, rfl, rfl⟩)
        have hcb : (c == 0) = true := by simpa using hc0
        rw [hy] at oky
        replace oky := Lib.hid oky
        clear hx hy hc0
        go_enter Try.func15, Try.ntmps15
        go_wp2_with fail
        refine (okx.out _).mono ?_; rintro e w1 ⟨rfl, hb1⟩; obtain ⟨hc1, hf1⟩ := bat hb1 (w.heap.size + 3) (by simp)
        have s1 : w.heap.size + 3 ≤ w1.heap.size := by have := hb1.size; simp at this; omega
        go_wp2_with fail
        refine (oky.out _).mono ?_; rintro e w2 ⟨rfl, hb2⟩; obtain ⟨hc2, hf2⟩ := bat hb2 (w.heap.size + 3) s1
        go_wp2_with fail
        refine bodyPost_ret (v := .tuple #[.agg #[.int .i64 0, .int .i64 0], .int .i64 2]) (by simp [results, Try.results15, go_sem, hc1, hc2]) rfl ?_
        exact ⟨retF e1.out.1.symm e1.out.2.1.symm e1.out.2.2.symm, (((by go_grown : Below w.heap.size w _).trans (hb1.mono (by simp; omega))).trans (hb2.mono (by omega))).trans (two_below (Below.refl _ _) (by have := hb2.size; omega) _ _)⟩
      · have e1 : Hid (divN a b c d = qN a d b c ∧ divD a b c d = qD a d b c ∧ divE a b c d = qE a d b c) := Lib.hid (by unfold divN divD divE; rw [hx, hy, if_neg hc0, if_neg hc0, if_neg hc0]; exact ⟨rfl, rfl, rfl⟩)
        have hcb : (c == 0) = false := by simpa using hc0
        rw [hy] at oky
        replace oky := Lib.hid oky
        have bx := okF_bd hx
        have bz := okF_bd hy
        have ea := fun w => easy_any a b c d w
        clear hx hy
        cases hz : easyB a b c d
        · rw [hz] at ea
          replace ea := Lib.hid ea
          have p1 := mul60 (a := a) (b := d) (by omega) (by omega) (by omega) (by omega)
          have p2 := mul60 (a := b) (b := c) (by omega) (by omega) (by omega) (by omega)
          have p3 : 0 < b.natAbs * c.natAbs := Nat.mul_pos (by omega) (by omega)
          have pr1 := fun w => product_any a d w (by omega) (by omega) (by omega) (by omega)
          have pr2 := fun w => product_any b c w (by omega) (by omega) (by omega) (by omega)
          have ex := fun w => exact_any (hi (a.natAbs * d.natAbs)) (lo (a.natAbs * d.natAbs)) (hi (b.natAbs * c.natAbs)) (lo (b.natAbs * c.natAbs)) (decide (a < 0) != decide (d < 0)) (decide (b < 0) != decide (c < 0)) (a.natAbs * d.natAbs) (b.natAbs * c.natAbs) w (W.mk _) (by omega) (W.mk _) p2 p3
          obtain ⟨S1, S1h⟩ : ∃ S1, (decide (a < 0) != decide (d < 0)) = S1 := ⟨_, rfl⟩
          obtain ⟨S2, S2h⟩ : ∃ S2, (decide (b < 0) != decide (c < 0)) = S2 := ⟨_, rfl⟩
          rw [S1h] at pr1
          rw [S2h] at pr2
          rw [S1h, S2h] at ex
          replace S1h := Lib.hid S1h
          replace S2h := Lib.hid S2h
          replace pr1 := Lib.hid pr1
          replace pr2 := Lib.hid pr2
          replace ex := Lib.hid ex
          clear bx bz p1 p2 p3 hz hc0
          go_enter Try.func15, Try.ntmps15
          go_wp2_with fail
          refine (okx.out _).mono ?_; rintro e w1 ⟨rfl, hb1⟩; obtain ⟨hc1, hf1⟩ := bat hb1 (w.heap.size + 3) (by simp)
          have s1 : w.heap.size + 3 ≤ w1.heap.size := by have := hb1.size; simp at this; omega
          go_wp2_with fail
          refine (oky.out _).mono ?_; rintro e w2 ⟨rfl, hb2⟩; obtain ⟨hc2, hf2⟩ := bat hb2 (w.heap.size + 3) s1
          have s2 : w.heap.size + 3 ≤ w2.heap.size := by have := hb2.size; omega
          go_wp2_with fail
          refine (ea.out _).mono ?_; rintro e w3 ⟨rfl, hb3⟩; obtain ⟨hc3, hf3⟩ := bat hb3 (w.heap.size + 3) s2
          have s3 : w.heap.size + 3 ≤ w3.heap.size := by have := hb3.size; omega
          have x0 : w3.cell? ⟨w.heap.size, 0, none⟩ = some (.int .i64 a) := by rw [hc3 _ _ (by omega), hc2 _ _ (by omega), hc1 _ _ (by omega)]; go_simp
          have x1 : w3.cell? ⟨w.heap.size, 1, none⟩ = some (.int .i64 b) := by rw [hc3 _ _ (by omega), hc2 _ _ (by omega), hc1 _ _ (by omega)]; go_simp
          have y0 : w3.cell? ⟨w.heap.size + 1, 0, none⟩ = some (.int .i64 c) := by rw [hc3 _ _ (by omega), hc2 _ _ (by omega), hc1 _ _ (by omega)]; go_simp
          have y1 : w3.cell? ⟨w.heap.size + 1, 1, none⟩ = some (.int .i64 d) := by rw [hc3 _ _ (by omega), hc2 _ _ (by omega), hc1 _ _ (by omega)]; go_simp
          have t0 : w3.cell? ⟨w.heap.size + 1 + 1, 0, none⟩ = some (.int .i64 0) := by rw [hc3 _ _ (by omega), hc2 _ _ (by omega), hc1 _ _ (by omega)]; go_simp
          have t1 : w3.cell? ⟨w.heap.size + 1 + 1, 1, none⟩ = some (.int .i64 0) := by rw [hc3 _ _ (by omega), hc2 _ _ (by omega), hc1 _ _ (by omega)]; go_simp
          have t2 : w3.frozen? ⟨w.heap.size + 1 + 1, 0, none⟩ = false := by rw [hf3 _ _ (by omega), hf2 _ _ (by omega), hf1 _ _ (by omega)]; go_simp
          have t3 : w3.frozen? ⟨w.heap.size + 1 + 1, 1, none⟩ = false := by rw [hf3 _ _ (by omega), hf2 _ _ (by omega), hf1 _ _ (by omega)]; go_simp
          have b3 : Below w.heap.size w w3 := (((by go_grown : Below w.heap.size w _).trans (hb1.mono (by simp; omega))).trans (hb2.mono (by omega))).trans (hb3.mono (by omega))
          clear hc1 hf1 hc2 hf2 hc3 hf3 hb1 hb2 hb3
          go_wp2_with fail
          go_region_held3 (fun w' => w'.cell? ⟨w.heap.size, 0, none⟩ = some (.int .i64 a) ∧ w'.cell? ⟨w.heap.size, 1, none⟩ = some (.int .i64 b) ∧ w'.cell? ⟨w.heap.size + 1, 0, none⟩ = some (.int .i64 c) ∧ w'.cell? ⟨w.heap.size + 1, 1, none⟩ = some (.int .i64 d))
            ((first | (go_split_ands; refine ⟨?_, ?_, ?_, ?_⟩ <;> (rw [hc4 _ _ (by omega)]; assumption)) | (go_split_ands; refine ⟨?_, ?_, ?_, ?_⟩ <;> (rw [hc5 _ _ (by omega), hc4 _ _ (by omega)]; assumption)) | (go_split_ands; refine ⟨?_, ?_, ?_, ?_⟩ <;> (rw [hc6 _ _ (by omega), hc5 _ _ (by omega), hc4 _ _ (by omega)]; assumption)) | (go_split_ands; refine ⟨?_, ?_, ?_, ?_⟩ <;> (rw [World.cell?_setCell_other _ _ _ _ (fun e => by injection e with e1; omega), World.cell?_setCell_other _ _ _ _ (fun e => by injection e with e1; omega)]; assumption)) | ((repeat' apply And.intro) <;> (go_keep; done))))
            (first | (go_at_call 37; (with_reducible refine (pr1.out _).mono ?_); rintro e w4 ⟨rfl, hb4⟩; obtain ⟨hc4, hf4⟩ := bat hb4 (w.heap.size + 3) s3; have s4 : w.heap.size + 3 ≤ w4.heap.size := Nat.le_trans s3 hb4.size; have b4 : Below w.heap.size w w4 := b3.drew.trans (hb4.mono (by simp; omega))) | (go_at_call 37; (with_reducible refine (pr2.out _).mono ?_); rintro e w5 ⟨rfl, hb5⟩; obtain ⟨hc5, hf5⟩ := bat hb5 (w.heap.size + 3) s4; have s5 : w.heap.size + 3 ≤ w5.heap.size := Nat.le_trans s4 hb5.size; have b5 : Below w.heap.size w w5 := b4.trans (hb5.mono (by omega))) | (go_at_call 30; (with_reducible refine (ex.out _).mono ?_); rintro e w6 ⟨rfl, hb6⟩; obtain ⟨hc6, hf6⟩ := bat hb6 (w.heap.size + 3) s5; have s6 : w.heap.size + 3 ≤ w6.heap.size := Nat.le_trans s5 hb6.size; have b6 : Below w.heap.size w w6 := b5.trans (hb6.mono (by omega))))
          go_wp2_with fail
          refine bodyPost_ret (v := .tuple #[.agg #[.int .i64 (redN (S1 != S2) (a.natAbs * d.natAbs) (b.natAbs * c.natAbs)), .int .i64 (redD (a.natAbs * d.natAbs) (b.natAbs * c.natAbs))], .int .i64 (redE (a.natAbs * d.natAbs) (b.natAbs * c.natAbs))]) (by simp [results, Try.results15, go_sem, hc6, hc5, hc4, t0, t1]) rfl ?_
          exact ⟨retF (by rw [e1.out.1, ← S1h.out, ← S2h.out]; rfl) (by rw [e1.out.2.1]; rfl) (by rw [e1.out.2.2]; rfl), two_below b6 (by omega) _ _⟩
        · rw [hz] at ea
          replace ea := Lib.hid ea
          have hz2 : (-1073741824 ≤ a ∧ a ≤ 1073741824) ∧ (-1073741824 ≤ c ∧ c ≤ 1073741824) ∧ (-1073741824 ≤ b ∧ b ≤ 1073741824) ∧ (-1073741824 ≤ d ∧ d ≤ 1073741824) := by
            unfold easyB at hz; exact of_decide_eq_true hz
          obtain ⟨⟨u1, u2⟩, ⟨u3, u4⟩, ⟨u5, u6⟩, ⟨u7, u8⟩⟩ := hz2
          have m1 := mul30 u1 u2 u7 u8
          have m2 := mul30 u5 u6 u3 u4
          obtain ⟨m1a, m1b⟩ := m1
          obtain ⟨m2a, m2b⟩ := m2
          have nz : b * c ≠ 0 := Int.mul_ne_zero (by omega) hc0
          have lw := fun w => lowest_any (a * d) (b * c) w (by omega) (by omega) (by omega) (by omega) nz
          have q := q_of_low a d b c nz
          rw [q.1, q.2.1, q.2.2] at lw
          replace lw := Lib.hid lw
          clear bx bz hz nz q hc0
          go_enter Try.func15, Try.ntmps15
          go_wp2_with fail
          refine (okx.out _).mono ?_; rintro e w1 ⟨rfl, hb1⟩; obtain ⟨hc1, hf1⟩ := bat hb1 (w.heap.size + 3) (by simp)
          have s1 : w.heap.size + 3 ≤ w1.heap.size := by have := hb1.size; simp at this; omega
          go_wp2_with fail
          refine (oky.out _).mono ?_; rintro e w2 ⟨rfl, hb2⟩; obtain ⟨hc2, hf2⟩ := bat hb2 (w.heap.size + 3) s1
          have s2 : w.heap.size + 3 ≤ w2.heap.size := by have := hb2.size; omega
          go_wp2_with fail
          refine (ea.out _).mono ?_; rintro e w3 ⟨rfl, hb3⟩; obtain ⟨hc3, hf3⟩ := bat hb3 (w.heap.size + 3) s2
          have s3 : w.heap.size + 3 ≤ w3.heap.size := by have := hb3.size; omega
          go_wp2_with fail
          refine (lw.out _).mono ?_; rintro e w4 ⟨rfl, hb4⟩; obtain ⟨hc4, hf4⟩ := bat hb4 (w.heap.size + 3) s3
          go_wp2_with fail
          refine bodyPost_ret (v := .tuple #[.agg #[.int .i64 (qN a d b c), .int .i64 (qD a d b c)], .int .i64 (qE a d b c)]) (by simp [results, Try.results15, go_sem, hc4, hc3, hc2, hc1]) rfl ?_
          exact ⟨retF e1.out.1.symm e1.out.2.1.symm e1.out.2.2.symm, (((((by go_grown : Below w.heap.size w _).trans (hb1.mono (by simp; omega))).trans (hb2.mono (by omega))).trans (hb3.mono (by omega))).trans (hb4.mono (by omega))).trans (two_below (Below.refl _ _) (by have := hb4.size; omega) _ _)⟩
end Go.Proofs.Ytfofmblbcpliaaa.Rt
