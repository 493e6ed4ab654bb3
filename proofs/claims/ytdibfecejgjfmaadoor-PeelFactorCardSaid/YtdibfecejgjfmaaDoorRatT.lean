/- Printed by merge.py from RatO, RatQ, RatR, RatT. -/
import Derived.Test.YtdibfecejgjfmaaDoorRatN
import Derived.Test.YtdibfecejgjfmaaDoorRatS
/- RatioLimits returns true for every three integers. -/
set_option linter.unusedVariables false
namespace Go.Proofs.YtdibfecejgjfmaaDoor.Rt
open Go.RowKit CoRat

theorem q_nat (a b c d : Nat) : qN a b c d = redN false (a * b) (c * d) ∧ qD a b c d = redD (a * b) (c * d) ∧ qE a b c d = redE (a * b) (c * d) := by
  unfold qN qD qE
  rw [decide_eq_false (by omega : ¬ ((a : Int) < 0)), decide_eq_false (by omega : ¬ ((b : Int) < 0)), decide_eq_false (by omega : ¬ ((c : Int) < 0)), decide_eq_false (by omega : ¬ ((d : Int) < 0))]
  exact ⟨rfl, rfl, rfl⟩

/-- The numbers of RatioLimits: what the three fractions and the products come to. -/
theorem limits_math (b p q : Nat) (hb1 : 1152921504606746977 ≤ b) (hb2 : b ≤ M) (hp1 : 1 ≤ p) (hp2 : p ≤ 1000) (hq1 : 1 ≤ q) (hq2 : q ≤ 1000) :
    mkE b p = 0 ∧ mkE q b = 0 ∧
    mulN (mkN b p) (mkD b p) (mkN q b) (mkD q b) = mkN q p ∧ mulD (mkN b p) (mkD b p) (mkN q b) (mkD q b) = mkD q p ∧ mulE (mkN b p) (mkD b p) (mkN q b) (mkD q b) = 0 ∧
    divN (mkN b p) (mkD b p) (mkN b p) (mkD b p) = 1 ∧ divD (mkN b p) (mkD b p) (mkN b p) (mkD b p) = 1 ∧ divE (mkN b p) (mkD b p) (mkN b p) (mkD b p) = 0 ∧
    mulE (mkN b 1) (mkD b 1) (mkN ((2 + p : Nat) : Int) 1) (mkD ((2 + p : Nat) : Int) 1) = 3 := by
  have hM : M = 1152921504606846976 := rfl
  obtain ⟨x1, x2, x3⟩ := mk_small (a := b) (b := p) (by omega) hb2 (by omega)
  obtain ⟨y1, y2, y3⟩ := mk_small (a := q) (b := b) (by omega) (by omega) hb2
  obtain ⟨z1, z2, z3⟩ := mk_small (a := q) (b := p) (by omega) (by omega) (by omega)
  obtain ⟨u1, u2, u3⟩ := mk_small (a := b) (b := 1) (by omega) hb2 (by omega)
  obtain ⟨v1, v2, v3⟩ := mk_small (a := 2 + p) (b := 1) (by omega) (by omega) (by omega)
  have ox := ok_small (a := b) (b := p) (by omega) hb2 (by omega)
  have oy := ok_small (a := q) (b := b) (by omega) (by omega) hb2
  have ou := ok_small (a := b) (b := 1) (by omega) hb2 (by omega)
  have ov := ok_small (a := 2 + p) (b := 1) (by omega) (by omega) (by omega)
  have g1 : 0 < Nat.gcd b p := Nat.gcd_pos_of_pos_right b (by omega)
  have g2 : 0 < Nat.gcd q b := Nat.gcd_pos_of_pos_right q (by omega)
  have e1 : b / Nat.gcd b p * Nat.gcd b p = b := Nat.div_mul_cancel (Nat.gcd_dvd_left b p)
  have e2 : p / Nat.gcd b p * Nat.gcd b p = p := Nat.div_mul_cancel (Nat.gcd_dvd_right b p)
  have e3 : q / Nat.gcd q b * Nat.gcd q b = q := Nat.div_mul_cancel (Nat.gcd_dvd_left q b)
  have e4 : b / Nat.gcd q b * Nat.gcd q b = b := Nat.div_mul_cancel (Nat.gcd_dvd_right q b)
  have u1' : mkN (b : Int) 1 = ((b / Nat.gcd b 1 : Nat) : Int) := u1
  have u2' : mkD (b : Int) 1 = ((1 / Nat.gcd b 1 : Nat) : Int) := u2
  have v1' : mkN ((2 + p : Nat) : Int) 1 = (((2 + p) / Nat.gcd (2 + p) 1 : Nat) : Int) := v1
  have v2' : mkD ((2 + p : Nat) : Int) 1 = ((1 / Nat.gcd (2 + p) 1 : Nat) : Int) := v2
  rw [x1, x2, x3, y1, y2, y3, z1, z2, u1', u2', v1', v2']
  unfold mulN mulD mulE divN divD divE
  rw [ox, oy, ou, ov]
  rw [Nat.gcd_one_right, Nat.gcd_one_right, Nat.div_one, Nat.div_one, Nat.div_one]
  generalize b / Nat.gcd b p = XN at *
  generalize p / Nat.gcd b p = XD at *
  generalize q / Nat.gcd q b = YN at *
  generalize b / Nat.gcd q b = YD at *
  have XN0 : 0 < XN := by rcases Nat.eq_zero_or_pos XN with z | z; (rw [z, Nat.zero_mul] at e1; omega); exact z
  have XD0 : 0 < XD := by rcases Nat.eq_zero_or_pos XD with z | z; (rw [z, Nat.zero_mul] at e2; omega); exact z
  have YD0 : 0 < YD := by rcases Nat.eq_zero_or_pos YD with z | z; (rw [z, Nat.zero_mul] at e4; omega); exact z
  have hne : ¬ ((XN : Int) = 0) := by omega
  obtain ⟨m1, m2, m3⟩ := q_nat XN YN XD YD
  obtain ⟨d1, d2, d3⟩ := q_nat XN XD XD XN
  obtain ⟨l1, l2, l3⟩ := q_nat b (2 + p) 1 1
  obtain ⟨r1, r2, r3⟩ := red_eq (u := XN * YN) (v := XD * YD) (u' := q) (v' := p) (Nat.mul_pos XD0 YD0) (by omega) (by
    conv => lhs; rw [← e2]
    conv => rhs; rw [← e3]
    have h1 : XN * YN * (XD * Nat.gcd b p) = XN * Nat.gcd b p * (YN * XD) := by
      rw [Nat.mul_comm XD, Nat.mul_mul_mul_comm]
    have h2 : YN * Nat.gcd q b * (XD * YD) = YD * Nat.gcd q b * (YN * XD) := by
      rw [Nat.mul_comm XD YD, Nat.mul_comm YN (Nat.gcd q b), Nat.mul_mul_mul_comm, Nat.mul_comm (Nat.gcd q b) YD]
    rw [h1, h2, e1, e4]) false
  obtain ⟨s1, s2, s3⟩ := red_eq (u := XN * XD) (v := XD * XN) (u' := 1) (v' := 1) (Nat.mul_pos XD0 XN0) (by omega) (by rw [Nat.mul_one, Nat.one_mul, Nat.mul_comm]) false
  obtain ⟨w1, w2, w3⟩ := red_small (u := q) (v := p) (by omega) (by omega) (by omega)
  have hf : redE (b * (2 + p)) (1 * 1) = 3 := by
    have : fits (b * (2 + p)) (1 * 1) = false := by
      unfold fits
      rw [Nat.mul_one, Nat.gcd_one_right, Nat.div_one, decide_eq_false_iff_not, Nat.mul_add]
      omega
    unfold redE
    rw [this]; rfl
  simp only [Bool.and_self, if_true, if_neg hne]
  rw [m1, m2, m3, d1, d2, d3, r1, r2, r3, s1, s2, s3, w1, w2, w3]
  exact ⟨trivial, trivial, rfl, rfl, rfl, by decide, by decide, by decide, l3.trans hf⟩

end Go.Proofs.YtdibfecejgjfmaaDoor.Rt

/- Add of package ratio. -/
set_option linter.unusedVariables false
namespace Go.Proofs.YtdibfecejgjfmaaDoor.Rt
open Go.RowKit CoRat


end Go.Proofs.YtdibfecejgjfmaaDoor.Rt

/- Sub of package ratio. -/
set_option linter.unusedVariables false
namespace Go.Proofs.YtdibfecejgjfmaaDoor.Rt
open Go.RowKit CoRat


end Go.Proofs.YtdibfecejgjfmaaDoor.Rt

/- Plain laws: what a reduced fraction is, by its value. -/
set_option linter.unusedVariables false
namespace Go.Proofs.YtdibfecejgjfmaaDoor.Rt
open CoRat

theorem sg_mul (s : Bool) (x y : Int) : sg s x * y = sg s (x * y) := by cases s <;> simp [sg, Int.neg_mul]
theorem natAbs_sg (s : Bool) (x : Int) : (sg s x).natAbs = x.natAbs := by cases s <;> simp [sg]
/-- A reduced fraction that fits is valid and has the value of what was reduced. -/
theorem red_val (s : Bool) (u v : Nat) (hv : 0 < v) (hf : fits u v = true) :
    okF (redN s u v) (redD u v) = true ∧ redE u v = 0 ∧ 0 < redD u v ∧ redN s u v * (v : Int) = sg s (u : Int) * redD u v := by
  have g0 : 0 < Nat.gcd u v := Nat.gcd_pos_of_pos_right u hv
  have c := Nat.coprime_div_gcd_div_gcd g0
  have e1 : u / Nat.gcd u v * Nat.gcd u v = u := Nat.div_mul_cancel (Nat.gcd_dvd_left u v)
  have e2 : v / Nat.gcd u v * Nat.gcd u v = v := Nat.div_mul_cancel (Nat.gcd_dvd_right u v)
  have l3 : 0 < v / Nat.gcd u v := Nat.div_pos (Nat.le_of_dvd hv (Nat.gcd_dvd_right u v)) g0
  have hb : u / Nat.gcd u v ≤ M ∧ v / Nat.gcd u v ≤ M := by unfold fits at hf; exact of_decide_eq_true hf
  have h1 : redN s u v = sg s ((u / Nat.gcd u v : Nat) : Int) := by unfold redN; rw [hf]; cases s <;> rfl
  have h2 : redD u v = ((v / Nat.gcd u v : Nat) : Int) := by unfold redD; rw [hf]; rfl
  have h3 : redE u v = 0 := by unfold redE; rw [hf]; rfl
  rw [h1, h2, h3]
  generalize Nat.gcd u v = g at *
  generalize u / g = a at *
  generalize v / g = b at *
  unfold M at hb
  refine ⟨?_, rfl, by omega, ?_⟩
  · unfold okF
    rw [decide_eq_true_iff, natAbs_sg]
    refine ⟨?_, ?_, by omega, by omega, by simpa using c⟩ <;> (cases s <;> simp [sg] <;> omega)
  · rw [sg_mul, sg_mul, ← e1, ← e2, ← Int.natCast_mul, ← Int.natCast_mul, Nat.mul_assoc, Nat.mul_comm g b]
/-- Valid fractions of one value are the same. -/
theorem ok_inj {n d n' d' : Int} (h : okF n d = true) (h' : okF n' d' = true) (e : n * d' = n' * d) : n = n' ∧ d = d' := by
  have b := okF_bd h
  have b' := okF_bd h'
  have e2 : n.natAbs * d'.natAbs = n'.natAbs * d.natAbs := by rw [← Int.natAbs_mul, ← Int.natAbs_mul, e]
  obtain ⟨q1, q2⟩ := low_eq (u := n.natAbs) (v := d.natAbs) (u' := n'.natAbs) (v' := d'.natAbs) (by omega) (by omega) e2
  rw [b.2.2.2.2, b'.2.2.2.2, Nat.div_one, Nat.div_one] at q2
  have hd : d = d' := by omega
  refine ⟨?_, hd⟩
  rw [hd] at e
  exact Int.eq_of_mul_eq_mul_right (by omega) e
theorem fits_of (u v : Nat) (h1 : u ≤ M) (h2 : v ≤ M) : fits u v = true := by
  unfold fits
  rw [decide_eq_true_iff]
  exact ⟨Nat.le_trans (Nat.div_le_self _ _) h1, Nat.le_trans (Nat.div_le_self _ _) h2⟩
theorem sg_abs (n : Int) : sg (decide (n < 0)) (n.natAbs : Int) = n := by unfold sg; by_cases h : n < 0 <;> simp [h] <;> omega
/-- Make: a small fraction is valid and has its value. -/
theorem mk_val (a b : Int) (hb : 0 < b) (h1 : a.natAbs ≤ M) (h2 : b.natAbs ≤ M) : okF (mkN a b) (mkD a b) = true ∧ mkE a b = 0 ∧ 0 < mkD a b ∧ mkN a b * b = a * mkD a b := by
  have hne : ¬ b = 0 := by omega
  unfold mkN mkD mkE
  rw [if_neg hne, if_neg hne, if_neg hne, decide_eq_false (by omega : ¬ b < 0), Bool.bne_false]
  obtain ⟨k1, k2, k3, k4⟩ := red_val (decide (a < 0)) a.natAbs b.natAbs (by omega) (fits_of _ _ h1 h2)
  rw [sg_abs] at k4
  have : ((b.natAbs : Nat) : Int) = b := by omega
  rw [this] at k4
  exact ⟨k1, k2, k3, k4⟩
theorem ps_val (u v : Nat) (m n : Bool) : sg (psg u v m n) (psz u v m n : Int) = sg m u + sg n v := by
  unfold psg psz sg
  by_cases h : u < v <;> cases m <;> cases n <;> simp [h] <;> omega
theorem sg_mul_abs (a d : Int) (hd : 0 < d) : sg (decide (a < 0) != decide (d < 0)) ((a.natAbs * d.natAbs : Nat) : Int) = a * d := by
  rw [decide_eq_false (by omega : ¬ d < 0), Bool.bne_false, Int.natCast_mul, show ((d.natAbs : Nat) : Int) = d by omega, ← sg_mul, sg_abs]
theorem psz_le (u v : Nat) (m n : Bool) : psz u v m n ≤ u + v := by unfold psz; split <;> (try split) <;> omega
/-- Add of two valid fractions whose sum has small numbers. -/
theorem add_val (a b c d : Int) (hx : okF a b = true) (hy : okF c d = true) (h1 : a.natAbs * d.natAbs + c.natAbs * b.natAbs ≤ M) (h2 : b.natAbs * d.natAbs ≤ M) :
    okF (addN a b c d) (addD a b c d) = true ∧ addE a b c d = 0 ∧ 0 < addD a b c d ∧ addN a b c d * (b * d) = (a * d + c * b) * addD a b c d := by
  have bx := okF_bd hx
  have bz := okF_bd hy
  unfold addN addD addE
  rw [hx, hy]
  simp only [Bool.and_self, if_true]
  by_cases hc : c = 0
  · rw [if_pos hc, if_pos hc, if_pos hc]
    exact ⟨hx, rfl, by omega, by rw [hc, Int.zero_mul, Int.add_zero, Int.mul_assoc, Int.mul_comm d b]⟩
  · rw [if_neg hc, if_neg hc, if_neg hc]
    have hs : (decide (b < 0) != decide (d < 0)) = false := by rw [decide_eq_false (by omega : ¬ b < 0), decide_eq_false (by omega : ¬ d < 0)]; rfl
    rw [hs, Bool.bne_false]
    have hz := psz_le (a.natAbs * d.natAbs) (c.natAbs * b.natAbs) (decide (a < 0) != decide (d < 0)) (decide (c < 0) != decide (b < 0))
    obtain ⟨k1, k2, k3, k4⟩ := red_val (psg (a.natAbs * d.natAbs) (c.natAbs * b.natAbs) (decide (a < 0) != decide (d < 0)) (decide (c < 0) != decide (b < 0))) (psz (a.natAbs * d.natAbs) (c.natAbs * b.natAbs) (decide (a < 0) != decide (d < 0)) (decide (c < 0) != decide (b < 0))) (b.natAbs * d.natAbs) (Nat.mul_pos (by omega) (by omega)) (fits_of _ _ (by omega) h2)
    rw [ps_val, sg_mul_abs a d (by omega), sg_mul_abs c b (by omega)] at k4
    refine ⟨k1, k2, k3, ?_⟩
    rw [← k4, Int.natCast_mul, show ((b.natAbs : Nat) : Int) = b by omega, show ((d.natAbs : Nat) : Int) = d by omega]
theorem sg_not (s : Bool) (x : Int) : sg (!s) x = -sg s x := by cases s <;> simp [sg]
/-- Sub of two valid fractions whose difference has small numbers. -/
theorem sub_val (a b c d : Int) (hx : okF a b = true) (hy : okF c d = true) (h1 : a.natAbs * d.natAbs + c.natAbs * b.natAbs ≤ M) (h2 : b.natAbs * d.natAbs ≤ M) :
    okF (subN a b c d) (subD a b c d) = true ∧ subE a b c d = 0 ∧ 0 < subD a b c d ∧ subN a b c d * (b * d) = (a * d - c * b) * subD a b c d := by
  have bx := okF_bd hx
  have bz := okF_bd hy
  unfold subN subD subE
  rw [hx, hy]
  simp only [Bool.and_self, if_true]
  by_cases hc : c = 0
  · rw [if_pos hc, if_pos hc, if_pos hc]
    exact ⟨hx, rfl, by omega, by rw [hc, Int.zero_mul, Int.sub_zero, Int.mul_assoc, Int.mul_comm d b]⟩
  · rw [if_neg hc, if_neg hc, if_neg hc]
    have hs : (decide (b < 0) != decide (d < 0)) = false := by rw [decide_eq_false (by omega : ¬ b < 0), decide_eq_false (by omega : ¬ d < 0)]; rfl
    rw [hs, Bool.bne_false]
    have hz := psz_le (a.natAbs * d.natAbs) (c.natAbs * b.natAbs) (decide (a < 0) != decide (d < 0)) (!(decide (c < 0) != decide (b < 0)))
    obtain ⟨k1, k2, k3, k4⟩ := red_val (psg (a.natAbs * d.natAbs) (c.natAbs * b.natAbs) (decide (a < 0) != decide (d < 0)) (!(decide (c < 0) != decide (b < 0)))) (psz (a.natAbs * d.natAbs) (c.natAbs * b.natAbs) (decide (a < 0) != decide (d < 0)) (!(decide (c < 0) != decide (b < 0)))) (b.natAbs * d.natAbs) (Nat.mul_pos (by omega) (by omega)) (fits_of _ _ (by omega) h2)
    rw [ps_val, sg_mul_abs a d (by omega), sg_not, sg_mul_abs c b (by omega), ← Int.sub_eq_add_neg] at k4
    refine ⟨k1, k2, k3, ?_⟩
    rw [← k4, Int.natCast_mul, show ((b.natAbs : Nat) : Int) = b by omega, show ((d.natAbs : Nat) : Int) = d by omega]
/-- The value of a quotient of products. -/
theorem q_val (a b c d : Int) (hc : 0 < c) (hd : 0 < d) (h1 : a.natAbs * b.natAbs ≤ M) (h2 : c.natAbs * d.natAbs ≤ M) :
    okF (qN a b c d) (qD a b c d) = true ∧ qE a b c d = 0 ∧ 0 < qD a b c d ∧ qN a b c d * (c * d) = (a * b) * qD a b c d := by
  unfold qN qD qE
  rw [decide_eq_false (by omega : ¬ c < 0), decide_eq_false (by omega : ¬ d < 0), show (false != false) = false from rfl, Bool.bne_false]
  obtain ⟨k1, k2, k3, k4⟩ := red_val (decide (a < 0) != decide (b < 0)) (a.natAbs * b.natAbs) (c.natAbs * d.natAbs) (Nat.mul_pos (by omega) (by omega)) (fits_of _ _ h1 h2)
  refine ⟨k1, k2, k3, ?_⟩
  rw [Int.natCast_mul, show ((c.natAbs : Nat) : Int) = c by omega, show ((d.natAbs : Nat) : Int) = d by omega] at k4
  rw [k4]
  congr 1
  by_cases hab : a * b = 0
  · have : a.natAbs * b.natAbs = 0 := by rw [← Int.natAbs_mul, hab]; rfl
    rw [this, hab]
    generalize (decide (a < 0) != decide (b < 0)) = s
    cases s <;> simp [sg]
  · rw [← neg_mul_sign a b hab, ← Int.natAbs_mul, sg_abs]
theorem mul_val (a b c d : Int) (hx : okF a b = true) (hy : okF c d = true) (h1 : a.natAbs * c.natAbs ≤ M) (h2 : b.natAbs * d.natAbs ≤ M) :
    okF (mulN a b c d) (mulD a b c d) = true ∧ mulE a b c d = 0 ∧ 0 < mulD a b c d ∧ mulN a b c d * (b * d) = (a * c) * mulD a b c d := by
  have bx := okF_bd hx
  have bz := okF_bd hy
  unfold mulN mulD mulE
  rw [hx, hy]
  simp only [Bool.and_self, if_true]
  exact q_val a c b d (by omega) (by omega) h1 h2
end Go.Proofs.YtdibfecejgjfmaaDoor.Rt
