/- Plain laws: what a reduced fraction is, by its value. -/
import Derived.Test.YtfofmblbcpliaaaRatS
set_option linter.unusedVariables false
namespace Go.Proofs.Ytfofmblbcpliaaa
open CoRat

theorem sg_mul (s : Bool) (x y : Int) : sg s x * y = sg s (x * y) := by cases s <;> simp [sg, Int.neg_mul]
theorem natAbs_sg (s : Bool) (x : Int) : (sg s x).natAbs = x.natAbs := by cases s <;> simp [sg]
/-- A reduced fraction that fits is valid and has the value of what was reduced. -/
theorem red_val (s : Bool) (u v : Nat) (hv : 0 < v) (hf : fits u v = true) :
    okF (redN s u v) (redD u v) = true ∧ redE u v = 0 ∧ 0 < redD u v ∧ redN s u v * (v : Int) = sg s (u : Int) * redD u v := by
  have g0 : 0 < Nat.gcd u v := Nat.gcd_pos_of_pos_right u hv
  have c := Nat.coprime_div_gcd_div_gcd g0
  have e1 : u / Nat.gcd u v * Nat.gcd u v = u := Nat.div_mul_cancel (Nat.gcd_dvd_left u v)
  have e2 : v / Nat.gcd u v * Nat.gcd u v = v := Nat.div_mul_cancel (Nat.gcd_dvd_right u v)
  have l3 : 0 < v / Nat.gcd u v := Nat.div_pos (Nat.le_of_dvd hv (Nat.gcd_dvd_right u v)) g0
  have hb : u / Nat.gcd u v ≤ M ∧ v / Nat.gcd u v ≤ M := by unfold fits at hf; exact of_decide_eq_true hf
  have h1 : redN s u v = sg s ((u / Nat.gcd u v : Nat) : Int) := by unfold redN; rw [hf]; cases s <;> rfl
  have h2 : redD u v = ((v / Nat.gcd u v : Nat) : Int) := by unfold redD; rw [hf]; rfl
  have h3 : redE u v = 0 := by unfold redE; rw [hf]; rfl
  rw [h1, h2, h3]
  generalize Nat.gcd u v = g at *
  generalize u / g = a at *
  generalize v / g = b at *
  unfold M at hb
  refine ⟨?_, rfl, by omega, ?_⟩
  · unfold okF
    rw [decide_eq_true_iff, natAbs_sg]
    refine ⟨?_, ?_, by omega, by omega, by simpa using c⟩ <;> (cases s <;> simp [sg] <;> omega)
  · rw [sg_mul, sg_mul, ← e1, ← e2, ← Int.natCast_mul, ← Int.natCast_mul, Nat.mul_assoc, Nat.mul_comm g b]
/-- Valid fractions of one value are the same. -/
theorem ok_inj {n d n' d' : Int} (h : okF n d = true) (h' : okF n' d' = true) (e : n * d' = n' * d) : n = n' ∧ d = d' := by
  have b := okF_bd h
  have b' := okF_bd h'
  have e2 : n.natAbs * d'.natAbs = n'.natAbs * d.natAbs := by rw [← Int.natAbs_mul, ← Int.natAbs_mul, e]
  obtain ⟨q1, q2⟩ := low_eq (u := n.natAbs) (v := d.natAbs) (u' := n'.natAbs) (v' := d'.natAbs) (by omega) (by omega) e2
  rw [b.2.2.2.2, b'.2.2.2.2, Nat.div_one, Nat.div_one] at q2
  have hd : d = d' := by omega
  refine ⟨?_, hd⟩
  rw [hd] at e
  exact Int.eq_of_mul_eq_mul_right (by omega) e
theorem fits_of (u v : Nat) (h1 : u ≤ M) (h2 : v ≤ M) : fits u v = true := by
  unfold fits
  rw [decide_eq_true_iff]
  exact ⟨Nat.le_trans (Nat.div_le_self _ _) h1, Nat.le_trans (Nat.div_le_self _ _) h2⟩
theorem sg_abs (n : Int) : sg (decide (n < 0)) (n.natAbs : Int) = n := by unfold sg; by_cases h : n < 0 <;> simp [h] <;> omega
/-- Make: a small fraction is valid and has its value. -/
theorem mk_val (a b : Int) (hb : 0 < b) (h1 : a.natAbs ≤ M) (h2 : b.natAbs ≤ M) : okF (mkN a b) (mkD a b) = true ∧ mkE a b = 0 ∧ 0 < mkD a b ∧ mkN a b * b = a * mkD a b := by
  have hne : ¬ b = 0 := by omega
  unfold mkN mkD mkE
  rw [if_neg hne, if_neg hne, if_neg hne, decide_eq_false (by omega : ¬ b < 0), Bool.bne_false]
  obtain ⟨k1, k2, k3, k4⟩ := red_val (decide (a < 0)) a.natAbs b.natAbs (by omega) (fits_of _ _ h1 h2)
  rw [sg_abs] at k4
  have : ((b.natAbs : Nat) : Int) = b := by omega
  rw [this] at k4
  exact ⟨k1, k2, k3, k4⟩
theorem ps_val (u v : Nat) (m n : Bool) : sg (psg u v m n) (psz u v m n : Int) = sg m u + sg n v := by
  unfold psg psz sg
  by_cases h : u < v <;> cases m <;> cases n <;> simp [h] <;> omega
theorem sg_mul_abs (a d : Int) (hd : 0 < d) : sg (decide (a < 0) != decide (d < 0)) ((a.natAbs * d.natAbs : Nat) : Int) = a * d := by
  rw [decide_eq_false (by omega : ¬ d < 0), Bool.bne_false, Int.natCast_mul, show ((d.natAbs : Nat) : Int) = d by omega, ← sg_mul, sg_abs]
theorem psz_le (u v : Nat) (m n : Bool) : psz u v m n ≤ u + v := by unfold psz; split <;> (try split) <;> omega
/-- Add of two valid fractions whose sum has small numbers. -/
theorem add_val (a b c d : Int) (hx : okF a b = true) (hy : okF c d = true) (h1 : a.natAbs * d.natAbs + c.natAbs * b.natAbs ≤ M) (h2 : b.natAbs * d.natAbs ≤ M) :
    okF (addN a b c d) (addD a b c d) = true ∧ addE a b c d = 0 ∧ 0 < addD a b c d ∧ addN a b c d * (b * d) = (a * d + c * b) * addD a b c d := by
  have bx := okF_bd hx
  have bz := okF_bd hy
  unfold addN addD addE
  rw [hx, hy]
  simp only [Bool.and_self, if_true]
  by_cases hc : c = 0
  · rw [if_pos hc, if_pos hc, if_pos hc]
    exact ⟨hx, rfl, by omega, by rw [hc, Int.zero_mul, Int.add_zero, Int.mul_assoc, Int.mul_comm d b]⟩
  · rw [if_neg hc, if_neg hc, if_neg hc]
    have hs : (decide (b < 0) != decide (d < 0)) = false := by rw [decide_eq_false (by omega : ¬ b < 0), decide_eq_false (by omega : ¬ d < 0)]; rfl
    rw [hs, Bool.bne_false]
    have hz := psz_le (a.natAbs * d.natAbs) (c.natAbs * b.natAbs) (decide (a < 0) != decide (d < 0)) (decide (c < 0) != decide (b < 0))
    obtain ⟨k1, k2, k3, k4⟩ := red_val (psg (a.natAbs * d.natAbs) (c.natAbs * b.natAbs) (decide (a < 0) != decide (d < 0)) (decide (c < 0) != decide (b < 0))) (psz (a.natAbs * d.natAbs) (c.natAbs * b.natAbs) (decide (a < 0) != decide (d < 0)) (decide (c < 0) != decide (b < 0))) (b.natAbs * d.natAbs) (Nat.mul_pos (by omega) (by omega)) (fits_of _ _ (by omega) h2)
    rw [ps_val, sg_mul_abs a d (by omega), sg_mul_abs c b (by omega)] at k4
    refine ⟨k1, k2, k3, ?_⟩
    rw [← k4, Int.natCast_mul, show ((b.natAbs : Nat) : Int) = b by omega, show ((d.natAbs : Nat) : Int) = d by omega]
theorem sg_not (s : Bool) (x : Int) : sg (!s) x = -sg s x := by cases s <;> simp [sg]
/-- Sub of two valid fractions whose difference has small numbers. -/
theorem sub_val (a b c d : Int) (hx : okF a b = true) (hy : okF c d = true) (h1 : a.natAbs * d.natAbs + c.natAbs * b.natAbs ≤ M) (h2 : b.natAbs * d.natAbs ≤ M) :
    okF (subN a b c d) (subD a b c d) = true ∧ subE a b c d = 0 ∧ 0 < subD a b c d ∧ subN a b c d * (b * d) = (a * d - c * b) * subD a b c d := by
  have bx := okF_bd hx
  have bz := okF_bd hy
  unfold subN subD subE
  rw [hx, hy]
  simp only [Bool.and_self, if_true]
  by_cases hc : c = 0
  · rw [if_pos hc, if_pos hc, if_pos hc]
    exact ⟨hx, rfl, by omega, by rw [hc, Int.zero_mul, Int.sub_zero, Int.mul_assoc, Int.mul_comm d b]⟩
  · rw [if_neg hc, if_neg hc, if_neg hc]
    have hs : (decide (b < 0) != decide (d < 0)) = false := by rw [decide_eq_false (by omega : ¬ b < 0), decide_eq_false (by omega : ¬ d < 0)]; rfl
    rw [hs, Bool.bne_false]
    have hz := psz_le (a.natAbs * d.natAbs) (c.natAbs * b.natAbs) (decide (a < 0) != decide (d < 0)) (!(decide (c < 0) != decide (b < 0)))
    obtain ⟨k1, k2, k3, k4⟩ := red_val (psg (a.natAbs * d.natAbs) (c.natAbs * b.natAbs) (decide (a < 0) != decide (d < 0)) (!(decide (c < 0) != decide (b < 0)))) (psz (a.natAbs * d.natAbs) (c.natAbs * b.natAbs) (decide (a < 0) != decide (d < 0)) (!(decide (c < 0) != decide (b < 0)))) (b.natAbs * d.natAbs) (Nat.mul_pos (by omega) (by omega)) (fits_of _ _ (by omega) h2)
    rw [ps_val, sg_mul_abs a d (by omega), sg_not, sg_mul_abs c b (by omega), ← Int.sub_eq_add_neg] at k4
    refine ⟨k1, k2, k3, ?_⟩
    rw [← k4, Int.natCast_mul, show ((b.natAbs : Nat) : Int) = b by omega, show ((d.natAbs : Nat) : Int) = d by omega]
/-- The value of a quotient of products. -/
theorem q_val (a b c d : Int) (hc : 0 < c) (hd : 0 < d) (h1 : a.natAbs * b.natAbs ≤ M) (h2 : c.natAbs * d.natAbs ≤ M) :
    okF (qN a b c d) (qD a b c d) = true ∧ qE a b c d = 0 ∧ 0 < qD a b c d ∧ qN a b c d * (c * d) = (a * b) * qD a b c d := by
  unfold qN qD qE
  rw [decide_eq_false (by omega : ¬ c < 0), decide_eq_false (by omega : ¬ d < 0), show (false != false) = false from rfl, Bool.bne_false]
  obtain ⟨k1, k2, k3, k4⟩ := red_val (decide (a < 0) != decide (b < 0)) (a.natAbs * b.natAbs) (c.natAbs * d.natAbs) (Nat.mul_pos (by omega) (by omega)) (fits_of _ _ h1 h2)
  refine ⟨k1, k2, k3, ?_⟩
  rw [Int.natCast_mul, show ((c.natAbs : Nat) : Int) = c by omega, show ((d.natAbs : Nat) : Int) = d by omega] at k4
  rw [k4]
  congr 1
  by_cases hab : a * b = 0
  · have : a.natAbs * b.natAbs = 0 := by rw [← Int.natAbs_mul, hab]; rfl
    rw [this, hab]
    generalize (decide (a < 0) != decide (b < 0)) = s
    cases s <;> simp [sg]
  · rw [← neg_mul_sign a b hab, ← Int.natAbs_mul, sg_abs]
theorem mul_val (a b c d : Int) (hx : okF a b = true) (hy : okF c d = true) (h1 : a.natAbs * c.natAbs ≤ M) (h2 : b.natAbs * d.natAbs ≤ M) :
    okF (mulN a b c d) (mulD a b c d) = true ∧ mulE a b c d = 0 ∧ 0 < mulD a b c d ∧ mulN a b c d * (b * d) = (a * c) * mulD a b c d := by
  have bx := okF_bd hx
  have bz := okF_bd hy
  unfold mulN mulD mulE
  rw [hx, hy]
  simp only [Bool.and_self, if_true]
  exact q_val a c b d (by omega) (by omega) h1 h2
end Go.Proofs.Ytfofmblbcpliaaa
