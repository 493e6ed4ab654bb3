/- Plain laws: values of fractions under the operations; the small fractions of the laws. -/
import Derived.Test.YtfofmblbcpliaaaRatT
set_option linter.unusedVariables false
namespace Go.Proofs.Ytfofmblbcpliaaa
open Go.RowKit CoRat

theorem red_bd (s : Bool) (u v : Nat) : (redN s u v).natAbs ≤ u ∧ (redD u v).natAbs ≤ v := by
  have h1 : u / Nat.gcd u v ≤ u := Nat.div_le_self _ _
  have h2 : v / Nat.gcd u v ≤ v := Nat.div_le_self _ _
  unfold redN redD
  generalize u / Nat.gcd u v = a at *
  generalize v / Nat.gcd u v = b at *
  cases fits u v <;> cases s <;> simp <;> omega
/-- The valid fraction n / d has the value p / q, q positive, and small numbers. -/
def Val (n d p q : Int) (k m : Nat) : Prop := okF n d = true ∧ n * q = p * d ∧ 0 < q ∧ 0 < d ∧ n.natAbs ≤ k ∧ d.natAbs ≤ m
/-- Fractions of one value are the same. -/
theorem Val.inj {n d p q n' d' p' q' : Int} {k m k' m' : Nat} (h : Val n d p q k m) (h' : Val n' d' p' q' k' m') (e : p * q' = p' * q) : n = n' ∧ d = d' := by
  obtain ⟨o1, e1, q1, d1, _, _⟩ := h
  obtain ⟨o2, e2, q2, d2, _, _⟩ := h'
  refine ok_inj o1 o2 ?_
  refine Int.eq_of_mul_eq_mul_right (Int.mul_ne_zero (show q ≠ 0 by omega) (show q' ≠ 0 by omega)) ?_
  grind
theorem Val.of_mk (a b : Int) (k m : Nat) (hb : 0 < b) (ha : a.natAbs ≤ k) (hm : b.natAbs ≤ m) (hk : k ≤ M) (hmM : m ≤ M) : Val (mkN a b) (mkD a b) a b k m := by
  obtain ⟨h1, h2, h3, h4⟩ := mk_val a b hb (by omega) (by omega)
  have hne : ¬ b = 0 := by omega
  have b1 := red_bd (decide (a < 0) != decide (b < 0)) a.natAbs b.natAbs
  have e1 : mkN a b = redN (decide (a < 0) != decide (b < 0)) a.natAbs b.natAbs := by unfold mkN; rw [if_neg hne]
  have e2 : mkD a b = redD a.natAbs b.natAbs := by unfold mkD; rw [if_neg hne]
  exact ⟨h1, h4, hb, h3, by rw [e1]; omega, by rw [e2]; omega⟩
theorem addN_bd (a b c d : Int) (hx : okF a b = true) (hy : okF c d = true) : (addN a b c d).natAbs ≤ a.natAbs * d.natAbs + c.natAbs * b.natAbs ∧ (addD a b c d).natAbs ≤ b.natAbs * d.natAbs := by
  have bx := okF_bd hx
  have bz := okF_bd hy
  have hd : 1 ≤ d.natAbs := by omega
  have t1 : a.natAbs * 1 ≤ a.natAbs * d.natAbs := Nat.mul_le_mul_left _ hd
  have t2 : b.natAbs * 1 ≤ b.natAbs * d.natAbs := Nat.mul_le_mul_left _ hd
  unfold addN addD
  rw [hx, hy]
  simp only [Bool.and_self, if_true]
  split
  · exact ⟨by omega, by omega⟩
  · have r := red_bd (psg (a.natAbs * d.natAbs) (c.natAbs * b.natAbs) (decide (a < 0) != decide (d < 0)) (decide (c < 0) != decide (b < 0)) != (decide (b < 0) != decide (d < 0))) (psz (a.natAbs * d.natAbs) (c.natAbs * b.natAbs) (decide (a < 0) != decide (d < 0)) (decide (c < 0) != decide (b < 0))) (b.natAbs * d.natAbs)
    have z := psz_le (a.natAbs * d.natAbs) (c.natAbs * b.natAbs) (decide (a < 0) != decide (d < 0)) (decide (c < 0) != decide (b < 0))
    exact ⟨by omega, r.2⟩
theorem Val.add {a b c d p q p' q' : Int} {k m k' m' : Nat} (h : Val a b p q k m) (h' : Val c d p' q' k' m') (h1 : k * m' + k' * m ≤ M) (h2 : m * m' ≤ M) :
    Val (addN a b c d) (addD a b c d) (p * q' + p' * q) (q * q') (k * m' + k' * m) (m * m') ∧ addE a b c d = 0 := by
  obtain ⟨o1, e1, q1, d1, n1, m1⟩ := h
  obtain ⟨o2, e2, q2, d2, n2, m2⟩ := h'
  have t1 : a.natAbs * d.natAbs ≤ k * m' := Nat.mul_le_mul n1 m2
  have t2 : c.natAbs * b.natAbs ≤ k' * m := Nat.mul_le_mul n2 m1
  have t3 : b.natAbs * d.natAbs ≤ m * m' := Nat.mul_le_mul m1 m2
  obtain ⟨r1, r2, r3, r4⟩ := add_val a b c d o1 o2 (by omega) (by omega)
  obtain ⟨s1, s2⟩ := addN_bd a b c d o1 o2
  refine ⟨⟨r1, ?_, Int.mul_pos q1 q2, r3, by omega, by omega⟩, r2⟩
  generalize addN a b c d = N at *
  generalize addD a b c d = D at *
  refine Int.eq_of_mul_eq_mul_right (Int.mul_ne_zero (show b ≠ 0 by omega) (show d ≠ 0 by omega)) ?_
  grind
theorem Val.mul {a b c d p q p' q' : Int} {k m k' m' : Nat} (h : Val a b p q k m) (h' : Val c d p' q' k' m') (h1 : k * k' ≤ M) (h2 : m * m' ≤ M) :
    Val (mulN a b c d) (mulD a b c d) (p * p') (q * q') (k * k') (m * m') ∧ mulE a b c d = 0 := by
  obtain ⟨o1, e1, q1, d1, n1, m1⟩ := h
  obtain ⟨o2, e2, q2, d2, n2, m2⟩ := h'
  have t1 : a.natAbs * c.natAbs ≤ k * k' := Nat.mul_le_mul n1 n2
  have t3 : b.natAbs * d.natAbs ≤ m * m' := Nat.mul_le_mul m1 m2
  obtain ⟨r1, r2, r3, r4⟩ := mul_val a b c d o1 o2 (by omega) (by omega)
  have s : (mulN a b c d).natAbs ≤ a.natAbs * c.natAbs ∧ (mulD a b c d).natAbs ≤ b.natAbs * d.natAbs := by
    unfold mulN mulD
    rw [o1, o2]
    simp only [Bool.and_self, if_true]
    exact red_bd _ _ _
  refine ⟨⟨r1, ?_, Int.mul_pos q1 q2, r3, by omega, by omega⟩, r2⟩
  generalize mulN a b c d = N at *
  generalize mulD a b c d = D at *
  refine Int.eq_of_mul_eq_mul_right (Int.mul_ne_zero (show b ≠ 0 by omega) (show d ≠ 0 by omega)) ?_
  grind
theorem subN_bd (a b c d : Int) (hx : okF a b = true) (hy : okF c d = true) : (subN a b c d).natAbs ≤ a.natAbs * d.natAbs + c.natAbs * b.natAbs ∧ (subD a b c d).natAbs ≤ b.natAbs * d.natAbs := by
  have bx := okF_bd hx
  have bz := okF_bd hy
  have hd : 1 ≤ d.natAbs := by omega
  have t1 : a.natAbs * 1 ≤ a.natAbs * d.natAbs := Nat.mul_le_mul_left _ hd
  have t2 : b.natAbs * 1 ≤ b.natAbs * d.natAbs := Nat.mul_le_mul_left _ hd
  unfold subN subD
  rw [hx, hy]
  simp only [Bool.and_self, if_true]
  split
  · exact ⟨by omega, by omega⟩
  · have r := red_bd (psg (a.natAbs * d.natAbs) (c.natAbs * b.natAbs) (decide (a < 0) != decide (d < 0)) (!(decide (c < 0) != decide (b < 0))) != (decide (b < 0) != decide (d < 0))) (psz (a.natAbs * d.natAbs) (c.natAbs * b.natAbs) (decide (a < 0) != decide (d < 0)) (!(decide (c < 0) != decide (b < 0)))) (b.natAbs * d.natAbs)
    have z := psz_le (a.natAbs * d.natAbs) (c.natAbs * b.natAbs) (decide (a < 0) != decide (d < 0)) (!(decide (c < 0) != decide (b < 0)))
    exact ⟨by omega, r.2⟩

theorem Val.sub {a b c d p q p' q' : Int} {k m k' m' : Nat} (h : Val a b p q k m) (h' : Val c d p' q' k' m') (h1 : k * m' + k' * m ≤ M) (h2 : m * m' ≤ M) :
    Val (subN a b c d) (subD a b c d) (p * q' - p' * q) (q * q') (k * m' + k' * m) (m * m') ∧ subE a b c d = 0 := by
  obtain ⟨o1, e1, q1, d1, n1, m1⟩ := h
  obtain ⟨o2, e2, q2, d2, n2, m2⟩ := h'
  have t1 : a.natAbs * d.natAbs ≤ k * m' := Nat.mul_le_mul n1 m2
  have t2 : c.natAbs * b.natAbs ≤ k' * m := Nat.mul_le_mul n2 m1
  have t3 : b.natAbs * d.natAbs ≤ m * m' := Nat.mul_le_mul m1 m2
  obtain ⟨r1, r2, r3, r4⟩ := sub_val a b c d o1 o2 (by omega) (by omega)
  obtain ⟨s1, s2⟩ := subN_bd a b c d o1 o2
  refine ⟨⟨r1, ?_, Int.mul_pos q1 q2, r3, by omega, by omega⟩, r2⟩
  generalize subN a b c d = N at *
  generalize subD a b c d = D at *
  refine Int.eq_of_mul_eq_mul_right (Int.mul_ne_zero (show b ≠ 0 by omega) (show d ≠ 0 by omega)) ?_
  grind
theorem sg_sg (s t : Bool) (x : Int) : sg s (sg (t != s) x) = sg t x := by cases s <;> cases t <;> simp [sg]
/-- Div of two valid fractions, the second not 0. -/
theorem div_val (a b c d : Int) (hx : okF a b = true) (hy : okF c d = true) (hc : c ≠ 0) (h1 : a.natAbs * d.natAbs ≤ M) (h2 : b.natAbs * c.natAbs ≤ M) :
    okF (divN a b c d) (divD a b c d) = true ∧ divE a b c d = 0 ∧ divN a b c d * (b * c) = (a * d) * divD a b c d := by
  have bx := okF_bd hx
  have bz := okF_bd hy
  unfold divN divD divE
  rw [hx, hy, if_neg hc, if_neg hc, if_neg hc]
  simp only [Bool.and_self, if_true]
  have hbc : b * c ≠ 0 := Int.mul_ne_zero (by omega) hc
  obtain ⟨l1, l2, l3⟩ := q_of_low a d b c hbc
  rw [← l1, ← l2, ← l3]
  obtain ⟨k1, k2, k3, k4⟩ := red_val (decide (a * d < 0) != decide (b * c < 0)) (a * d).natAbs (b * c).natAbs (by omega) (fits_of _ _ (by rw [Int.natAbs_mul]; omega) (by rw [Int.natAbs_mul]; omega))
  refine ⟨k1, k2, ?_⟩
  generalize redN (decide (a * d < 0) != decide (b * c < 0)) (a * d).natAbs (b * c).natAbs = N at *
  generalize redD (a * d).natAbs (b * c).natAbs = D at *
  have e1 := sg_abs (b * c)
  have e2 := sg_abs (a * d)
  have e3 := sg_sg (decide (b * c < 0)) (decide (a * d < 0)) ((a * d).natAbs : Int)
  have e4 : N * (b * c) = sg (decide (b * c < 0)) (N * ((b * c).natAbs : Int)) := by
    conv => lhs; rw [← e1]
    rw [Int.mul_comm N, sg_mul, Int.mul_comm N]
  rw [e4, k4, ← sg_mul, e3, e2]
theorem div_zero_val (a b d : Int) (hx : okF a b = true) (hy : okF 0 d = true) : divE a b 0 d = 2 := by
  unfold divE; rw [hx, hy]; rfl
end Go.Proofs.Ytfofmblbcpliaaa
