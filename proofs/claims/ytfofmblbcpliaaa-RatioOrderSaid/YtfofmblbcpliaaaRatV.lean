/- The laws of a field for small fractions, in numbers. -/
import Derived.Test.YtfofmblbcpliaaaRatU
set_option linter.unusedVariables false
namespace Go.Proofs.Ytfofmblbcpliaaa
open Go.RowKit CoRat

theorem field_math (xn xd yn yd zn zd p1 q1 p2 q2 p3 q3 : Int) (hx : Val xn xd p1 q1 20 12) (hy : Val yn yd p2 q2 20 12) (hz : Val zn zd p3 q3 20 12) :
    addE xn xd yn yd = 0 ∧ addE yn yd xn xd = 0 ∧ addN xn xd yn yd = addN yn yd xn xd ∧ addD xn xd yn yd = addD yn yd xn xd ∧
    mulE (addN xn xd yn yd) (addD xn xd yn yd) zn zd = 0 ∧ mulE xn xd zn zd = 0 ∧ mulE yn yd zn zd = 0 ∧
    addE (mulN xn xd zn zd) (mulD xn xd zn zd) (mulN yn yd zn zd) (mulD yn yd zn zd) = 0 ∧
    mulN (addN xn xd yn yd) (addD xn xd yn yd) zn zd = addN (mulN xn xd zn zd) (mulD xn xd zn zd) (mulN yn yd zn zd) (mulD yn yd zn zd) ∧
    mulD (addN xn xd yn yd) (addD xn xd yn yd) zn zd = addD (mulN xn xd zn zd) (mulD xn xd zn zd) (mulN yn yd zn zd) (mulD yn yd zn zd) ∧
    subE (addN xn xd yn yd) (addD xn xd yn yd) yn yd = 0 ∧ subN (addN xn xd yn yd) (addD xn xd yn yd) yn yd = xn ∧ subD (addN xn xd yn yd) (addD xn xd yn yd) yn yd = xd ∧
    (zn = 0 → divE (mulN xn xd zn zd) (mulD xn xd zn zd) zn zd = 2) ∧
    (zn ≠ 0 → divE (mulN xn xd zn zd) (mulD xn xd zn zd) zn zd = 0 ∧ divN (mulN xn xd zn zd) (mulD xn xd zn zd) zn zd = xn ∧ divD (mulN xn xd zn zd) (mulD xn xd zn zd) zn zd = xd) := by
  have hM : M = 1152921504606846976 := rfl
  obtain ⟨s, e1⟩ := Val.add hx hy (by omega) (by omega)
  obtain ⟨t, e2⟩ := Val.add hy hx (by omega) (by omega)
  obtain ⟨u, e3⟩ := Val.mul s hz (by omega) (by omega)
  obtain ⟨p, e4⟩ := Val.mul hx hz (by omega) (by omega)
  obtain ⟨q, e5⟩ := Val.mul hy hz (by omega) (by omega)
  obtain ⟨v, e6⟩ := Val.add p q (by omega) (by omega)
  obtain ⟨w, e7⟩ := Val.sub s hy (by omega) (by omega)
  obtain ⟨i1, i2⟩ := Val.inj s t (by grind)
  obtain ⟨i3, i4⟩ := Val.inj u v (by grind)
  obtain ⟨i5, i6⟩ := Val.inj w hx (by grind)
  refine ⟨e1, e2, i1, i2, e3, e4, e5, e6, i3, i4, e7, i5, i6, ?_, ?_⟩
  · intro h0
    subst h0
    exact div_zero_val _ _ _ p.1 hz.1
  · intro h0
    have b1 : (mulN xn xd zn zd).natAbs * zd.natAbs ≤ 400 * 12 := Nat.mul_le_mul p.2.2.2.2.1 hz.2.2.2.2.2
    have b2 : (mulD xn xd zn zd).natAbs * zn.natAbs ≤ 144 * 20 := Nat.mul_le_mul p.2.2.2.2.2 hz.2.2.2.2.1
    obtain ⟨k1, k2, k3⟩ := div_val (mulN xn xd zn zd) (mulD xn xd zn zd) zn zd p.1 hz.1 h0 (by omega) (by omega)
    refine ⟨k2, ok_inj k1 hx.1 ?_⟩
    obtain ⟨_, m1, m2, m3, _, _⟩ := p
    have zd0 := hz.2.2.2.1
    have xd0 := hx.2.2.2.1
    have hz2 := hz.2.1
    have hx2 := hx.2.1
    have q30 := hz.2.2.1
    have q10 := hx.2.2.1
    generalize divN (mulN xn xd zn zd) (mulD xn xd zn zd) zn zd = N at *
    generalize divD (mulN xn xd zn zd) (mulD xn xd zn zd) zn zd = D at *
    generalize mulN xn xd zn zd = a at *
    generalize mulD xn xd zn zd = b at *
    refine Int.eq_of_mul_eq_mul_right (Int.mul_ne_zero (Int.mul_ne_zero (show b ≠ 0 by omega) h0) (Int.mul_ne_zero (show q1 ≠ 0 by omega) (show q3 ≠ 0 by omega))) ?_
    grind
end Go.Proofs.Ytfofmblbcpliaaa
