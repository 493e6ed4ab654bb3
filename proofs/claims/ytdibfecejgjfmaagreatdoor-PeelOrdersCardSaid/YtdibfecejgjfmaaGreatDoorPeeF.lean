/- Plain: densities as fractions in lowest terms, and their order. -/
import Derived.Test.YtdibfecejgjfmaaGreatDoorRatN
import Derived.Test.YtdibfecejgjfmaaGreatDoorRatS
set_option linter.unusedVariables false
namespace Go.Proofs.YtdibfecejgjfmaaGreatDoor
open Go.RowKit CoRat Rt

theorem mk_red (I s : Nat) (hs : 0 < s) (hI : I ≤ 1152921504606846976) (hs2 : s ≤ 1152921504606846976) :
    mkN (I : Int) (s : Int) = ((I / Nat.gcd I s : Nat) : Int) ∧ mkD (I : Int) (s : Int) = ((s / Nat.gcd I s : Nat) : Int) ∧ mkE (I : Int) (s : Int) = 0 := by
  have h := red_small (u := I) (v := s) hs (by unfold M; omega) (by unfold M; omega)
  unfold mkN mkD mkE
  rw [if_neg (by omega), if_neg (by omega), if_neg (by omega), decide_eq_false (show ¬ ((I : Int) < 0) by omega), decide_eq_false (show ¬ ((s : Int) < 0) by omega)]
  exact h
theorem mk_ok (I s : Nat) (hs : 0 < s) (hI : I ≤ 1152921504606846976) (hs2 : s ≤ 1152921504606846976) : okF (mkN (I : Int) (s : Int)) (mkD (I : Int) (s : Int)) = true := by
  obtain ⟨h1, h2, _⟩ := mk_red I s hs hI hs2
  rw [h1, h2]
  have hg : 0 < Nat.gcd I s := Nat.gcd_pos_of_pos_right _ hs
  have h3 : Nat.gcd (I / Nat.gcd I s) (s / Nat.gcd I s) = 1 := by
    rw [Nat.gcd_div (Nat.gcd_dvd_left _ _) (Nat.gcd_dvd_right _ _), Nat.div_self hg]
  have h4 := Nat.div_le_self I (Nat.gcd I s)
  have h5 := Nat.div_le_self s (Nat.gcd I s)
  have h6 : 0 < s / Nat.gcd I s := Nat.div_pos (Nat.le_of_dvd hs (Nat.gcd_dvd_right _ _)) hg
  unfold okF
  rw [Int.natAbs_natCast, Int.natAbs_natCast]
  generalize I / Nat.gcd I s = A at *
  generalize s / Nat.gcd I s = C at *
  exact decide_eq_true ⟨by omega, by omega, by omega, by omega, h3⟩
theorem cmp_mk (I s J t : Nat) (hs : 0 < s) (ht : 0 < t) (hI : I ≤ 1152921504606846976) (hs2 : s ≤ 1152921504606846976) (hJ : J ≤ 1152921504606846976) (ht2 : t ≤ 1152921504606846976) :
    cmpF (mkN (I : Int) (s : Int)) (mkD (I : Int) (s : Int)) (mkN (J : Int) (t : Int)) (mkD (J : Int) (t : Int)) = ((I : Int) * t - (J : Int) * s).sign := by
  unfold cmpF
  rw [mk_ok I s hs hI hs2, mk_ok J t ht hJ ht2, Bool.and_self, if_pos rfl]
  obtain ⟨h1, h2, _⟩ := mk_red I s hs hI hs2
  obtain ⟨h3, h4, _⟩ := mk_red J t ht hJ ht2
  rw [h1, h2, h3, h4]
  have g1 : 0 < Nat.gcd I s := Nat.gcd_pos_of_pos_right _ hs
  have g2 : 0 < Nat.gcd J t := Nat.gcd_pos_of_pos_right _ ht
  obtain ⟨a, ha⟩ := Nat.gcd_dvd_left I s
  obtain ⟨b, hb⟩ := Nat.gcd_dvd_right I s
  obtain ⟨c, hc⟩ := Nat.gcd_dvd_left J t
  obtain ⟨d, hd⟩ := Nat.gcd_dvd_right J t
  have e1 : I / Nat.gcd I s = a := Nat.div_eq_of_eq_mul_right g1 ha
  have e2 : s / Nat.gcd I s = b := Nat.div_eq_of_eq_mul_right g1 hb
  have e3 : J / Nat.gcd J t = c := Nat.div_eq_of_eq_mul_right g2 hc
  have e4 : t / Nat.gcd J t = d := Nat.div_eq_of_eq_mul_right g2 hd
  rw [e1, e2, e3, e4]
  generalize Nat.gcd I s = g at *
  generalize Nat.gcd J t = h at *
  subst ha; subst hb; subst hc; subst hd
  have e5 : (((g * a : Nat) : Int) * ((h * d : Nat) : Int) - ((h * c : Nat) : Int) * ((g * b : Nat) : Int)) = ((g * h : Nat) : Int) * ((a : Int) * d - (c : Int) * b) := by
    simp only [Int.natCast_mul]
    grind
  have e6 : (((g * h : Nat) : Int)).sign = 1 := Int.sign_eq_one_of_pos (by exact_mod_cast Nat.mul_pos g1 g2)
  rw [e5, Int.sign_mul, e6, Int.one_mul]
/-- Another fraction of the same value is the same in lowest terms. -/
theorem mk_cross (I s J t : Nat) (hs : 0 < s) (ht : 0 < t) (h : I * t = J * s) : mkN (I : Int) (s : Int) = mkN (J : Int) (t : Int) ∧ mkD (I : Int) (s : Int) = mkD (J : Int) (t : Int) ∧ mkE (I : Int) (s : Int) = mkE (J : Int) (t : Int) := by
  have hr := red_eq (u := I) (v := s) (u' := J) (v' := t) hs ht h false
  unfold mkN mkD mkE
  rw [if_neg (by omega), if_neg (by omega), if_neg (by omega), if_neg (by omega), if_neg (by omega), if_neg (by omega), decide_eq_false (show ¬ ((I : Int) < 0) by omega), decide_eq_false (show ¬ ((s : Int) < 0) by omega), decide_eq_false (show ¬ ((J : Int) < 0) by omega), decide_eq_false (show ¬ ((t : Int) < 0) by omega)]
  exact hr
/-- The value of the fraction. -/
theorem mk_val (I s : Nat) (hs : 0 < s) (hI : I ≤ 1152921504606846976) (hs2 : s ≤ 1152921504606846976) : ∃ a b : Nat, mkN (I : Int) (s : Int) = (a : Int) ∧ mkD (I : Int) (s : Int) = (b : Int) ∧ 0 < b ∧ a ≤ I ∧ b ≤ s ∧ a * s = I * b := by
  obtain ⟨h1, h2, _⟩ := mk_red I s hs hI hs2
  have g1 : 0 < Nat.gcd I s := Nat.gcd_pos_of_pos_right _ hs
  obtain ⟨a, ha⟩ := Nat.gcd_dvd_left I s
  obtain ⟨b, hb⟩ := Nat.gcd_dvd_right I s
  have e1 : I / Nat.gcd I s = a := Nat.div_eq_of_eq_mul_right g1 ha
  have e2 : s / Nat.gcd I s = b := Nat.div_eq_of_eq_mul_right g1 hb
  refine ⟨a, b, by rw [h1, e1], by rw [h2, e2], ?_, by rw [← e1]; exact Nat.div_le_self _ _, by rw [← e2]; exact Nat.div_le_self _ _, ?_⟩
  · rcases Nat.eq_zero_or_pos b with h | h
    · rw [h, Nat.mul_zero] at hb; omega
    · exact h
  · generalize Nat.gcd I s = g at *
    rw [ha, hb]; grind
end Go.Proofs.YtdibfecejgjfmaaGreatDoor
