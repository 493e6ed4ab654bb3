/- Plain laws of reduced fractions, and RatioLimits. -/
import Derived.Test.YtdibfecejgjfmaaGreatDoorRatK
set_option linter.unusedVariables false
namespace CoRat
/-- Equal values have equal lowest terms. -/
theorem low_eq {u v u' v' : Nat} (hv : 0 < v) (hv' : 0 < v') (h : u * v' = u' * v) : u / Nat.gcd u v = u' / Nat.gcd u' v' ∧ v / Nat.gcd u v = v' / Nat.gcd u' v' := by
  have g0 : 0 < Nat.gcd u v := Nat.gcd_pos_of_pos_right u hv
  have g0' : 0 < Nat.gcd u' v' := Nat.gcd_pos_of_pos_right u' hv'
  have c := Nat.coprime_div_gcd_div_gcd g0
  have c' := Nat.coprime_div_gcd_div_gcd g0'
  have e1 : u / Nat.gcd u v * Nat.gcd u v = u := Nat.div_mul_cancel (Nat.gcd_dvd_left u v)
  have e2 : v / Nat.gcd u v * Nat.gcd u v = v := Nat.div_mul_cancel (Nat.gcd_dvd_right u v)
  have e3 : u' / Nat.gcd u' v' * Nat.gcd u' v' = u' := Nat.div_mul_cancel (Nat.gcd_dvd_left u' v')
  have e4 : v' / Nat.gcd u' v' * Nat.gcd u' v' = v' := Nat.div_mul_cancel (Nat.gcd_dvd_right u' v')
  generalize Nat.gcd u v = g at *
  generalize Nat.gcd u' v' = g' at *
  generalize u / g = a at *
  generalize v / g = b at *
  generalize u' / g' = a' at *
  generalize v' / g' = b' at *
  have hb : 0 < b := by
    rcases Nat.eq_zero_or_pos b with z | z
    · rw [z, Nat.zero_mul] at e2; omega
    · exact z
  have key : a * b' = a' * b := by
    rw [← e1, ← e2, ← e3, ← e4] at h
    have h2 : (g * g') * (a * b') = (g * g') * (a' * b) := by
      rw [show g * g' * (a * b') = a * g * (b' * g') by rw [Nat.mul_mul_mul_comm, Nat.mul_comm g a, Nat.mul_comm g' b'], h, show g * g' * (a' * b) = a' * g' * (b * g) by rw [Nat.mul_comm g g', Nat.mul_mul_mul_comm, Nat.mul_comm g' a', Nat.mul_comm g b]]
    exact Nat.eq_of_mul_eq_mul_left (Nat.mul_pos g0 g0') h2
  have d1 : b ∣ b' := Nat.Coprime.dvd_of_dvd_mul_left (Nat.Coprime.symm c) ⟨a', by rw [key, Nat.mul_comm]⟩
  have d2 : b' ∣ b := Nat.Coprime.dvd_of_dvd_mul_left (Nat.Coprime.symm c') ⟨a, by rw [← key, Nat.mul_comm]⟩
  have hbb : b = b' := Nat.dvd_antisymm d1 d2
  refine ⟨?_, hbb⟩
  rw [← hbb] at key
  exact Nat.eq_of_mul_eq_mul_right hb key
theorem red_eq {u v u' v' : Nat} (hv : 0 < v) (hv' : 0 < v') (h : u * v' = u' * v) (s : Bool) : redN s u v = redN s u' v' ∧ redD u v = redD u' v' ∧ redE u v = redE u' v' := by
  obtain ⟨h1, h2⟩ := low_eq hv hv' h
  unfold redN redD redE fits
  rw [h1, h2]
  exact ⟨rfl, rfl, rfl⟩
theorem red_small {u v : Nat} (hv : 0 < v) (h1 : u ≤ M) (h2 : v ≤ M) : redN false u v = ((u / Nat.gcd u v : Nat) : Int) ∧ redD u v = ((v / Nat.gcd u v : Nat) : Int) ∧ redE u v = 0 := by
  have f : fits u v = true := by
    unfold fits
    rw [decide_eq_true_iff]
    exact ⟨Nat.le_trans (Nat.div_le_self _ _) h1, Nat.le_trans (Nat.div_le_self _ _) h2⟩
  unfold redN redD redE
  rw [f]
  exact ⟨rfl, rfl, rfl⟩
end CoRat
namespace Go.Proofs.YtdibfecejgjfmaaGreatDoor.Rt
open Go.RowKit CoRat

theorem mk_small {a b : Nat} (hb : 0 < b) (h1 : a ≤ M) (h2 : b ≤ M) : mkN a b = ((a / Nat.gcd a b : Nat) : Int) ∧ mkD a b = ((b / Nat.gcd a b : Nat) : Int) ∧ mkE a b = 0 := by
  have hb' : ¬ ((b : Int) = 0) := by omega
  unfold mkN mkD mkE
  rw [if_neg hb', if_neg hb', if_neg hb', decide_eq_false (by omega : ¬ ((a : Int) < 0)), decide_eq_false (by omega : ¬ ((b : Int) < 0))]
  exact red_small hb h1 h2
theorem ok_small {a b : Nat} (hb : 0 < b) (h1 : a ≤ M) (h2 : b ≤ M) : okF ((a / Nat.gcd a b : Nat) : Int) ((b / Nat.gcd a b : Nat) : Int) = true := by
  have g0 : 0 < Nat.gcd a b := Nat.gcd_pos_of_pos_right a hb
  have c : Nat.gcd (a / Nat.gcd a b) (b / Nat.gcd a b) = 1 := Nat.coprime_div_gcd_div_gcd g0
  have l1 : a / Nat.gcd a b ≤ a := Nat.div_le_self _ _
  have l2 : b / Nat.gcd a b ≤ b := Nat.div_le_self _ _
  have l3 : 0 < b / Nat.gcd a b := Nat.div_pos (Nat.le_of_dvd hb (Nat.gcd_dvd_right a b)) g0
  unfold M at h1 h2
  unfold okF
  rw [decide_eq_true_iff]
  generalize a / Nat.gcd a b = x at *
  generalize b / Nat.gcd a b = y at *
  refine ⟨by omega, by omega, by omega, by omega, ?_⟩
  simpa using c

set_option maxHeartbeats 400000 in
theorem mod_any (n k : Int) (w : World) (hk : 0 < k) (hk2 : k ≤ 4611686018427387904) :
    Calls Tryz.prog 32 #[.int .i64 n, .int .i64 k] w fun e w' => e = .returned (.int .i64 (n % k)) ∧ w = w' := by
  obtain ⟨T, hT⟩ : ∃ T, n.tmod k = T := ⟨_, rfl⟩
  have h1 : T < k := hT ▸ Int.tmod_lt_of_pos n hk
  have h2 : -k < T := by
    have := Int.tmod_lt_of_pos (-n) hk
    rw [Int.neg_tmod, hT] at this
    omega
  have h3 : Hid (n % k = (T + k) % k) := Lib.hid (by
    rw [Int.add_emod_right, ← hT]
    have e1 := Int.mul_tdiv_add_tmod n k
    conv => lhs; rw [← e1]
    rw [Int.mul_add_emod_self_left])
  go_enter Tryz.func32, Tryz.ntmps32
  go_wp2
  go_ret
  exact ⟨retInt h3.out.symm, rfl⟩

set_option maxHeartbeats 400000 in
theorem of_f (a b : Int) (w : World) (a0 : -9223372036854775808 ≤ a) (a1 : a ≤ 9223372036854775807) (b0 : -9223372036854775808 ≤ b) (b1 : b ≤ 9223372036854775807) :
    Calls Tryz.prog 52 #[.int .i64 a, .int .i64 b] w fun e w' => e = .returned (.agg #[.int .i64 (mkN a b), .int .i64 (mkD a b)]) ∧ Below w.heap.size w w' := by
  go_enter Tryz.func52, Tryz.ntmps52
  go_wp2_with fail
  refine (rmake_any a b _ a0 a1 b0 b1).mono ?_; rintro e w1 ⟨rfl, hb⟩; obtain ⟨hc, hf⟩ := bat hb (w.heap.size + 1) (by simp)
  have s1 : w.heap.size < w1.heap.size := by have := hb.size; simp at this; omega
  go_wp2_with fail
  refine bodyPost_ret (v := .agg #[.int .i64 (mkN a b), .int .i64 (mkD a b)]) (by simp [results, Tryz.results52, go_sem, hc, s1]) rfl ?_
  exact ⟨rfl, (two_below ((by go_grown : Below w.heap.size w _).trans (hb.mono (by simp))) (by omega) _ _).alloc (by simp; omega) _⟩
end Go.Proofs.YtdibfecejgjfmaaGreatDoor.Rt
