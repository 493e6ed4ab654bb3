/- checked, lowest, exact, Make of package ratio. -/
import Derived.Test.YtfofmblbcpliaaaRatD
set_option linter.unusedVariables false
namespace Go.Proofs.Ytfofmblbcpliaaa
open Go.RowKit CoRat

theorem retF {a b c a' b' c' : Int} (h : a = a') (h2 : b = b') (h3 : c = c') : Ending.returned (.tuple #[.agg #[.int .i64 a, .int .i64 b], .int .i64 c]) = .returned (.tuple #[.agg #[.int .i64 a', .int .i64 b'], .int .i64 c']) := by rw [h, h2, h3]
theorem put2_below {n : Nat} {w w' : World} (h : Below n w w') {g : Nat} (hg : n ≤ g) (a b : Value) : Below n w ((w'.setCell ⟨g, 0, none⟩ a).setCell ⟨g, 1, none⟩ b) :=
  (h.setCell (p := ⟨g, 0, none⟩) hg _).setCell (p := ⟨g, 1, none⟩) hg _

set_option maxHeartbeats 400000 in
theorem checked_any (n d : Int) (w : World) :
    Calls Try.prog 48 #[.agg #[.int .i64 n, .int .i64 d]] w fun e w' => e = .returned (.tuple #[.agg #[.int .i64 (ckN n d), .int .i64 (ckD n d)], .int .i64 (ckE n d)]) ∧ Below w.heap.size w w' := by
  by_cases h : -1152921504606846976 ≤ n ∧ n ≤ 1152921504606846976
  · have h' : decide (-1152921504606846976 ≤ n ∧ n ≤ 1152921504606846976) = true := by simpa using h
    replace h := Lib.hid h
    have hw := fun w => within_any n 1152921504606846976 w (by omega) (by omega)
    rw [h'] at hw
    by_cases hd : 1152921504606846976 < d
    · have hm : Hid (inM n d = false) := Lib.hid (by unfold inM; rw [decide_eq_false_iff_not]; omega)
      replace hw := Lib.hid hw
      go_enter Try.func48, Try.ntmps48
      go_wp2_with fail
      refine (hw.out _).mono ?_; rintro e w1 ⟨rfl, rfl⟩
      go_wp2_with fail
      go_returns
      exact ⟨retF (by simp [ckN, hm.out]) (by simp [ckD, hm.out]) (by simp [ckE, hm.out]), by go_grown⟩
    · have hm : Hid (inM n d = true) := Lib.hid (by unfold inM; rw [decide_eq_true_iff]; have := h.out; omega)
      replace hw := Lib.hid hw
      go_enter Try.func48, Try.ntmps48
      go_wp2_with fail
      refine (hw.out _).mono ?_; rintro e w1 ⟨rfl, rfl⟩
      go_wp2_with fail
      go_returns
      exact ⟨retF (by simp [ckN, hm.out]) (by simp [ckD, hm.out]) (by simp [ckE, hm.out]), by go_grown⟩
  · have h' : decide (-1152921504606846976 ≤ n ∧ n ≤ 1152921504606846976) = false := by simpa using h
    have hw := fun w => within_any n 1152921504606846976 w (by omega) (by omega)
    rw [h'] at hw
    have hm : Hid (inM n d = false) := Lib.hid (by unfold inM; rw [decide_eq_false_iff_not]; omega)
    clear h
    replace hw := Lib.hid hw
    go_enter Try.func48, Try.ntmps48
    go_wp2_with fail
    refine (hw.out _).mono ?_; rintro e w1 ⟨rfl, rfl⟩
    go_wp2_with fail
    go_returns
    exact ⟨retF (by simp [ckN, hm.out]) (by simp [ckD, hm.out]) (by simp [ckE, hm.out]), by go_grown⟩

theorem gcd_abs (a b : Int) : Int.gcd a b = Nat.gcd a.natAbs b.natAbs := rfl
/-- One quotient of a number by the divisor, in the walk's two spellings. -/
theorem quo_pos (x : Int) (g : Nat) (hx : 0 ≤ x) : x / (g : Int) = ((x.natAbs / g : Nat) : Int) := by
  obtain ⟨a, rfl⟩ := Int.eq_ofNat_of_zero_le hx
  simp
theorem quo_neg (x : Int) (g : Nat) (hx : x ≤ 0) : x.tdiv (g : Int) = -((x.natAbs / g : Nat) : Int) := by
  obtain ⟨a, ha⟩ := Int.eq_ofNat_of_zero_le (show 0 ≤ -x by omega)
  obtain rfl : x = -(a : Int) := by omega
  simp [Int.neg_tdiv, Int.tdiv_eq_ediv_of_nonneg]
theorem low_end (x y : Int) (p q : Nat) (s : Bool) (hx : x = sg s ((p / Nat.gcd p q : Nat) : Int)) (hy : y = ((q / Nat.gcd p q : Nat) : Int)) :
    Ending.returned (.tuple #[.agg #[.int .i64 (ckN x y), .int .i64 (ckD x y)], .int .i64 (ckE x y)]) = .returned (.tuple #[.agg #[.int .i64 (redN s p q), .int .i64 (redD p q)], .int .i64 (redE p q)]) := by
  obtain ⟨h1, h2, h3⟩ := ck_red s p q
  rw [hx, hy]
  exact retF h1 h2 h3

set_option maxHeartbeats 1000000 in
theorem lowest_any (n d : Int) (w : World) (n0 : -4611686018427387904 ≤ n) (n1 : n ≤ 4611686018427387904) (d0 : -4611686018427387904 ≤ d) (d1 : d ≤ 4611686018427387904) (hd : d ≠ 0) :
    Calls Try.prog 29 #[.int .i64 n, .int .i64 d] w fun e w' => e = .returned (.tuple #[.agg #[.int .i64 (redN (decide (n < 0) != decide (d < 0)) n.natAbs d.natAbs), .int .i64 (redD n.natAbs d.natAbs)], .int .i64 (redE n.natAbs d.natAbs)]) ∧ Below w.heap.size w w' := by
  obtain ⟨g, hg⟩ : ∃ g, Nat.gcd n.natAbs d.natAbs = g := ⟨_, rfl⟩
  have hg0 : (1 : Int) ≤ g := by
    have := Nat.gcd_pos_of_pos_right n.natAbs (show 0 < d.natAbs by omega)
    omega
  have hg1 : (g : Int) ≤ 4611686018427387904 := by
    have := Nat.le_of_dvd (show 0 < d.natAbs by omega) (Nat.gcd_dvd_right n.natAbs d.natAbs)
    omega
  have hgh := Lib.hid hg; clear hg
  have hn' : n = sg (decide (n < 0)) (n.natAbs : Int) := by unfold sg; by_cases h : n < 0 <;> simp [h] <;> omega
  have hd' : d = sg (decide (d < 0)) (d.natAbs : Int) := by unfold sg; by_cases h : d < 0 <;> simp [h] <;> omega
  obtain ⟨A, hA⟩ : ∃ A, n.tdiv (g : Int) = A := ⟨_, rfl⟩
  obtain ⟨D, hD⟩ : ∃ D, d.tdiv (g : Int) = D := ⟨_, rfl⟩
  have vA : A = sg (decide (n < 0)) ((n.natAbs / g : Nat) : Int) := hA.symm.trans ((congrArg (fun z : Int => z.tdiv (g : Int)) hn').trans (tdiv_sg _ _ _))
  have vD : D = sg (decide (d < 0)) ((d.natAbs / g : Nat) : Int) := hD.symm.trans ((congrArg (fun z : Int => z.tdiv (g : Int)) hd').trans (tdiv_sg _ _ _))
  have bA : -4611686018427387904 ≤ A ∧ A ≤ 4611686018427387904 := by
    have h1 : n.natAbs / g ≤ n.natAbs := Nat.div_le_self _ _
    rw [vA]; unfold sg; generalize n.natAbs / g = z at *; split <;> omega
  have bD : -4611686018427387904 ≤ D ∧ D ≤ 4611686018427387904 := by
    have h1 : d.natAbs / g ≤ d.natAbs := Nat.div_le_self _ _
    rw [vD]; unfold sg; generalize d.natAbs / g = z at *; split <;> omega
  have wA1 : wrap64 A = A := IntWalk.wrap64_in _ ⟨by omega, by omega⟩
  have wA2 : wrap64 (-A) = -A := IntWalk.wrap64_in _ ⟨by omega, by omega⟩
  have wA3 : IntKind.i64.wrap A = A := IntWalk.i64_in _ ⟨by omega, by omega⟩
  have wA4 : IntKind.i64.wrap (-A) = -A := IntWalk.i64_in _ ⟨by omega, by omega⟩
  have wD1 : wrap64 D = D := IntWalk.wrap64_in _ ⟨by omega, by omega⟩
  have wD2 : wrap64 (-D) = -D := IntWalk.wrap64_in _ ⟨by omega, by omega⟩
  have wD3 : IntKind.i64.wrap D = D := IntWalk.i64_in _ ⟨by omega, by omega⟩
  have wD4 : IntKind.i64.wrap (-D) = -D := IntWalk.i64_in _ ⟨by omega, by omega⟩
  replace vA := Lib.hid vA
  replace vD := Lib.hid vD
  clear hn' hd'
  by_cases hs : d < 0
  · by_cases hn : n < 0
    · have dn : Hid (decide (n < 0) = true) := Lib.hid (by simp; omega)
      have ds : Hid (decide (d < 0) = true) := Lib.hid (by simp; omega)
      go_enter Try.func29, Try.ntmps29
      go_wp2_with fail
      all_goals
        refine (common_any _ _ _ (by omega) (by omega) (by omega) (by omega)).mono ?_; rintro e w1 ⟨rfl, k1, rfl⟩
        rw [gcd_abs]
        simp only [Int.natAbs_neg, hgh.out]
        go_wp2_with fail
        go_region_with ((go_at_call 48; refine (checked_any _ _ _).mono ?_; rintro e w2 ⟨rfl, hb⟩; obtain ⟨hc, hf⟩ := bat hb (w.heap.size + 1) (by simp)))
        all_goals
          go_wp2_with fail
          refine bodyPost_ret (v := .tuple #[.agg #[.int .i64 (ckN (-A) (-D)), .int .i64 (ckD (-A) (-D))], .int .i64 (ckE (-A) (-D))]) (by simp [results, Try.results29, go_sem, hc]) rfl ?_
          refine ⟨low_end _ _ n.natAbs d.natAbs _ ?_ ?_, (((Below.refl _ _).alloc (Nat.le_refl _) _ |> fun h => (below_drewN h _).drew).trans (hb.mono (by simp))).trans (put2_below (Below.refl _ _) (by have := hb.size; simp at this; omega) _ _)⟩
          · rw [hgh.out, vA.out, dn.out, ds.out]; simp [sg]
          · rw [hgh.out, vD.out, ds.out]; simp [sg]
    · have dn : Hid (decide (n < 0) = false) := Lib.hid (by simp; omega)
      have ds : Hid (decide (d < 0) = true) := Lib.hid (by simp; omega)
      go_enter Try.func29, Try.ntmps29
      go_wp2_with fail
      all_goals
        refine (common_any _ _ _ (by omega) (by omega) (by omega) (by omega)).mono ?_; rintro e w1 ⟨rfl, k1, rfl⟩
        rw [gcd_abs]
        simp only [Int.natAbs_neg, hgh.out]
        go_wp2_with fail
        go_region_with ((go_at_call 48; refine (checked_any _ _ _).mono ?_; rintro e w2 ⟨rfl, hb⟩; obtain ⟨hc, hf⟩ := bat hb (w.heap.size + 1) (by simp)))
        all_goals
          go_wp2_with fail
          refine bodyPost_ret (v := .tuple #[.agg #[.int .i64 (ckN (-A) (-D)), .int .i64 (ckD (-A) (-D))], .int .i64 (ckE (-A) (-D))]) (by simp [results, Try.results29, go_sem, hc]) rfl ?_
          refine ⟨low_end _ _ n.natAbs d.natAbs _ ?_ ?_, (((Below.refl _ _).alloc (Nat.le_refl _) _ |> fun h => (below_drewN h _).drew).trans (hb.mono (by simp))).trans (put2_below (Below.refl _ _) (by have := hb.size; simp at this; omega) _ _)⟩
          · rw [hgh.out, vA.out, dn.out, ds.out]; simp [sg]
          · rw [hgh.out, vD.out, ds.out]; simp [sg]
  · by_cases hn : n < 0
    · have dn : Hid (decide (n < 0) = true) := Lib.hid (by simp; omega)
      have ds : Hid (decide (d < 0) = false) := Lib.hid (by simp; omega)
      go_enter Try.func29, Try.ntmps29
      go_wp2_with fail
      all_goals
        refine (common_any _ _ _ (by omega) (by omega) (by omega) (by omega)).mono ?_; rintro e w1 ⟨rfl, k1, rfl⟩
        rw [gcd_abs]
        simp only [Int.natAbs_neg, hgh.out]
        go_wp2_with fail
        go_region_with ((go_at_call 48; refine (checked_any _ _ _).mono ?_; rintro e w2 ⟨rfl, hb⟩; obtain ⟨hc, hf⟩ := bat hb (w.heap.size + 1) (by simp)))
        all_goals
          go_wp2_with fail
          refine bodyPost_ret (v := .tuple #[.agg #[.int .i64 (ckN (A) (D)), .int .i64 (ckD (A) (D))], .int .i64 (ckE (A) (D))]) (by simp [results, Try.results29, go_sem, hc]) rfl ?_
          refine ⟨low_end _ _ n.natAbs d.natAbs _ ?_ ?_, (((Below.refl _ _).alloc (Nat.le_refl _) _ |> fun h => (below_drewN h _).drew).trans (hb.mono (by simp))).trans (put2_below (Below.refl _ _) (by have := hb.size; simp at this; omega) _ _)⟩
          · rw [hgh.out, vA.out, dn.out, ds.out]; simp [sg]
          · rw [hgh.out, vD.out, ds.out]; simp [sg]
    · have dn : Hid (decide (n < 0) = false) := Lib.hid (by simp; omega)
      have ds : Hid (decide (d < 0) = false) := Lib.hid (by simp; omega)
      go_enter Try.func29, Try.ntmps29
      go_wp2_with fail
      all_goals
        refine (common_any _ _ _ (by omega) (by omega) (by omega) (by omega)).mono ?_; rintro e w1 ⟨rfl, k1, rfl⟩
        rw [gcd_abs]
        simp only [hgh.out]
        go_wp2_with fail
        go_region_with ((go_at_call 48; refine (checked_any _ _ _).mono ?_; rintro e w2 ⟨rfl, hb⟩; obtain ⟨hc, hf⟩ := bat hb (w.heap.size + 1) (by simp)))
        all_goals
          go_wp2_with fail
          refine bodyPost_ret (v := .tuple #[.agg #[.int .i64 (ckN (A) (D)), .int .i64 (ckD (A) (D))], .int .i64 (ckE (A) (D))]) (by simp [results, Try.results29, go_sem, hc]) rfl ?_
          refine ⟨low_end _ _ n.natAbs d.natAbs _ ?_ ?_, (((Below.refl _ _).alloc (Nat.le_refl _) _ |> fun h => (below_drewN h _).drew).trans (hb.mono (by simp))).trans (put2_below (Below.refl _ _) (by have := hb.size; simp at this; omega) _ _)⟩
          · rw [hgh.out, vA.out, dn.out, ds.out]; simp [sg]
          · rw [hgh.out, vD.out, ds.out]; simp [sg]
end Go.Proofs.Ytfofmblbcpliaaa
