/- Valid and Floor of ratio, Valid of the reference. -/
import Derived.Test.YtfofmblbcpliaaaRefD
set_option linter.unusedVariables false
namespace Go.Proofs.Ytfofmblbcpliaaa
open Go.RowKit CoRat

/-- Is a fraction valid? -/
def okF (n d : Int) : Bool := decide (-1152921504606846976 ≤ n ∧ n ≤ 1152921504606846976 ∧ 1 ≤ d ∧ d ≤ 1152921504606846976 ∧ Nat.gcd n.natAbs d.natAbs = 1)

set_option maxHeartbeats 1000000 in
theorem valid_any (n d : Int) (w : World) :
    Calls Try.prog 10 #[.agg #[.int .i64 n, .int .i64 d]] w fun e w' => e = .returned (.bool (okF n d)) ∧ Below w.heap.size w w' := by
  have wn := fun w => within_any n 1152921504606846976 w (by omega) (by omega)
  by_cases hn : -1152921504606846976 ≤ n ∧ n ≤ 1152921504606846976
  · rw [decide_eq_true hn] at wn
    replace wn := Lib.hid wn
    by_cases hd : 1 ≤ d ∧ d ≤ 1152921504606846976
    · obtain ⟨g, hg⟩ : ∃ g, Nat.gcd n.natAbs d.natAbs = g := ⟨_, rfl⟩
      have ho : Hid (okF n d = decide (g = 1)) := Lib.hid (by unfold okF; rw [decide_eq_decide, hg]; omega)
      obtain ⟨hd1, hd2⟩ := hd
      obtain ⟨hn1, hn2⟩ := hn
      replace hg := Lib.hid hg
      go_enter Try.func10, Try.ntmps10
      go_wp2_with fail
      refine (wn.out _).mono ?_; rintro e w1 ⟨rfl, rfl⟩
      go_wp2_with fail
      all_goals
        refine (common_any _ _ _ (by omega) (by omega) (by omega) (by omega)).mono ?_; rintro e w1 ⟨rfl, k1, rfl⟩
        rw [gcd_abs]
        try simp only [Int.natAbs_neg]
        simp only [hg.out]
        go_wp2_with fail
        go_returns
        refine ⟨retBool (by rw [ho.out, Bool.eq_iff_iff]; simp; omega), ?_⟩
        exact below_drewN ((Below.refl _ _).alloc (Nat.le_refl _) _) _
    · have ho : Hid (okF n d = false) := Lib.hid (by unfold okF; rw [decide_eq_false_iff_not]; omega)
      clear hn
      by_cases hd1 : 1 ≤ d
      · have hd2 : 1152921504606846976 < d := by omega
        clear hd
        go_enter Try.func10, Try.ntmps10
        go_wp2_with fail
        refine (wn.out _).mono ?_; rintro e w1 ⟨rfl, rfl⟩
        go_wp2_with fail
        go_returns
        exact ⟨retBool ho.out.symm, by go_grown⟩
      · clear hd
        go_enter Try.func10, Try.ntmps10
        go_wp2_with fail
        refine (wn.out _).mono ?_; rintro e w1 ⟨rfl, rfl⟩
        go_wp2_with fail
        go_returns
        exact ⟨retBool ho.out.symm, by go_grown⟩
  · have ho : Hid (okF n d = false) := Lib.hid (by unfold okF; rw [decide_eq_false_iff_not]; omega)
    rw [decide_eq_false hn] at wn
    replace wn := Lib.hid wn
    clear hn
    go_enter Try.func10, Try.ntmps10
    go_wp2_with fail
    refine (wn.out _).mono ?_; rintro e w1 ⟨rfl, rfl⟩
    go_wp2_with fail
    go_returns
    exact ⟨retBool ho.out.symm, by go_grown⟩

set_option maxHeartbeats 1000000 in
theorem rvalid_any (n d : Int) (w : World) :
    Calls Try.prog 11 #[.agg #[.int .i64 n, .int .i64 d]] w fun e w' => e = .returned (.bool (okF n d)) ∧ Below w.heap.size w w' := by
  by_cases h : -1152921504606846976 ≤ n ∧ n ≤ 1152921504606846976 ∧ 1 ≤ d ∧ d ≤ 1152921504606846976
  · obtain ⟨h1, h2, h3, h4⟩ := h
    obtain ⟨g, hg⟩ : ∃ g, Nat.gcd n.natAbs d.natAbs = g := ⟨_, rfl⟩
    have ho : Hid (okF n d = decide (g = 1)) := Lib.hid (by unfold okF; rw [decide_eq_decide, hg]; omega)
    have hg1 : g ≤ d.natAbs := hg ▸ Nat.le_of_dvd (by omega) (Nat.gcd_dvd_right _ _)
    obtain ⟨eg1, eg2⟩ := hi_small (z := g) (by omega)
    have rg := fun w => rgcd_any 0 (n.natAbs : Int) 0 d n.natAbs d.natAbs w (W.low rfl (by omega)) (by unfold B; omega) (W.low (by omega) (by omega)) (by unfold B; omega)
    rw [hg, eg1, eg2] at rg
    replace rg := Lib.hid rg
    replace hg := Lib.hid hg
    clear eg1 eg2
    have wd : IntKind.u64.wrap d = d := IntWalk.u64_in _ ⟨by omega, by omega⟩
    by_cases hgo : g = 1
    · have hgb : ((g : Int) == 1) = true := by simp; omega
      replace hgo := Lib.hid hgo
      go_enter Try.func11, Try.ntmps11
      go_wp2_with fail
      go_region_with (first | (go_at_call 33; (with_reducible refine (rsize_any n _ (by omega) (by omega)).mono ?_); rintro e w1 ⟨rfl, rfl⟩) | (go_at_call 35; (with_reducible refine (rg.out _).mono ?_); rintro e w2 ⟨rfl, hb2⟩))
      all_goals go_wp2_with fail
      all_goals go_returns
      all_goals exact ⟨retBool (by rw [ho.out]; simp [hgo.out]), ((Below.refl _ _).alloc (Nat.le_refl _) _).drew.trans (hb2.mono (by simp))⟩
    · have hgb : ((g : Int) == 1) = false := by simp; omega
      replace hgo := Lib.hid hgo
      go_enter Try.func11, Try.ntmps11
      go_wp2_with fail
      go_region_with (first | (go_at_call 33; (with_reducible refine (rsize_any n _ (by omega) (by omega)).mono ?_); rintro e w1 ⟨rfl, rfl⟩) | (go_at_call 35; (with_reducible refine (rg.out _).mono ?_); rintro e w2 ⟨rfl, hb2⟩))
      all_goals go_wp2_with fail
      all_goals go_returns
      all_goals exact ⟨retBool (by rw [ho.out]; simp [hgo.out]), ((Below.refl _ _).alloc (Nat.le_refl _) _).drew.trans (hb2.mono (by simp))⟩
  · have ho : Hid (okF n d = false) := Lib.hid (by unfold okF; rw [decide_eq_false_iff_not]; omega)
    replace h := Lib.hid h
    go_enter Try.func11, Try.ntmps11
    go_wp2_with fail
    all_goals first | (exfalso; have := h.out; omega) | skip
    all_goals go_returns
    all_goals exact ⟨retBool ho.out.symm, by go_grown⟩
end Go.Proofs.Ytfofmblbcpliaaa
