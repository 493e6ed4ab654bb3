/- The reference's Sub and Floor. -/
import Derived.Test.YtfofmblbcpliaaaRefH
import Derived.Test.YtfofmblbcpliaaaRatR
set_option linter.unusedVariables false
set_option linter.unusedSimpArgs false
namespace Go.Proofs.Ytfofmblbcpliaaa.Rt
open Go.RowKit CoRat

theorem okF_neg (c d : Int) : okF (-c) d = okF c d := by
  unfold okF
  rw [Int.natAbs_neg]
  exact decide_eq_decide.2 ⟨fun h => ⟨by omega, by omega, h.2.2⟩, fun h => ⟨by omega, by omega, h.2.2⟩⟩
theorem sub_neg_eq (a b c d : Int) : addN a b (-c) d = subN a b c d ∧ addD a b (-c) d = subD a b c d ∧ addE a b (-c) d = subE a b c d := by
  unfold addN addD addE subN subD subE
  rw [okF_neg, Int.natAbs_neg]
  by_cases hc : c = 0
  · subst hc; simp
  · have h1 : ¬ -c = 0 := by omega
    have h2 : decide (-c < 0) = !decide (c < 0) := by
      by_cases h : c < 0
      · rw [decide_eq_true h, decide_eq_false (by omega)]; rfl
      · rw [decide_eq_false h, decide_eq_true (by omega)]; rfl
    have h3 : ∀ s t : Bool, ((!s) != t) = !(s != t) := by decide
    rw [if_neg h1, if_neg hc, if_neg h1, if_neg hc, if_neg h1, if_neg hc, h2, h3]
    exact ⟨rfl, rfl, rfl⟩

set_option maxHeartbeats 4000000 in
theorem rSub_any (a b c d : Int) (w : World) :
    Calls Try.prog 23 #[.agg #[.int .i64 a, .int .i64 b], .agg #[.int .i64 c, .int .i64 d]] w fun e w' => e = .returned (.tuple #[.agg #[.int .i64 (subN a b c d), .int .i64 (subD a b c d)], .int .i64 (subE a b c d)]) ∧ Below w.heap.size w w' := by
  have okx := fun w => rvalid_any a b w
  have oky := fun w => rvalid_any c d w
  cases hx : okF a b
  · have e1 : Hid (subN a b c d = 0 ∧ subD a b c d = 0 ∧ subE a b c d = 4) := Lib.hid (by unfold subN subD subE; rw [hx]; exact ⟨rfl, rfl, rfl⟩)
    rw [hx] at okx
    replace okx := Lib.hid okx
    clear hx oky
    go_enter Try.func23, Try.ntmps23
    go_wp2_with fail
    refine (okx.out _).mono ?_; rintro e w1 ⟨rfl, hb1⟩; obtain ⟨hc1, hf1⟩ := bat hb1 (w.heap.size + 3) (by simp)
    go_wp2_with fail
    refine bodyPost_ret (v := .tuple #[.agg #[.int .i64 0, .int .i64 0], .int .i64 4]) (by simp [results, Try.results23, go_sem, hc1]) rfl ?_
    exact ⟨retF e1.out.1.symm e1.out.2.1.symm e1.out.2.2.symm, ((by go_grown : Below w.heap.size w _).trans (hb1.mono (by simp; omega))).trans (two_below (Below.refl _ _) (by have := hb1.size; simp at this; omega) _ _)⟩
  · rw [hx] at okx
    replace okx := Lib.hid okx
    cases hy : okF c d
    · have e1 : Hid (subN a b c d = 0 ∧ subD a b c d = 0 ∧ subE a b c d = 4) := Lib.hid (by unfold subN subD subE; rw [hx, hy]; exact ⟨rfl, rfl, rfl⟩)
      rw [hy] at oky
      replace oky := Lib.hid oky
      clear hx hy
      go_enter Try.func23, Try.ntmps23
      go_wp2_with fail
      refine (okx.out _).mono ?_; rintro e w1 ⟨rfl, hb1⟩; obtain ⟨hc1, hf1⟩ := bat hb1 (w.heap.size + 3) (by simp)
      have s1 : w.heap.size + 3 ≤ w1.heap.size := by have := hb1.size; simp at this; omega
      go_wp2_with fail
      refine (oky.out _).mono ?_; rintro e w2 ⟨rfl, hb2⟩; obtain ⟨hc2, hf2⟩ := bat hb2 (w.heap.size + 3) s1
      go_wp2_with fail
      refine bodyPost_ret (v := .tuple #[.agg #[.int .i64 0, .int .i64 0], .int .i64 4]) (by simp [results, Try.results23, go_sem, hc1, hc2]) rfl ?_
      exact ⟨retF e1.out.1.symm e1.out.2.1.symm e1.out.2.2.symm, (((by go_grown : Below w.heap.size w _).trans (hb1.mono (by simp; omega))).trans (hb2.mono (by omega))).trans (two_below (Below.refl _ _) (by have := hb2.size; omega) _ _)⟩
    · rw [hy] at oky
      replace oky := Lib.hid oky
      have bz := okF_bd hy
      have e1 := Lib.hid (sub_neg_eq a b c d)
      have kn := Lib.hid fun w => rNeg_any c d w (by omega) (by omega)
      have ka := Lib.hid fun w => rAdd_any a b (-c) d w
      clear hx hy bz
      go_enter Try.func23, Try.ntmps23
      go_wp2_with fail
      refine (okx.out _).mono ?_; rintro e w1 ⟨rfl, hb1⟩; obtain ⟨hc1, hf1⟩ := bat hb1 (w.heap.size + 3) (by simp)
      have s1 : w.heap.size + 3 ≤ w1.heap.size := by have := hb1.size; simp at this; omega
      go_wp2_with fail
      refine (oky.out _).mono ?_; rintro e w2 ⟨rfl, hb2⟩; obtain ⟨hc2, hf2⟩ := bat hb2 (w.heap.size + 3) s1
      have s2 : w.heap.size + 3 ≤ w2.heap.size := by have := hb2.size; omega
      have x0 : w2.cell? ⟨w.heap.size, 0, none⟩ = some (.int .i64 a) := by rw [hc2 _ _ (by omega), hc1 _ _ (by omega)]; go_simp
      have x1 : w2.cell? ⟨w.heap.size, 1, none⟩ = some (.int .i64 b) := by rw [hc2 _ _ (by omega), hc1 _ _ (by omega)]; go_simp
      have y0 : w2.cell? ⟨w.heap.size + 1, 0, none⟩ = some (.int .i64 c) := by rw [hc2 _ _ (by omega), hc1 _ _ (by omega)]; go_simp
      have y1 : w2.cell? ⟨w.heap.size + 1, 1, none⟩ = some (.int .i64 d) := by rw [hc2 _ _ (by omega), hc1 _ _ (by omega)]; go_simp
      have t0 : w2.cell? ⟨w.heap.size + 1 + 1, 0, none⟩ = some (.int .i64 0) := by rw [hc2 _ _ (by omega), hc1 _ _ (by omega)]; go_simp
      have t1 : w2.cell? ⟨w.heap.size + 1 + 1, 1, none⟩ = some (.int .i64 0) := by rw [hc2 _ _ (by omega), hc1 _ _ (by omega)]; go_simp
      have t2 : w2.frozen? ⟨w.heap.size + 1 + 1, 0, none⟩ = false := by rw [hf2 _ _ (by omega), hf1 _ _ (by omega)]; go_simp
      have t3 : w2.frozen? ⟨w.heap.size + 1 + 1, 1, none⟩ = false := by rw [hf2 _ _ (by omega), hf1 _ _ (by omega)]; go_simp
      have b2 : Below w.heap.size w w2 := ((by go_grown : Below w.heap.size w _).trans (hb1.mono (by simp; omega))).trans (hb2.mono (by omega))
      clear hc1 hf1 hc2 hf2 hb1 hb2
      go_wp2_with fail
      go_region_held3 (fun w' => w'.cell? ⟨w.heap.size, 0, none⟩ = some (.int .i64 a) ∧ w'.cell? ⟨w.heap.size, 1, none⟩ = some (.int .i64 b) ∧ w'.cell? ⟨w.heap.size + 1, 0, none⟩ = some (.int .i64 c) ∧ w'.cell? ⟨w.heap.size + 1, 1, none⟩ = some (.int .i64 d))
        ((first | (go_split_ands; refine ⟨?_, ?_, ?_, ?_⟩ <;> (rw [hc4 _ _ (by omega)]; assumption)) | (go_split_ands; refine ⟨?_, ?_, ?_, ?_⟩ <;> (rw [hc5 _ _ (by omega), hc4 _ _ (by omega)]; assumption)) | (go_split_ands; refine ⟨?_, ?_, ?_, ?_⟩ <;> (rw [World.cell?_setCell_other _ _ _ _ (fun e => by injection e with e1; omega), World.cell?_setCell_other _ _ _ _ (fun e => by injection e with e1; omega)]; assumption)) | ((repeat' apply And.intro) <;> (go_keep; done))))
        (first | (go_at_call 47; (with_reducible refine (kn.out _).mono ?_); rintro e w4 ⟨rfl, hb4⟩; obtain ⟨hc4, hf4⟩ := bat hb4 (w.heap.size + 3) s2; have s4 : w.heap.size + 3 ≤ w4.heap.size := Nat.le_trans s2 hb4.size; have b4 : Below w.heap.size w w4 := b2.drew.trans (hb4.mono (by simp; omega))) | (go_at_call 22; (with_reducible refine (ka.out _).mono ?_); rintro e w5 ⟨rfl, hb5⟩; obtain ⟨hc5, hf5⟩ := bat hb5 (w.heap.size + 3) s4; have s5 : w.heap.size + 3 ≤ w5.heap.size := Nat.le_trans s4 hb5.size; have b5 : Below w.heap.size w w5 := b4.trans (hb5.mono (by omega))) | fail)
      go_wp2_with fail
      refine bodyPost_ret (v := .tuple #[.agg #[.int .i64 (addN a b (-c) d), .int .i64 (addD a b (-c) d)], .int .i64 (addE a b (-c) d)]) (by simp [results, Try.results23, go_sem, hc5, hc4, t0, t1]) rfl ?_
      exact ⟨retF e1.out.1 e1.out.2.1 e1.out.2.2, two_below b5 (by omega) _ _⟩

set_option maxHeartbeats 1000000 in
theorem rFloor_any (n d : Int) (w : World) :
    Calls Try.prog 27 #[.agg #[.int .i64 n, .int .i64 d]] w fun e w' => e = .returned (.int .i64 (flF n d)) ∧ Below w.heap.size w w' := by
  have va := fun w => rvalid_any n d w
  cases ho : okF n d
  · rw [ho] at va
    replace va := Lib.hid va
    replace ho := Lib.hid ho
    go_enter Try.func27, Try.ntmps27
    go_wp2_with fail
    refine (va.out _).mono ?_; rintro e w1 ⟨rfl, hb⟩
    go_wp2_with fail
    go_returns
    exact ⟨retInt (by unfold flF; rw [ho.out]; rfl), ((Below.refl _ _).alloc (Nat.le_refl _) _).trans (hb.mono (by simp))⟩
  · have hbd : -1152921504606846976 ≤ n ∧ n ≤ 1152921504606846976 ∧ 1 ≤ d ∧ d ≤ 1152921504606846976 := by
      unfold okF at ho; have := of_decide_eq_true ho; omega
    obtain ⟨h1, h2, h3, h4⟩ := hbd
    rw [ho] at va
    replace va := Lib.hid va
    replace ho := Lib.hid ho
    by_cases hn : n < 0
    · have q1 : n.tdiv d = -(-n / d) := by
        obtain ⟨m, hm⟩ := Int.eq_ofNat_of_zero_le (show 0 ≤ -n by omega)
        obtain rfl : n = -(m : Int) := by omega
        rw [Int.neg_tdiv, Int.tdiv_eq_ediv_of_nonneg (by omega), Int.neg_neg]
      have q2 : n.tmod d = -(-n % d) := by
        obtain ⟨m, hm⟩ := Int.eq_ofNat_of_zero_le (show 0 ≤ -n by omega)
        obtain rfl : n = -(m : Int) := by omega
        rw [Int.neg_tmod, Int.tmod_eq_emod_of_nonneg (by omega), Int.neg_neg]
      obtain ⟨Q, hQ⟩ : ∃ Q, -n / d = Q := ⟨_, rfl⟩
      obtain ⟨R, hR⟩ : ∃ R, -n % d = R := ⟨_, rfl⟩
      have hR0 : 0 ≤ R := hR ▸ Int.emod_nonneg _ (by omega)
      have hR1 : R < d := hR ▸ Int.emod_lt_of_pos _ (by omega)
      have hQ0 : 0 ≤ Q := hQ ▸ Int.ediv_nonneg (by omega) (by omega)
      have hQ1 : Q ≤ 1152921504606846976 := by
        have := Int.ediv_le_self d (show 0 ≤ -n by omega)
        omega
      have hfl : Hid (n / d = if R = 0 then -Q else -Q - 1) := Lib.hid (by
        have e1 := Int.mul_ediv_add_emod (-n) d
        rw [hQ, hR] at e1
        split
        · rename_i hz
          have : n = d * (-Q) := by rw [Int.mul_neg]; omega
          rw [this, Int.mul_ediv_cancel_left _ (by omega)]
        · rename_i hz
          have : n = (d - R) + d * (-Q - 1) := by rw [Int.mul_sub, Int.mul_neg]; omega
          rw [this, Int.add_mul_ediv_left _ _ (by omega), Int.ediv_eq_zero_of_lt (by omega) (by omega)]
          omega)
      rw [hQ] at q1
      rw [hR] at q2
      clear hQ hR
      by_cases hz : R = 0
      · have hz' : decide (-R < 0) = false := by simp [hz]
        have hz2 : ¬ 0 < R := by omega
        have hz3 : ¬ -R < 0 := by omega
        replace hz := Lib.hid hz
        go_enter Try.func27, Try.ntmps27
        go_wp2_with fail
        refine (va.out _).mono ?_; rintro e w1 ⟨rfl, hb⟩; obtain ⟨hc, hf⟩ := bat hb (w.heap.size + 1) (by simp)
        go_wp2_with fail
        go_returns
        exact ⟨retInt (by unfold flF; rw [ho.out, if_pos rfl, hfl.out]; simp [hz.out]), ((Below.refl _ _).alloc (Nat.le_refl _) _).trans (hb.mono (by simp))⟩
      · have hz' : decide (-R < 0) = true := by simp; omega
        have hz2 : 0 < R := by omega
        have hz3 : -R < 0 := by omega
        replace hz := Lib.hid hz
        go_enter Try.func27, Try.ntmps27
        go_wp2_with fail
        refine (va.out _).mono ?_; rintro e w1 ⟨rfl, hb⟩; obtain ⟨hc, hf⟩ := bat hb (w.heap.size + 1) (by simp)
        go_wp2_with fail
        go_returns
        exact ⟨retInt (by unfold flF; rw [ho.out, if_pos rfl, hfl.out]; simp [hz.out]), ((Below.refl _ _).alloc (Nat.le_refl _) _).trans (hb.mono (by simp))⟩
    · have q1 : 0 ≤ n / d := Int.ediv_nonneg (by omega) (by omega)
      have q2 : n / d ≤ 1152921504606846976 := by
        have := Int.ediv_le_self d (show 0 ≤ n by omega)
        omega
      have q3 : 0 ≤ n % d := Int.emod_nonneg _ (by omega)
      have q4 : ¬ n % d < 0 := by omega
      go_enter Try.func27, Try.ntmps27
      go_wp2_with fail
      refine (va.out _).mono ?_; rintro e w1 ⟨rfl, hb⟩; obtain ⟨hc, hf⟩ := bat hb (w.heap.size + 1) (by simp)
      go_wp2_with fail
      all_goals go_returns
      all_goals exact ⟨retInt (by unfold flF; rw [ho.out, if_pos rfl]), ((Below.refl _ _).alloc (Nat.le_refl _) _).trans (hb.mono (by simp))⟩
end Go.Proofs.Ytfofmblbcpliaaa.Rt
