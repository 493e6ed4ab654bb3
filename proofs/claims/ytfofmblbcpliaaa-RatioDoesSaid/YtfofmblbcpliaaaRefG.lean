/- The reference's Div. -/
import Derived.Test.YtfofmblbcpliaaaRefF
set_option linter.unusedVariables false
namespace Go.Proofs.Ytfofmblbcpliaaa.Rt
open Go.RowKit CoRat

set_option maxHeartbeats 4000000 in
theorem rDiv_any (a b c d : Int) (w : World) :
    Calls Try.prog 25 #[.agg #[.int .i64 a, .int .i64 b], .agg #[.int .i64 c, .int .i64 d]] w fun e w' => e = .returned (.tuple #[.agg #[.int .i64 (divN a b c d), .int .i64 (divD a b c d)], .int .i64 (divE a b c d)]) ∧ Below w.heap.size w w' := by
  have okx := fun w => rvalid_any a b w
  have oky := fun w => rvalid_any c d w
  cases hx : okF a b
  · have e1 : Hid (divN a b c d = 0 ∧ divD a b c d = 0 ∧ divE a b c d = 4) := Lib.hid (by unfold divN divD divE; rw [hx]; exact ⟨rfl, rfl, rfl⟩)
    rw [hx] at okx
    replace okx := Lib.hid okx
    clear hx oky
    go_enter Try.func25, Try.ntmps25
    go_wp2_with fail
    refine (okx.out _).mono ?_; rintro e w1 ⟨rfl, hb1⟩; obtain ⟨hc1, hf1⟩ := bat hb1 (w.heap.size + 3) (by simp)
    go_wp2_with fail
    refine bodyPost_ret (v := .tuple #[.agg #[.int .i64 0, .int .i64 0], .int .i64 4]) (by simp [results, Try.results25, go_sem, hc1]) rfl ?_
    exact ⟨retF e1.out.1.symm e1.out.2.1.symm e1.out.2.2.symm, ((by go_grown : Below w.heap.size w _).trans (hb1.mono (by simp; omega))).trans (two_below (Below.refl _ _) (by have := hb1.size; simp at this; omega) _ _)⟩
  · rw [hx] at okx
    replace okx := Lib.hid okx
    cases hy : okF c d
    · have e1 : Hid (divN a b c d = 0 ∧ divD a b c d = 0 ∧ divE a b c d = 4) := Lib.hid (by unfold divN divD divE; rw [hx, hy]; exact ⟨rfl, rfl, rfl⟩)
      rw [hy] at oky
      replace oky := Lib.hid oky
      clear hx hy
      go_enter Try.func25, Try.ntmps25
      go_wp2_with fail
      refine (okx.out _).mono ?_; rintro e w1 ⟨rfl, hb1⟩; obtain ⟨hc1, hf1⟩ := bat hb1 (w.heap.size + 3) (by simp)
      have s1 : w.heap.size + 3 ≤ w1.heap.size := by have := hb1.size; simp at this; omega
      go_wp2_with fail
      refine (oky.out _).mono ?_; rintro e w2 ⟨rfl, hb2⟩; obtain ⟨hc2, hf2⟩ := bat hb2 (w.heap.size + 3) s1
      go_wp2_with fail
      refine bodyPost_ret (v := .tuple #[.agg #[.int .i64 0, .int .i64 0], .int .i64 4]) (by simp [results, Try.results25, go_sem, hc1, hc2]) rfl ?_
      exact ⟨retF e1.out.1.symm e1.out.2.1.symm e1.out.2.2.symm, (((by go_grown : Below w.heap.size w _).trans (hb1.mono (by simp; omega))).trans (hb2.mono (by omega))).trans (two_below (Below.refl _ _) (by have := hb2.size; omega) _ _)⟩
    · rw [hy] at oky
      replace oky := Lib.hid oky
      have bx := okF_bd hx
      have bz := okF_bd hy
      obtain ⟨E, rfl⟩ := Int.eq_ofNat_of_zero_le (show 0 ≤ b by omega)
      obtain ⟨D, rfl⟩ := Int.eq_ofNat_of_zero_le (show 0 ≤ d by omega)
      by_cases hc0 : c = 0
      · have e1 : Hid (divN a E c D = 0 ∧ divD a E c D = 0 ∧ divE a E c D = 2) := Lib.hid (by unfold divN divD divE; rw [hx, hy]; simp [hc0])
        have hc0' : (c == 0) = true := by simpa using hc0
        clear hx hy hc0 bx bz
        go_enter Try.func25, Try.ntmps25
        go_wp2_with fail
        refine (okx.out _).mono ?_; rintro e w1 ⟨rfl, hb1⟩; obtain ⟨hc1, hf1⟩ := bat hb1 (w.heap.size + 3) (by simp)
        have s1 : w.heap.size + 3 ≤ w1.heap.size := by have := hb1.size; simp at this; omega
        go_wp2_with fail
        refine (oky.out _).mono ?_; rintro e w2 ⟨rfl, hb2⟩; obtain ⟨hc2, hf2⟩ := bat hb2 (w.heap.size + 3) s1
        go_wp2_with fail
        refine bodyPost_ret (v := .tuple #[.agg #[.int .i64 0, .int .i64 0], .int .i64 2]) (by simp [results, Try.results25, go_sem, hc1, hc2]) rfl ?_
        exact ⟨retF e1.out.1.symm e1.out.2.1.symm e1.out.2.2.symm, (((by go_grown : Below w.heap.size w _).trans (hb1.mono (by simp; omega))).trans (hb2.mono (by omega))).trans (two_below (Below.refl _ _) (by have := hb2.size; omega) _ _)⟩
      have hc0' : (c == 0) = false := by simpa using hc0
      have hcn : 0 < c.natAbs := by omega
      have e1 : Hid (divN a E c D = redN (decide (a < 0) != decide (c < 0)) (a.natAbs * D) (E * c.natAbs) ∧ divD a E c D = redD (a.natAbs * D) (E * c.natAbs) ∧ divE a E c D = redE (a.natAbs * D) (E * c.natAbs)) := Lib.hid (by
        unfold divN divD divE qN qD qE; rw [hx, hy, if_neg hc0, if_neg hc0, if_neg hc0]
        simp [show ¬ ((E : Int) < 0) by omega, show ¬ ((D : Int) < 0) by omega])
      clear hx hy hc0
      have sa := Lib.hid fun w => rsize_any a w (by omega) (by omega)
      have sc := Lib.hid fun w => rsize_any c w (by omega) (by omega)
      have ma := Lib.hid fun w => rmul_any a.natAbs D w (by omega) (by omega)
      have mb := Lib.hid fun w => rmul_any E c.natAbs w (by omega) (by omega)
      have hP := prod_lt a.natAbs D (by omega) (by omega)
      have hQ := prod_lt E c.natAbs (by omega) (by omega)
      have hQ2 : E * c.natAbs * 2 < B := by
        have := Nat.mul_le_mul (show E ≤ 1152921504606846976 by omega) (show c.natAbs ≤ 1152921504606846976 by omega)
        unfold B; omega
      have hQ0 : 0 < E * c.natAbs := Nat.mul_pos (by omega) (by omega)
      have rd := Lib.hid fun s w => reduce_any s _ _ _ _ (a.natAbs * D) (E * c.natAbs) w (W.mk (a.natAbs * D)) hP (W.mk (E * c.natAbs)) hQ2 hQ0
      have E1 : (1 : Int) ≤ E := by omega
      have E2 : (E : Int) ≤ 1152921504606846976 := by omega
      have D1 : (1 : Int) ≤ D := by omega
      have D2 : (D : Int) ≤ 1152921504606846976 := by omega
      have wE : IntKind.u64.wrap (E : Int) = (E : Int) := wrap_nat E (by omega)
      have wD : IntKind.u64.wrap (D : Int) = (D : Int) := wrap_nat D (by omega)
      clear bx bz hP hQ hQ2 hQ0 hcn
      generalize a.natAbs * D = P at *
      generalize E * c.natAbs = Q at *
      generalize hna : a.natAbs = na at *
      generalize hnc : c.natAbs = nc at *
      clear hna hnc
      go_enter Try.func25, Try.ntmps25
      go_wp2_with fail
      refine (okx.out _).mono ?_; rintro e w1 ⟨rfl, hb1⟩; obtain ⟨hc1, hf1⟩ := bat hb1 (w.heap.size + 3) (by simp)
      have s1 : w.heap.size + 3 ≤ w1.heap.size := by have := hb1.size; simp at this; omega
      go_wp2_with fail
      refine (oky.out _).mono ?_; rintro e w2 ⟨rfl, hb2⟩; obtain ⟨hc2, hf2⟩ := bat hb2 (w.heap.size + 3) s1
      have s2 : w.heap.size + 3 ≤ w2.heap.size := by have := hb2.size; omega
      have x0 : w2.cell? ⟨w.heap.size, 0, none⟩ = some (.int .i64 a) := by rw [hc2 _ _ (by omega), hc1 _ _ (by omega)]; go_simp
      have x1 : w2.cell? ⟨w.heap.size, 1, none⟩ = some (.int .i64 E) := by rw [hc2 _ _ (by omega), hc1 _ _ (by omega)]; go_simp
      have y0 : w2.cell? ⟨w.heap.size + 1, 0, none⟩ = some (.int .i64 c) := by rw [hc2 _ _ (by omega), hc1 _ _ (by omega)]; go_simp
      have y1 : w2.cell? ⟨w.heap.size + 1, 1, none⟩ = some (.int .i64 D) := by rw [hc2 _ _ (by omega), hc1 _ _ (by omega)]; go_simp
      have t0 : w2.cell? ⟨w.heap.size + 1 + 1, 0, none⟩ = some (.int .i64 0) := by rw [hc2 _ _ (by omega), hc1 _ _ (by omega)]; go_simp
      have t1 : w2.cell? ⟨w.heap.size + 1 + 1, 1, none⟩ = some (.int .i64 0) := by rw [hc2 _ _ (by omega), hc1 _ _ (by omega)]; go_simp
      have t2 : w2.frozen? ⟨w.heap.size + 1 + 1, 0, none⟩ = false := by rw [hf2 _ _ (by omega), hf1 _ _ (by omega)]; go_simp
      have t3 : w2.frozen? ⟨w.heap.size + 1 + 1, 1, none⟩ = false := by rw [hf2 _ _ (by omega), hf1 _ _ (by omega)]; go_simp
      have b2 : Below w.heap.size w w2 := ((by go_grown : Below w.heap.size w _).trans (hb1.mono (by simp; omega))).trans (hb2.mono (by omega))
      clear hc1 hf1 hc2 hf2 hb1 hb2
      all_goals
        go_wp2_with fail
        go_region_held3 (fun w' => w'.cell? ⟨w.heap.size, 0, none⟩ = some (.int .i64 a) ∧ w'.cell? ⟨w.heap.size, 1, none⟩ = some (.int .i64 E) ∧ w'.cell? ⟨w.heap.size + 1, 0, none⟩ = some (.int .i64 c) ∧ w'.cell? ⟨w.heap.size + 1, 1, none⟩ = some (.int .i64 D))
          ((first | (go_split_ands; refine ⟨?_, ?_, ?_, ?_⟩ <;> (rw [hc3 _ _ (by omega)]; assumption)) | (go_split_ands; refine ⟨?_, ?_, ?_, ?_⟩ <;> (rw [hc4 _ _ (by omega), hc3 _ _ (by omega)]; assumption)) | (go_split_ands; refine ⟨?_, ?_, ?_, ?_⟩ <;> (rw [hc5 _ _ (by omega), hc4 _ _ (by omega), hc3 _ _ (by omega)]; assumption)) | (go_split_ands; refine ⟨?_, ?_, ?_, ?_⟩ <;> (rw [World.cell?_setCell_other _ _ _ _ (fun e => by injection e with e1; omega), World.cell?_setCell_other _ _ _ _ (fun e => by injection e with e1; omega)]; assumption)) | ((repeat' apply And.intro) <;> (go_keep; done))))
          (first | (go_at_call 33; (with_reducible refine (sa.out _).mono ?_); rintro e w9 ⟨rfl, rfl⟩) | (go_at_call 33; (with_reducible refine (sc.out _).mono ?_); rintro e w9 ⟨rfl, rfl⟩) | (go_at_call 43; (with_reducible refine (ma.out _).mono ?_); rintro e w3 ⟨rfl, hb3⟩; obtain ⟨hc3, hf3⟩ := bat hb3 (w.heap.size + 3) s2; have s3 : w.heap.size + 3 ≤ w3.heap.size := Nat.le_trans s2 hb3.size; have b3 : Below w.heap.size w w3 := b2.drew.trans (hb3.mono (by simp; omega))) | (go_at_call 43; (with_reducible refine (mb.out _).mono ?_); rintro e w4 ⟨rfl, hb4⟩; obtain ⟨hc4, hf4⟩ := bat hb4 (w.heap.size + 3) s3; have s4 : w.heap.size + 3 ≤ w4.heap.size := Nat.le_trans s3 hb4.size; have b4 : Below w.heap.size w w4 := b3.trans (hb4.mono (by omega))) | (go_at_call 32; (with_reducible refine (rd.out _ _).mono ?_); rintro e w5 ⟨rfl, hb5⟩; obtain ⟨hc5, hf5⟩ := bat hb5 (w.heap.size + 3) s4; have s5 : w.heap.size + 3 ≤ w5.heap.size := Nat.le_trans s4 hb5.size; have b5 : Below w.heap.size w w5 := b4.trans (hb5.mono (by omega))))
        go_wp2_with fail
        refine bodyPost_ret (v := .tuple #[.agg #[.int .i64 (redN (decide (a < 0) != decide (c < 0)) P Q), .int .i64 (redD P Q)], .int .i64 (redE P Q)]) (by simp [results, Try.results25, go_sem, hc5, hc4, hc3, t0, t1]; cases decide (a < 0) <;> cases decide (c < 0) <;> rfl) rfl ?_
        exact ⟨retF (by rw [e1.out.1]) (by rw [e1.out.2.1]) (by rw [e1.out.2.2]), two_below b5 (by omega) _ _⟩
end Go.Proofs.Ytfofmblbcpliaaa.Rt
