/- Sub of package ratio. -/
import Derived.Test.YtfofmblbcpliaaaRatQ
set_option linter.unusedVariables false
namespace Go.Proofs.Ytfofmblbcpliaaa.Rt
open Go.RowKit CoRat


set_option maxHeartbeats 4000000 in
theorem sum_sub (a b c d : Int) (w : World) :
    Calls Try.prog 38 #[.agg #[.int .i64 a, .int .i64 b], .agg #[.int .i64 c, .int .i64 d], .func (Fn.func 42) #[] #[]] w fun e w' => e = .returned (.tuple #[.agg #[.int .i64 (subN a b c d), .int .i64 (subD a b c d)], .int .i64 (subE a b c d)]) ∧ Below w.heap.size w w' := by
  have okx := fun w => valid_any a b w
  have oky := fun w => valid_any c d w
  cases hx : okF a b
  · have e1 : Hid (subN a b c d = 0 ∧ subD a b c d = 0 ∧ subE a b c d = 4) := Lib.hid (by unfold subN subD subE; rw [hx]; exact ⟨rfl, rfl, rfl⟩)
    rw [hx] at okx
    replace okx := Lib.hid okx
    clear hx oky
    go_enter Try.func38, Try.ntmps38
    go_wp2_with fail
    refine (okx.out _).mono ?_; rintro e w1 ⟨rfl, hb1⟩; obtain ⟨hc1, hf1⟩ := bat hb1 (w.heap.size + 3) (by simp)
    go_wp2_with fail
    refine bodyPost_ret (v := .tuple #[.agg #[.int .i64 0, .int .i64 0], .int .i64 4]) (by simp [results, Try.results38, go_sem, hc1]) rfl ?_
    exact ⟨retF e1.out.1.symm e1.out.2.1.symm e1.out.2.2.symm, ((by go_grown : Below w.heap.size w _).trans (hb1.mono (by simp; omega))).trans (two_below (Below.refl _ _) (by have := hb1.size; simp at this; omega) _ _)⟩
  · rw [hx] at okx
    replace okx := Lib.hid okx
    cases hy : okF c d
    · have e1 : Hid (subN a b c d = 0 ∧ subD a b c d = 0 ∧ subE a b c d = 4) := Lib.hid (by unfold subN subD subE; rw [hx, hy]; exact ⟨rfl, rfl, rfl⟩)
      rw [hy] at oky
      replace oky := Lib.hid oky
      clear hx hy
      go_enter Try.func38, Try.ntmps38
      go_wp2_with fail
      refine (okx.out _).mono ?_; rintro e w1 ⟨rfl, hb1⟩; obtain ⟨hc1, hf1⟩ := bat hb1 (w.heap.size + 3) (by simp)
      have s1 : w.heap.size + 3 ≤ w1.heap.size := by have := hb1.size; simp at this; omega
      go_wp2_with fail
      refine (oky.out _).mono ?_; rintro e w2 ⟨rfl, hb2⟩; obtain ⟨hc2, hf2⟩ := bat hb2 (w.heap.size + 3) s1
      go_wp2_with fail
      refine bodyPost_ret (v := .tuple #[.agg #[.int .i64 0, .int .i64 0], .int .i64 4]) (by simp [results, Try.results38, go_sem, hc1, hc2]) rfl ?_
      exact ⟨retF e1.out.1.symm e1.out.2.1.symm e1.out.2.2.symm, (((by go_grown : Below w.heap.size w _).trans (hb1.mono (by simp; omega))).trans (hb2.mono (by omega))).trans (two_below (Below.refl _ _) (by have := hb2.size; omega) _ _)⟩
    · by_cases hc0 : c = 0
      · have e1 : Hid (subN a b c d = a ∧ subD a b c d = b ∧ subE a b c d = 0) := Lib.hid (by unfold subN subD subE; rw [hx, hy, hc0]; exact ⟨rfl, rfl, rfl⟩)
        have hcb : (c == 0) = true := by simpa using hc0
        rw [hy] at oky
        replace oky := Lib.hid oky
        clear hx hy hc0
        go_enter Try.func38, Try.ntmps38
        go_wp2_with fail
        refine (okx.out _).mono ?_; rintro e w1 ⟨rfl, hb1⟩; obtain ⟨hc1, hf1⟩ := bat hb1 (w.heap.size + 3) (by simp)
        have s1 : w.heap.size + 3 ≤ w1.heap.size := by have := hb1.size; simp at this; omega
        go_wp2_with fail
        refine (oky.out _).mono ?_; rintro e w2 ⟨rfl, hb2⟩; obtain ⟨hc2, hf2⟩ := bat hb2 (w.heap.size + 3) s1
        go_wp2_with fail
        refine bodyPost_ret (v := .tuple #[.agg #[.int .i64 a, .int .i64 b], .int .i64 0]) (by simp [results, Try.results38, go_sem, hc1, hc2]) rfl ?_
        exact ⟨retF e1.out.1.symm e1.out.2.1.symm e1.out.2.2.symm, (((by go_grown : Below w.heap.size w _).trans (hb1.mono (by simp; omega))).trans (hb2.mono (by omega))).trans (two_below (Below.refl _ _) (by have := hb2.size; omega) _ _)⟩
      · have e1 : Hid (subN a b c d = redN ((psg (a.natAbs * d.natAbs) (c.natAbs * b.natAbs) (decide (a < 0) != decide (d < 0)) (!(decide (c < 0) != decide (b < 0)))) != (decide (b < 0) != decide (d < 0))) (psz (a.natAbs * d.natAbs) (c.natAbs * b.natAbs) (decide (a < 0) != decide (d < 0)) (!(decide (c < 0) != decide (b < 0)))) (b.natAbs * d.natAbs) ∧ subD a b c d = redD (psz (a.natAbs * d.natAbs) (c.natAbs * b.natAbs) (decide (a < 0) != decide (d < 0)) (!(decide (c < 0) != decide (b < 0)))) (b.natAbs * d.natAbs) ∧ subE a b c d = redE (psz (a.natAbs * d.natAbs) (c.natAbs * b.natAbs) (decide (a < 0) != decide (d < 0)) (!(decide (c < 0) != decide (b < 0)))) (b.natAbs * d.natAbs)) := Lib.hid (by unfold subN subD subE; rw [hx, hy, if_neg hc0, if_neg hc0, if_neg hc0]; exact ⟨rfl, rfl, rfl⟩)
        have hcb : (c == 0) = false := by simpa using hc0
        rw [hy] at oky
        replace oky := Lib.hid oky
        have bx := okF_bd hx
        have bz := okF_bd hy
        clear hx hy
        have p1 := mul60 (a := a) (b := d) (by omega) (by omega) (by omega) (by omega)
        have p2 := mul60 (a := c) (b := b) (by omega) (by omega) (by omega) (by omega)
        have p3 := mul60 (a := b) (b := d) (by omega) (by omega) (by omega) (by omega)
        have p4 : 0 < b.natAbs * d.natAbs := Nat.mul_pos (by omega) (by omega)
        have pr1 := fun w => product_any a d w (by omega) (by omega) (by omega) (by omega)
        have pr2 := fun w => product_any c b w (by omega) (by omega) (by omega) (by omega)
        have pr3 := fun w => product_any b d w (by omega) (by omega) (by omega) (by omega)
        obtain ⟨S1, S1h⟩ : ∃ S1, (decide (a < 0) != decide (d < 0)) = S1 := ⟨_, rfl⟩
        obtain ⟨S2, S2h⟩ : ∃ S2, (decide (c < 0) != decide (b < 0)) = S2 := ⟨_, rfl⟩
        obtain ⟨S3, S3h⟩ : ∃ S3, (decide (b < 0) != decide (d < 0)) = S3 := ⟨_, rfl⟩
        rw [S1h] at pr1
        rw [S2h] at pr2
        rw [S3h] at pr3
        have op := fun w => minus_any (hi (a.natAbs * d.natAbs)) (lo (a.natAbs * d.natAbs)) (hi (c.natAbs * b.natAbs)) (lo (c.natAbs * b.natAbs)) S1 S2 (a.natAbs * d.natAbs) (c.natAbs * b.natAbs) w (W.mk _) (W.mk _) (by omega)
        have hPB : psz (a.natAbs * d.natAbs) (c.natAbs * b.natAbs) S1 (!S2) < B := by unfold psz; split <;> (try split) <;> omega
        have ex := fun w => exact_any (hi (psz (a.natAbs * d.natAbs) (c.natAbs * b.natAbs) S1 (!S2))) (lo (psz (a.natAbs * d.natAbs) (c.natAbs * b.natAbs) S1 (!S2))) (hi (b.natAbs * d.natAbs)) (lo (b.natAbs * d.natAbs)) (psg (a.natAbs * d.natAbs) (c.natAbs * b.natAbs) S1 (!S2)) S3 (psz (a.natAbs * d.natAbs) (c.natAbs * b.natAbs) S1 (!S2)) (b.natAbs * d.natAbs) w (W.mk _) hPB (W.mk _) p3 p4
        replace e1 := e1.out
        rw [S1h, S2h, S3h] at e1
        replace e1 := Lib.hid e1
        generalize psz (a.natAbs * d.natAbs) (c.natAbs * b.natAbs) S1 (!S2) = PZ at *
        generalize psg (a.natAbs * d.natAbs) (c.natAbs * b.natAbs) S1 (!S2) = PG at *
        replace pr1 := Lib.hid pr1
        replace pr2 := Lib.hid pr2
        replace pr3 := Lib.hid pr3
        replace op := Lib.hid op
        replace ex := Lib.hid ex
        clear bx bz p1 p2 p3 p4 hPB hc0 S1h S2h S3h
        go_enter Try.func38, Try.ntmps38
        go_wp2_with fail
        refine (okx.out _).mono ?_; rintro e w1 ⟨rfl, hb1⟩; obtain ⟨hc1, hf1⟩ := bat hb1 (w.heap.size + 3) (by simp)
        have s1 : w.heap.size + 3 ≤ w1.heap.size := by have := hb1.size; simp at this; omega
        go_wp2_with fail
        refine (oky.out _).mono ?_; rintro e w3 ⟨rfl, hb2⟩; obtain ⟨hc3, hf3⟩ := bat hb2 (w.heap.size + 3) s1
        have s3 : w.heap.size + 3 ≤ w3.heap.size := by have := hb2.size; omega
        have x0 : w3.cell? ⟨w.heap.size, 0, none⟩ = some (.int .i64 a) := by rw [hc3 _ _ (by omega), hc1 _ _ (by omega)]; go_simp
        have x1 : w3.cell? ⟨w.heap.size, 1, none⟩ = some (.int .i64 b) := by rw [hc3 _ _ (by omega), hc1 _ _ (by omega)]; go_simp
        have y0 : w3.cell? ⟨w.heap.size + 1, 0, none⟩ = some (.int .i64 c) := by rw [hc3 _ _ (by omega), hc1 _ _ (by omega)]; go_simp
        have y1 : w3.cell? ⟨w.heap.size + 1, 1, none⟩ = some (.int .i64 d) := by rw [hc3 _ _ (by omega), hc1 _ _ (by omega)]; go_simp
        have t0 : w3.cell? ⟨w.heap.size + 1 + 1, 0, none⟩ = some (.int .i64 0) := by rw [hc3 _ _ (by omega), hc1 _ _ (by omega)]; go_simp
        have t1 : w3.cell? ⟨w.heap.size + 1 + 1, 1, none⟩ = some (.int .i64 0) := by rw [hc3 _ _ (by omega), hc1 _ _ (by omega)]; go_simp
        have t2 : w3.frozen? ⟨w.heap.size + 1 + 1, 0, none⟩ = false := by rw [hf3 _ _ (by omega), hf1 _ _ (by omega)]; go_simp
        have t3 : w3.frozen? ⟨w.heap.size + 1 + 1, 1, none⟩ = false := by rw [hf3 _ _ (by omega), hf1 _ _ (by omega)]; go_simp
        have b3 : Below w.heap.size w w3 := ((by go_grown : Below w.heap.size w _).trans (hb1.mono (by simp; omega))).trans (hb2.mono (by omega))
        clear hc1 hf1 hc3 hf3 hb1 hb2
        go_wp2_with fail
        go_region_held3 (fun w' => w'.cell? ⟨w.heap.size, 0, none⟩ = some (.int .i64 a) ∧ w'.cell? ⟨w.heap.size, 1, none⟩ = some (.int .i64 b) ∧ w'.cell? ⟨w.heap.size + 1, 0, none⟩ = some (.int .i64 c) ∧ w'.cell? ⟨w.heap.size + 1, 1, none⟩ = some (.int .i64 d))
          ((first | (go_split_ands; refine ⟨?_, ?_, ?_, ?_⟩ <;> (rw [hc8 _ _ (by omega)]; assumption)) | (go_split_ands; refine ⟨?_, ?_, ?_, ?_⟩ <;> (rw [hc7 _ _ (by omega)]; assumption)) | (go_split_ands; refine ⟨?_, ?_, ?_, ?_⟩ <;> (rw [hc6 _ _ (by omega)]; assumption)) | (go_split_ands; refine ⟨?_, ?_, ?_, ?_⟩ <;> (rw [hc5 _ _ (by omega)]; assumption)) | (go_split_ands; refine ⟨?_, ?_, ?_, ?_⟩ <;> (rw [hc4 _ _ (by omega)]; assumption)) | (go_split_ands; refine ⟨?_, ?_, ?_, ?_⟩ <;> (rw [World.cell?_setCell_other _ _ _ _ (fun e => by injection e with e1; omega), World.cell?_setCell_other _ _ _ _ (fun e => by injection e with e1; omega)]; assumption)) | ((repeat' apply And.intro) <;> (go_keep; done))))
          (first | (go_at_call 37; (with_reducible refine (pr1.out _).mono ?_); rintro e w4 ⟨rfl, hb4⟩; obtain ⟨hc4, hf4⟩ := bat hb4 (w.heap.size + 3) s3; have s4 : w.heap.size + 3 ≤ w4.heap.size := Nat.le_trans s3 hb4.size; have b4 : Below w.heap.size w w4 := b3.drew.trans (hb4.mono (by first | omega | (simp; omega)))) | (go_at_call 37; (with_reducible refine (pr2.out _).mono ?_); rintro e w5 ⟨rfl, hb5⟩; obtain ⟨hc5, hf5⟩ := bat hb5 (w.heap.size + 3) s4; have s5 : w.heap.size + 3 ≤ w5.heap.size := Nat.le_trans s4 hb5.size; have b5 : Below w.heap.size w w5 := b4.trans (hb5.mono (by first | omega | (simp; omega)))) | (go_at_call 42; (with_reducible refine (op.out _).mono ?_); rintro e w6 ⟨rfl, hb6⟩; obtain ⟨hc6, hf6⟩ := bat hb6 (w.heap.size + 3) s5; have s6 : w.heap.size + 3 ≤ w6.heap.size := Nat.le_trans s5 hb6.size; have b6 : Below w.heap.size w w6 := b5.trans (hb6.mono (by first | omega | (simp; omega)))) | (go_at_call 37; (with_reducible refine (pr3.out _).mono ?_); rintro e w7 ⟨rfl, hb7⟩; obtain ⟨hc7, hf7⟩ := bat hb7 (w.heap.size + 3) s6; have s7 : w.heap.size + 3 ≤ w7.heap.size := Nat.le_trans s6 hb7.size; have b7 : Below w.heap.size w w7 := b6.trans (hb7.mono (by first | omega | (simp; omega)))) | (go_at_call 30; (with_reducible refine (ex.out _).mono ?_); rintro e w8 ⟨rfl, hb8⟩; obtain ⟨hc8, hf8⟩ := bat hb8 (w.heap.size + 3) s7; have s8 : w.heap.size + 3 ≤ w8.heap.size := Nat.le_trans s7 hb8.size; have b8 : Below w.heap.size w w8 := b7.trans (hb8.mono (by first | omega | (simp; omega)))))
        go_wp2_with fail
        refine bodyPost_ret (v := .tuple #[.agg #[.int .i64 (redN (PG != S3) PZ (b.natAbs * d.natAbs)), .int .i64 (redD PZ (b.natAbs * d.natAbs))], .int .i64 (redE PZ (b.natAbs * d.natAbs))]) (by simp [results, Try.results38, go_sem, hc8, hc7, hc6, hc5, hc4, t0, t1]) rfl ?_
        exact ⟨retF e1.out.1.symm e1.out.2.1.symm e1.out.2.2.symm, two_below b8 (by omega) _ _⟩

set_option maxHeartbeats 1000000 in
theorem sub_any (a b c d : Int) (w : World) :
    Calls Try.prog 21 #[.agg #[.int .i64 a, .int .i64 b], .agg #[.int .i64 c, .int .i64 d]] w fun e w' => e = .returned (.tuple #[.agg #[.int .i64 (subN a b c d), .int .i64 (subD a b c d)], .int .i64 (subE a b c d)]) ∧ Below w.heap.size w w' := by
  go_enter Try.func21, Try.ntmps21
  go_wp2_with fail
  refine (sum_sub a b c d _).mono ?_; rintro e w1 ⟨rfl, hb1⟩; obtain ⟨hc1, hf1⟩ := bat hb1 (w.heap.size + 3) (by simp)
  go_wp2_with fail
  refine bodyPost_ret (v := .tuple #[.agg #[.int .i64 (subN a b c d), .int .i64 (subD a b c d)], .int .i64 (subE a b c d)]) (by simp [results, Try.results21, go_sem, hc1]) rfl ?_
  exact ⟨rfl, ((by go_grown : Below w.heap.size w _).trans (hb1.mono (by simp; omega))).trans (two_below (Below.refl _ _) (by have := hb1.size; simp at this; omega) _ _)⟩
end Go.Proofs.Ytfofmblbcpliaaa.Rt
