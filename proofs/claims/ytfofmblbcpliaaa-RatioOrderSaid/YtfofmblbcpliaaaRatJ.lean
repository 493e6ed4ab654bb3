/- Mul and Div of package ratio. -/
import Derived.Test.YtfofmblbcpliaaaRatI
set_option linter.unusedVariables false
namespace Go.Proofs.Ytfofmblbcpliaaa
open Go.RowKit CoRat

theorem okF_bd {n d : Int} (h : okF n d = true) : -1152921504606846976 ≤ n ∧ n ≤ 1152921504606846976 ∧ 1 ≤ d ∧ d ≤ 1152921504606846976 ∧ Nat.gcd n.natAbs d.natAbs = 1 := by
  unfold okF at h; exact of_decide_eq_true h
theorem mul30 {a b : Int} (ha0 : -1073741824 ≤ a) (ha : a ≤ 1073741824) (hb0 : -1073741824 ≤ b) (hb : b ≤ 1073741824) : -1152921504606846976 ≤ a * b ∧ a * b ≤ 1152921504606846976 := by
  have h : (a * b).natAbs ≤ 1073741824 * 1073741824 := by
    rw [Int.natAbs_mul]; exact Nat.mul_le_mul (by omega) (by omega)
  omega
theorem mul60 {a b : Int} (ha0 : -1152921504606846976 ≤ a) (ha : a ≤ 1152921504606846976) (hb0 : -1152921504606846976 ≤ b) (hb : b ≤ 1152921504606846976) : a.natAbs * b.natAbs * 2 < B := by
  have h : a.natAbs * b.natAbs ≤ 1152921504606846976 * 1152921504606846976 := Nat.mul_le_mul (by omega) (by omega)
  unfold B; omega
/-- What Mul makes of two fractions. -/
def mulN (a b c d : Int) : Int := if okF a b && okF c d then qN a c b d else 0
def mulD (a b c d : Int) : Int := if okF a b && okF c d then qD a c b d else 0
def mulE (a b c d : Int) : Int := if okF a b && okF c d then qE a c b d else 4

set_option maxHeartbeats 4000000 in
theorem mul_any (a b c d : Int) (w : World) :
    Calls Try.prog 14 #[.agg #[.int .i64 a, .int .i64 b], .agg #[.int .i64 c, .int .i64 d]] w fun e w' => e = .returned (.tuple #[.agg #[.int .i64 (mulN a b c d), .int .i64 (mulD a b c d)], .int .i64 (mulE a b c d)]) ∧ Below w.heap.size w w' := by
  have okx := fun w => valid_any a b w
  have oky := fun w => valid_any c d w
  cases hx : okF a b
  · have e1 : Hid (mulN a b c d = 0 ∧ mulD a b c d = 0 ∧ mulE a b c d = 4) := Lib.hid (by unfold mulN mulD mulE; rw [hx]; exact ⟨rfl, rfl, rfl⟩)
    rw [hx] at okx
    replace okx := Lib.hid okx
    clear hx oky
    go_enter Try.func14, Try.ntmps14
    go_wp2_with fail
    refine (okx.out _).mono ?_; rintro e w1 ⟨rfl, hb1⟩; obtain ⟨hc1, hf1⟩ := bat hb1 (w.heap.size + 3) (by simp)
    go_wp2_with fail
    refine bodyPost_ret (v := .tuple #[.agg #[.int .i64 0, .int .i64 0], .int .i64 4]) (by simp [results, Try.results14, go_sem, hc1]) rfl ?_
    exact ⟨retF e1.out.1.symm e1.out.2.1.symm e1.out.2.2.symm, ((by go_grown : Below w.heap.size w _).trans (hb1.mono (by simp; omega))).trans (two_below (Below.refl _ _) (by have := hb1.size; simp at this; omega) _ _)⟩
  · rw [hx] at okx
    replace okx := Lib.hid okx
    cases hy : okF c d
    · have e1 : Hid (mulN a b c d = 0 ∧ mulD a b c d = 0 ∧ mulE a b c d = 4) := Lib.hid (by unfold mulN mulD mulE; rw [hx, hy]; exact ⟨rfl, rfl, rfl⟩)
      rw [hy] at oky
      replace oky := Lib.hid oky
      clear hx hy
      go_enter Try.func14, Try.ntmps14
      go_wp2_with fail
      refine (okx.out _).mono ?_; rintro e w1 ⟨rfl, hb1⟩; obtain ⟨hc1, hf1⟩ := bat hb1 (w.heap.size + 3) (by simp)
      have s1 : w.heap.size + 3 ≤ w1.heap.size := by have := hb1.size; simp at this; omega
      go_wp2_with fail
      refine (oky.out _).mono ?_; rintro e w2 ⟨rfl, hb2⟩; obtain ⟨hc2, hf2⟩ := bat hb2 (w.heap.size + 3) s1
      go_wp2_with fail
      refine bodyPost_ret (v := .tuple #[.agg #[.int .i64 0, .int .i64 0], .int .i64 4]) (by simp [results, Try.results14, go_sem, hc1, hc2]) rfl ?_
      exact ⟨retF e1.out.1.symm e1.out.2.1.symm e1.out.2.2.symm, (((by go_grown : Below w.heap.size w _).trans (hb1.mono (by simp; omega))).trans (hb2.mono (by omega))).trans (two_below (Below.refl _ _) (by have := hb2.size; omega) _ _)⟩
    · have e1 : Hid (mulN a b c d = qN a c b d ∧ mulD a b c d = qD a c b d ∧ mulE a b c d = qE a c b d) := Lib.hid (by unfold mulN mulD mulE; rw [hx, hy]; exact ⟨rfl, rfl, rfl⟩)
      rw [hy] at oky
      replace oky := Lib.hid oky
      have bx := okF_bd hx
      have bz := okF_bd hy
      have ea := fun w => easy_any a b c d w
      clear hx hy
      cases hz : easyB a b c d
      · rw [hz] at ea
        replace ea := Lib.hid ea
        have p1 := mul60 bx.1 bx.2.1 bz.1 bz.2.1
        have p2 := mul60 (a := b) (b := d) (by omega) (by omega) (by omega) (by omega)
        have p3 : 0 < b.natAbs * d.natAbs := Nat.mul_pos (by omega) (by omega)
        have pr1 := fun w => product_any a c w (by omega) (by omega) (by omega) (by omega)
        have pr2 := fun w => product_any b d w (by omega) (by omega) (by omega) (by omega)
        have ex := fun w => exact_any (hi (a.natAbs * c.natAbs)) (lo (a.natAbs * c.natAbs)) (hi (b.natAbs * d.natAbs)) (lo (b.natAbs * d.natAbs)) (decide (a < 0) != decide (c < 0)) (decide (b < 0) != decide (d < 0)) (a.natAbs * c.natAbs) (b.natAbs * d.natAbs) w (W.mk _) (by omega) (W.mk _) p2 p3
        obtain ⟨S1, S1h⟩ : ∃ S1, (decide (a < 0) != decide (c < 0)) = S1 := ⟨_, rfl⟩
        obtain ⟨S2, S2h⟩ : ∃ S2, (decide (b < 0) != decide (d < 0)) = S2 := ⟨_, rfl⟩
        rw [S1h] at pr1
        rw [S2h] at pr2
        rw [S1h, S2h] at ex
        replace S1h := Lib.hid S1h
        replace S2h := Lib.hid S2h
        replace pr1 := Lib.hid pr1
        replace pr2 := Lib.hid pr2
        replace ex := Lib.hid ex
        clear bx bz p1 p2 p3 hz
        go_enter Try.func14, Try.ntmps14
        go_wp2_with fail
        refine (okx.out _).mono ?_; rintro e w1 ⟨rfl, hb1⟩; obtain ⟨hc1, hf1⟩ := bat hb1 (w.heap.size + 3) (by simp)
        have s1 : w.heap.size + 3 ≤ w1.heap.size := by have := hb1.size; simp at this; omega
        go_wp2_with fail
        refine (oky.out _).mono ?_; rintro e w2 ⟨rfl, hb2⟩; obtain ⟨hc2, hf2⟩ := bat hb2 (w.heap.size + 3) s1
        have s2 : w.heap.size + 3 ≤ w2.heap.size := by have := hb2.size; omega
        go_wp2_with fail
        refine (ea.out _).mono ?_; rintro e w3 ⟨rfl, hb3⟩; obtain ⟨hc3, hf3⟩ := bat hb3 (w.heap.size + 3) s2
        have s3 : w.heap.size + 3 ≤ w3.heap.size := by have := hb3.size; omega
        have x0 : w3.cell? ⟨w.heap.size, 0, none⟩ = some (.int .i64 a) := by rw [hc3 _ _ (by omega), hc2 _ _ (by omega), hc1 _ _ (by omega)]; go_simp
        have x1 : w3.cell? ⟨w.heap.size, 1, none⟩ = some (.int .i64 b) := by rw [hc3 _ _ (by omega), hc2 _ _ (by omega), hc1 _ _ (by omega)]; go_simp
        have y0 : w3.cell? ⟨w.heap.size + 1, 0, none⟩ = some (.int .i64 c) := by rw [hc3 _ _ (by omega), hc2 _ _ (by omega), hc1 _ _ (by omega)]; go_simp
        have y1 : w3.cell? ⟨w.heap.size + 1, 1, none⟩ = some (.int .i64 d) := by rw [hc3 _ _ (by omega), hc2 _ _ (by omega), hc1 _ _ (by omega)]; go_simp
        have t0 : w3.cell? ⟨w.heap.size + 1 + 1, 0, none⟩ = some (.int .i64 0) := by rw [hc3 _ _ (by omega), hc2 _ _ (by omega), hc1 _ _ (by omega)]; go_simp
        have t1 : w3.cell? ⟨w.heap.size + 1 + 1, 1, none⟩ = some (.int .i64 0) := by rw [hc3 _ _ (by omega), hc2 _ _ (by omega), hc1 _ _ (by omega)]; go_simp
        have t2 : w3.frozen? ⟨w.heap.size + 1 + 1, 0, none⟩ = false := by rw [hf3 _ _ (by omega), hf2 _ _ (by omega), hf1 _ _ (by omega)]; go_simp
        have t3 : w3.frozen? ⟨w.heap.size + 1 + 1, 1, none⟩ = false := by rw [hf3 _ _ (by omega), hf2 _ _ (by omega), hf1 _ _ (by omega)]; go_simp
        have b3 : Below w.heap.size w w3 := (((by go_grown : Below w.heap.size w _).trans (hb1.mono (by simp; omega))).trans (hb2.mono (by omega))).trans (hb3.mono (by omega))
        clear hc1 hf1 hc2 hf2 hc3 hf3 hb1 hb2 hb3
        go_wp2_with fail
        go_region_held3 (fun w' => w'.cell? ⟨w.heap.size, 0, none⟩ = some (.int .i64 a) ∧ w'.cell? ⟨w.heap.size, 1, none⟩ = some (.int .i64 b) ∧ w'.cell? ⟨w.heap.size + 1, 0, none⟩ = some (.int .i64 c) ∧ w'.cell? ⟨w.heap.size + 1, 1, none⟩ = some (.int .i64 d))
          ((first | (go_split_ands; refine ⟨?_, ?_, ?_, ?_⟩ <;> (rw [hc4 _ _ (by omega)]; assumption)) | (go_split_ands; refine ⟨?_, ?_, ?_, ?_⟩ <;> (rw [hc5 _ _ (by omega), hc4 _ _ (by omega)]; assumption)) | (go_split_ands; refine ⟨?_, ?_, ?_, ?_⟩ <;> (rw [hc6 _ _ (by omega), hc5 _ _ (by omega), hc4 _ _ (by omega)]; assumption)) | (go_split_ands; refine ⟨?_, ?_, ?_, ?_⟩ <;> (rw [World.cell?_setCell_other _ _ _ _ (fun e => by injection e with e1; omega), World.cell?_setCell_other _ _ _ _ (fun e => by injection e with e1; omega)]; assumption)) | ((repeat' apply And.intro) <;> (go_keep; done))))
          (first | (go_at_call 37; (with_reducible refine (pr1.out _).mono ?_); rintro e w4 ⟨rfl, hb4⟩; obtain ⟨hc4, hf4⟩ := bat hb4 (w.heap.size + 3) s3; have s4 : w.heap.size + 3 ≤ w4.heap.size := Nat.le_trans s3 hb4.size; have b4 : Below w.heap.size w w4 := b3.drew.trans (hb4.mono (by simp; omega))) | (go_at_call 37; (with_reducible refine (pr2.out _).mono ?_); rintro e w5 ⟨rfl, hb5⟩; obtain ⟨hc5, hf5⟩ := bat hb5 (w.heap.size + 3) s4; have s5 : w.heap.size + 3 ≤ w5.heap.size := Nat.le_trans s4 hb5.size; have b5 : Below w.heap.size w w5 := b4.trans (hb5.mono (by omega))) | (go_at_call 30; (with_reducible refine (ex.out _).mono ?_); rintro e w6 ⟨rfl, hb6⟩; obtain ⟨hc6, hf6⟩ := bat hb6 (w.heap.size + 3) s5; have s6 : w.heap.size + 3 ≤ w6.heap.size := Nat.le_trans s5 hb6.size; have b6 : Below w.heap.size w w6 := b5.trans (hb6.mono (by omega))))
        go_wp2_with fail
        refine bodyPost_ret (v := .tuple #[.agg #[.int .i64 (redN (S1 != S2) (a.natAbs * c.natAbs) (b.natAbs * d.natAbs)), .int .i64 (redD (a.natAbs * c.natAbs) (b.natAbs * d.natAbs))], .int .i64 (redE (a.natAbs * c.natAbs) (b.natAbs * d.natAbs))]) (by simp [results, Try.results14, go_sem, hc6, hc5, hc4, t0, t1]) rfl ?_
        exact ⟨retF (by rw [e1.out.1, ← S1h.out, ← S2h.out]; rfl) (by rw [e1.out.2.1]; rfl) (by rw [e1.out.2.2]; rfl), two_below b6 (by omega) _ _⟩
      · rw [hz] at ea
        replace ea := Lib.hid ea
        have hz2 : (-1073741824 ≤ a ∧ a ≤ 1073741824) ∧ (-1073741824 ≤ c ∧ c ≤ 1073741824) ∧ (-1073741824 ≤ b ∧ b ≤ 1073741824) ∧ (-1073741824 ≤ d ∧ d ≤ 1073741824) := by
          unfold easyB at hz; exact of_decide_eq_true hz
        obtain ⟨⟨u1, u2⟩, ⟨u3, u4⟩, ⟨u5, u6⟩, ⟨u7, u8⟩⟩ := hz2
        have m1 := mul30 u1 u2 u3 u4
        have m2 := mul30 u5 u6 u7 u8
        obtain ⟨m1a, m1b⟩ := m1
        obtain ⟨m2a, m2b⟩ := m2
        have nz : b * d ≠ 0 := by
          have : 0 < b * d := Int.mul_pos (by omega) (by omega)
          omega
        have lw := fun w => lowest_any (a * c) (b * d) w (by omega) (by omega) (by omega) (by omega) nz
        have q := q_of_low a c b d nz
        rw [q.1, q.2.1, q.2.2] at lw
        replace lw := Lib.hid lw
        clear bx bz hz nz q
        go_enter Try.func14, Try.ntmps14
        go_wp2_with fail
        refine (okx.out _).mono ?_; rintro e w1 ⟨rfl, hb1⟩; obtain ⟨hc1, hf1⟩ := bat hb1 (w.heap.size + 3) (by simp)
        have s1 : w.heap.size + 3 ≤ w1.heap.size := by have := hb1.size; simp at this; omega
        go_wp2_with fail
        refine (oky.out _).mono ?_; rintro e w2 ⟨rfl, hb2⟩; obtain ⟨hc2, hf2⟩ := bat hb2 (w.heap.size + 3) s1
        have s2 : w.heap.size + 3 ≤ w2.heap.size := by have := hb2.size; omega
        go_wp2_with fail
        refine (ea.out _).mono ?_; rintro e w3 ⟨rfl, hb3⟩; obtain ⟨hc3, hf3⟩ := bat hb3 (w.heap.size + 3) s2
        have s3 : w.heap.size + 3 ≤ w3.heap.size := by have := hb3.size; omega
        go_wp2_with fail
        refine (lw.out _).mono ?_; rintro e w4 ⟨rfl, hb4⟩; obtain ⟨hc4, hf4⟩ := bat hb4 (w.heap.size + 3) s3
        go_wp2_with fail
        refine bodyPost_ret (v := .tuple #[.agg #[.int .i64 (qN a c b d), .int .i64 (qD a c b d)], .int .i64 (qE a c b d)]) (by simp [results, Try.results14, go_sem, hc4, hc3, hc2, hc1]) rfl ?_
        exact ⟨retF e1.out.1.symm e1.out.2.1.symm e1.out.2.2.symm, (((((by go_grown : Below w.heap.size w _).trans (hb1.mono (by simp; omega))).trans (hb2.mono (by omega))).trans (hb3.mono (by omega))).trans (hb4.mono (by omega))).trans (two_below (Below.refl _ _) (by have := hb4.size; omega) _ _)⟩
end Go.Proofs.Ytfofmblbcpliaaa
