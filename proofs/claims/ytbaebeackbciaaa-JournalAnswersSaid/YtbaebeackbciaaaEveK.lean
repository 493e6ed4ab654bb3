/- Made events (cohesionmake): Event. -/
import Derived.Test.YtbaebeackbciaaaDek
import Derived.Test.YtbaebeackbciaaaEveD
set_option linter.unusedVariables false
set_option linter.unusedSimpArgs false
namespace Go.Proofs.Ytbaebeackbciaaa
open Go.RowKit CoEv

/-- Within Event: the deck, and nothing old else has changed. -/
def EW (w W : World) (g : Nat) : Prop := Dk W g ∧ w.grownBy W (some g) ∧ g < w.heap.size
theorem set7 {W : World} {r : Nat} {ty : TypeId} {x0 x1 x2 x3 x4 x5 x6 : Value} (h : Blk W r ty #[x0, x1, x2, x3, x4, x5, x6]) (a0 a1 a2 a3 a4 a5 a6 : Value) :
    Blk (((((((W.setCell ⟨r, 0, none⟩ a0).setCell ⟨r, 1, none⟩ a1).setCell ⟨r, 2, none⟩ a2).setCell ⟨r, 3, none⟩ a3).setCell ⟨r, 4, none⟩ a4).setCell ⟨r, 5, none⟩ a5).setCell ⟨r, 6, none⟩ a6) r ty #[a0, a1, a2, a3, a4, a5, a6] ∧ Below r W (((((((W.setCell ⟨r, 0, none⟩ a0).setCell ⟨r, 1, none⟩ a1).setCell ⟨r, 2, none⟩ a2).setCell ⟨r, 3, none⟩ a3).setCell ⟨r, 4, none⟩ a4).setCell ⟨r, 5, none⟩ a5).setCell ⟨r, 6, none⟩ a6) := by
  refine ⟨by simpa using ((((((h.set 0 a0).set 1 a1).set 2 a2).set 3 a3).set 4 a4).set 5 a5).set 6 a6, ?_⟩
  exact ((((((((Below.refl r W).setCell (p := ⟨r, 0, none⟩) (Nat.le_refl _) a0).setCell (p := ⟨r, 1, none⟩) (Nat.le_refl _) a1).setCell (p := ⟨r, 2, none⟩) (Nat.le_refl _) a2).setCell (p := ⟨r, 3, none⟩) (Nat.le_refl _) a3).setCell (p := ⟨r, 4, none⟩) (Nat.le_refl _) a4).setCell (p := ⟨r, 5, none⟩) (Nat.le_refl _) a5).setCell (p := ⟨r, 6, none⟩) (Nat.le_refl _) a6)
theorem chk_set {t u v w l s : Int} (ht : 0 ≤ t) (ht2 : t ≤ 1048576) (hu : 0 ≤ u ∧ u < 64) (hv : 0 ≤ v ∧ v < 64) (hne : u ≠ v) (hw : 1 ≤ w ∧ w ≤ 1000) (hl : 0 ≤ l ∧ l ≤ 15) (hs : s = 1 ∨ s = -1) : chk ⟨1, t, u, v, w, l, s⟩ = 0 := by
  unfold chk
  have h1 : endsB ⟨1, t, u, v, w, l, s⟩ = true := by unfold endsB; rw [if_neg (show ¬ (1 : Int) = 3 by omega)]; exact decide_eq_true ⟨hu, hv, hne⟩
  have h2 : rightB w l s = true := by unfold rightB; exact decide_eq_true ⟨hw.1, hw.2, hl.1, hl.2, hs⟩
  simp only [h1, h2]
  rw [if_neg (by omega), if_neg (by omega)]
  simp
theorem chk_cut {t u v : Int} (ht : 0 ≤ t) (ht2 : t ≤ 1048576) (hu : 0 ≤ u ∧ u < 64) (hv : 0 ≤ v ∧ v < 64) (hne : u ≠ v) : chk ⟨2, t, u, v, 0, 0, 0⟩ = 0 := by
  unfold chk
  have h1 : endsB ⟨2, t, u, v, 0, 0, 0⟩ = true := by unfold endsB; rw [if_neg (show ¬ (2 : Int) = 3 by omega)]; exact decide_eq_true ⟨hu, hv, hne⟩
  simp only [h1]
  rw [if_neg (by omega), if_neg (by omega)]
  simp
theorem chk_leave {t u : Int} (ht : 0 ≤ t) (ht2 : t ≤ 1048576) (hu : 0 ≤ u ∧ u < 64) : chk ⟨3, t, u, 0, 0, 0, 0⟩ = 0 := by
  unfold chk
  have h1 : endsB ⟨3, t, u, 0, 0, 0, 0⟩ = true := by unfold endsB; rw [if_pos rfl]; exact decide_eq_true ⟨hu, rfl⟩
  simp only [h1]
  rw [if_neg (by omega), if_neg (by omega)]
  simp
theorem other_end {u x n : Int} (hu : 0 ≤ u) (hun : u < n) (hx : 0 ≤ x) (hxn : x < n - 1) : 0 ≤ (u + 1 + x) % n ∧ (u + 1 + x) % n < n ∧ u ≠ (u + 1 + x) % n := by
  have h1 := Int.emod_nonneg (u + 1 + x) (show n ≠ 0 by omega)
  have h2 := Int.emod_lt_of_pos (u + 1 + x) (show 0 < n by omega)
  refine ⟨h1, h2, fun e => ?_⟩
  by_cases hlt : u + 1 + x < n
  · rw [Int.emod_eq_of_lt (by omega) hlt] at e; omega
  · have : (u + 1 + x) % n = u + 1 + x - n := by
      rw [← Int.sub_emod_right, Int.emod_eq_of_lt (by omega) (by omega)]
    omega

set_option maxRecDepth 100000 in
set_option maxHeartbeats 4000000 in
theorem mkevent_any (g : Nat) (n t : Int) (w : World) (h : Dk w g) (hn : 2 ≤ n) (hn2 : n ≤ 64) (ht : 0 ≤ t) (ht2 : t ≤ 1048576) :
    Calls Try.prog 30 #[.pointer (some ⟨g, 0, none⟩), .int .i64 n, .int .i64 t] w fun e w' => ∃ ev : Ev, e = .returned (evV ev) ∧ chk ev = 0 ∧ Dk w' g ∧ w.grownBy w' (some g) := by
  have k1 := Lib.hid fun w h => next_any g n w h (by omega)
  have k2 := Lib.hid fun w h => next_any g (n - 1) w h (by omega)
  have k3 := Lib.hid fun w h => next_any g 10 w h (by omega)
  have k4 := Lib.hid fun w h => next_any g 6 w h (by omega)
  have k5 := Lib.hid fun w h => next_any g 4 w h (by omega)
  have k6 := Lib.hid fun w h => next_any g 2 w h (by omega)
  have hgl := h.lt
  have hb0 : w.grownBy (w.alloc (.cells #[.int .i64 0, .int .i64 0, .int .i64 0, .int .i64 0, .int .i64 0, .int .i64 0, .int .i64 0] 55)) (some g) := grown_below (World.grownBy.refl w _) ((Below.refl _ _).alloc (Nat.le_refl _) _) (Nat.le_refl _)
  have hR0 := Blk.new w 55 #[.int .i64 0, .int .i64 0, .int .i64 0, .int .i64 0, .int .i64 0, .int .i64 0, .int .i64 0]
  go_enter Try.func30, Try.ntmps30
  go_wp2_with fail
  (with_reducible refine (k1.out _ (h.alloc _)).mono ?_)
  rintro e w1 ⟨u, rfl, hu0, hu1, _, hD1, hg1⟩
  replace hu1 := hu1 (by omega)
  have hR1 := hR0.grown hg1 (by intro e; injection e with e; omega)
  have hg1' := grown_trans hb0 hg1
  have hs1 : w.heap.size < w1.heap.size := hR1.lt
  clear hR0 hg1 hb0
  go_upto_region 2 with fail
  have hE2 := Blk.new w1 55 #[.int .i64 1, .int .i64 t, .int .i64 u, .int .i64 0, .int .i64 0, .int .i64 0, .int .i64 0]
  have hR2 := hR1.alloc (.cells #[.int .i64 1, .int .i64 t, .int .i64 u, .int .i64 0, .int .i64 0, .int .i64 0, .int .i64 0] 55)
  have hD2 := hD1.alloc (.cells #[.int .i64 1, .int .i64 t, .int .i64 u, .int .i64 0, .int .i64 0, .int .i64 0, .int .i64 0] 55)
  have hg2 := grown_below hg1' ((Below.refl w1.heap.size w1).alloc (Nat.le_refl _) (.cells #[.int .i64 1, .int .i64 t, .int .i64 u, .int .i64 0, .int .i64 0, .int .i64 0, .int .i64 0] 55)) (by omega)
  clear hR1 hD1 hg1'
  have hge : w1.heap.size ≠ g := by omega
  generalize w1.alloc (.cells #[.int .i64 1, .int .i64 t, .int .i64 u, .int .i64 0, .int .i64 0, .int .i64 0, .int .i64 0] 55) = w2 at *
  have hgE : w.heap.size < w1.heap.size := hs1
  have hle := hE2.lt
  generalize w1.heap.size = ge at *
  have e2 := (Blk.cell hE2 2).trans rfl
  have q1 : IntKind.i64.wrap (u + 1) = u + 1 := by rw [IntKind.wrap_i64]; omega
  have q2 : IntKind.i64.wrap (n - 1) = n - 1 := by rw [IntKind.wrap_i64]; omega
  have qn : ¬ n = 0 := by omega
  have qn' : (n != 0) = true := by simp; omega
  go_loud (go_region_held3 (fun w' => w'.cell? ⟨ge, 2, none⟩ = some (.int .i64 u)) (first | exact e2 | exact e3 | exact (World.cell?_setCell_other _ _ _ _ (by simp)).trans e3)
    ((first
      | (go_at_call 15; (with_reducible refine (k2.out _ hD2.drew).mono ?_); rintro e w3 ⟨x, rfl, hx0, hx1, _, hD3, hg3⟩; have hE3 := hE2.drew.grown hg3 (by intro e; injection e with e; omega); have e3 := (Blk.cell hE3 2).trans rfl; have qx : IntKind.i64.wrap (u + 1 + x) = u + 1 + x := (by rw [IntKind.wrap_i64]; have := hx1 (by omega); omega); have qm : (u + 1 + x).tmod n = (u + 1 + x) % n := (by rw [Int.tmod_eq_emod_of_nonneg (by omega)]); have y3 := (Blk.cell hE3 3).trans rfl; have z3 := Blk.frozen hE3 3))))
  replace hx1 := hx1 (by omega)
  obtain ⟨hv0, hv1, hvne⟩ := other_end hu0 hu1 hx0 hx1
  have hE4 := hE3.set 3 (.int .i64 ((u + 1 + x) % n))
  simp at hE4
  have hR4 := (hR2.drew.grown hg3 (by intro e; injection e with e; omega)).far (p := ⟨ge, 3, none⟩) (by simp; omega) (.int .i64 ((u + 1 + x) % n))
  have hD4 := hD3.below ((Below.refl ge w3).setCell (p := ⟨ge, 3, none⟩) (Nat.le_refl _) (.int .i64 ((u + 1 + x) % n))) (by omega)
  have hg4 := grown_below (grown_trans (grown_drew hg2) hg3) ((Below.refl ge w3).setCell (p := ⟨ge, 3, none⟩) (Nat.le_refl _) (.int .i64 ((u + 1 + x) % n))) (by omega)
  clear e2 e3 hE3 hE2 hR2 hD2 hD3 hg2 hg3 y3 z3 q1 q2 qx qm hx0 hx1
  generalize w3.setCell ⟨ge, 3, none⟩ (.int .i64 ((u + 1 + x) % n)) = w4 at *
  generalize (u + 1 + x) % n = v at *
  go_wp2_with fail
  (with_reducible refine (k3.out _ hD4).mono ?_)
  rintro e w5 ⟨k, rfl, hk0, hk1, _, hD5, hg5⟩
  have hE5 := hE4.grown hg5 (by intro e; injection e with e; omega)
  have hR5 := hR4.grown hg5 (by intro e; injection e with e; omega)
  have hg5' := grown_trans hg4 hg5
  clear hE4 hR4 hD4 hg4 hg5
  have e0 := (Blk.cell hE5 0).trans rfl
  have e1 := (Blk.cell hE5 1).trans rfl
  have e2 := (Blk.cell hE5 2).trans rfl
  have e3 := (Blk.cell hE5 3).trans rfl
  have e4 := (Blk.cell hE5 4).trans rfl
  have e5 := (Blk.cell hE5 5).trans rfl
  have e6 := (Blk.cell hE5 6).trans rfl
  have f0 := Blk.frozen hE5 0
  have f1 := Blk.frozen hE5 1
  have f2 := Blk.frozen hE5 2
  have f3 := Blk.frozen hE5 3
  have f4 := Blk.frozen hE5 4
  have f5 := Blk.frozen hE5 5
  have f6 := Blk.frozen hE5 6
  have r0 := (Blk.cell hR5 0).trans rfl
  have r1 := (Blk.cell hR5 1).trans rfl
  have r2 := (Blk.cell hR5 2).trans rfl
  have r3 := (Blk.cell hR5 3).trans rfl
  have r4 := (Blk.cell hR5 4).trans rfl
  have r5 := (Blk.cell hR5 5).trans rfl
  have r6 := (Blk.cell hR5 6).trans rfl
  have s0 := Blk.frozen hR5 0
  have s1 := Blk.frozen hR5 1
  have s2 := Blk.frozen hR5 2
  have s3 := Blk.frozen hR5 3
  have s4 := Blk.frozen hR5 4
  have s5 := Blk.frozen hR5 5
  have s6 := Blk.frozen hR5 6
  have hk1' := hk1 (by omega)
  have hne1 : ¬ w.heap.size = ge := by omega
  have hne2 : ¬ ge = w.heap.size := by omega
  by_cases h8 : 8 ≤ k
  · have p8 : decide (8 ≤ k) = true := by simp; omega
    go_wp2_with fail
    obtain ⟨hRZ, hBZ⟩ := set7 hR5 (.int .i64 3) (.int .i64 t) (.int .i64 u) (.int .i64 0) (.int .i64 0) (.int .i64 0) (.int .i64 0)
    have hDZ := hD5.below hBZ hgl
    have hGZ := grown_below hg5' hBZ (Nat.le_refl _)
    have o0 := (Blk.cell hRZ 0).trans rfl
    have o1 := (Blk.cell hRZ 1).trans rfl
    have o2 := (Blk.cell hRZ 2).trans rfl
    have o3 := (Blk.cell hRZ 3).trans rfl
    have o4 := (Blk.cell hRZ 4).trans rfl
    have o5 := (Blk.cell hRZ 5).trans rfl
    have o6 := (Blk.cell hRZ 6).trans rfl
    refine bodyPost_ret (v := .agg #[.int .i64 3, .int .i64 t, .int .i64 u, .int .i64 0, .int .i64 0, .int .i64 0, .int .i64 0]) (by simp [results, Try.results30, go_sem, o0, o1, o2, o3, o4, o5, o6]) rfl ?_
    exact ⟨⟨3, t, u, 0, 0, 0, 0⟩, rfl, chk_leave ht ht2 ⟨hu0, by omega⟩, hDZ, hGZ⟩
  · have p8 : decide (8 ≤ k) = false := by simp; omega
    by_cases h5 : 5 ≤ k
    · have p5 : decide (5 ≤ k) = true := by simp; omega
      go_wp2_with fail
      obtain ⟨hRZ, hBZ⟩ := set7 hR5 (.int .i64 2) (.int .i64 t) (.int .i64 u) (.int .i64 v) (.int .i64 0) (.int .i64 0) (.int .i64 0)
      have hDZ := hD5.below hBZ hgl
      have hGZ := grown_below hg5' hBZ (Nat.le_refl _)
      have o0 := (Blk.cell hRZ 0).trans rfl
      have o1 := (Blk.cell hRZ 1).trans rfl
      have o2 := (Blk.cell hRZ 2).trans rfl
      have o3 := (Blk.cell hRZ 3).trans rfl
      have o4 := (Blk.cell hRZ 4).trans rfl
      have o5 := (Blk.cell hRZ 5).trans rfl
      have o6 := (Blk.cell hRZ 6).trans rfl
      refine bodyPost_ret (v := .agg #[.int .i64 2, .int .i64 t, .int .i64 u, .int .i64 v, .int .i64 0, .int .i64 0, .int .i64 0]) (by simp [results, Try.results30, go_sem, o0, o1, o2, o3, o4, o5, o6]) rfl ?_
      exact ⟨⟨2, t, u, v, 0, 0, 0⟩, rfl, chk_cut ht ht2 ⟨hu0, by omega⟩ ⟨hv0, by omega⟩ hvne, hDZ, hGZ⟩
    · have p5 : decide (5 ≤ k) = false := by simp; omega
      go_wp2_with fail
      clear e0 e1 e2 e3 e4 e5 e6 f0 f1 f2 f3 f4 f5 f6 r0 r1 r2 r3 r4 r5 r6 s0 s1 s2 s3 s4 s5 s6
      (with_reducible refine (k4.out _ hD5).mono ?_)
      rintro e w6 ⟨y, rfl, hy0, hy1, _, hD6, hg6⟩
      replace hy1 := hy1 (by omega)
      have hE6 := hE5.grown hg6 (by intro e; injection e with e; omega)
      have hR6 := hR5.grown hg6 (by intro e; injection e with e; omega)
      have hg6' := grown_trans hg5' hg6
      clear hg6
      go_wp2_with fail
      (with_reducible refine (k5.out _ hD6).mono ?_)
      rintro e w7 ⟨z, rfl, hz0, hz1, _, hD7, hg7⟩
      replace hz1 := hz1 (by omega)
      have hE7 := hE6.grown hg7 (by intro e; injection e with e; omega)
      have hR7 := hR6.grown hg7 (by intro e; injection e with e; omega)
      have hg7' := grown_trans hg6' hg7
      clear hg7
      go_wp2_with fail
      (with_reducible refine (k6.out _ hD7).mono ?_)
      rintro e w8 ⟨q, rfl, hq0, hq1, _, hD8, hg8⟩
      replace hq1 := hq1 (by omega)
      have hE8 := hE7.grown hg8 (by intro e; injection e with e; omega)
      have hR8 := hR7.grown hg8 (by intro e; injection e with e; omega)
      have hg8' := grown_trans hg7' hg8
      clear hg8
      have e0 := (Blk.cell hE8 0).trans rfl
      have e1 := (Blk.cell hE8 1).trans rfl
      have e2 := (Blk.cell hE8 2).trans rfl
      have e3 := (Blk.cell hE8 3).trans rfl
      have e4 := (Blk.cell hE8 4).trans rfl
      have e5 := (Blk.cell hE8 5).trans rfl
      have e6 := (Blk.cell hE8 6).trans rfl
      have f0 := Blk.frozen hE8 0
      have f1 := Blk.frozen hE8 1
      have f2 := Blk.frozen hE8 2
      have f3 := Blk.frozen hE8 3
      have f4 := Blk.frozen hE8 4
      have f5 := Blk.frozen hE8 5
      have f6 := Blk.frozen hE8 6
      have hE9 := ((hE8.set 4 (.int .i64 (1 + y))).set 5 (.int .i64 z)).set 6 (.int .i64 (1 - 2 * q))
      simp at hE9
      have hb9 : Below ge w8 (((w8.setCell ⟨ge, 4, none⟩ (.int .i64 (1 + y))).setCell ⟨ge, 5, none⟩ (.int .i64 z)).setCell ⟨ge, 6, none⟩ (.int .i64 (1 - 2 * q))) := (((Below.refl ge w8).setCell (p := ⟨ge, 4, none⟩) (Nat.le_refl _) _).setCell (p := ⟨ge, 5, none⟩) (Nat.le_refl _) _).setCell (p := ⟨ge, 6, none⟩) (Nat.le_refl _) _
      have hR9 := hR8.below hb9 hgE
      have hD9 := hD8.below hb9 (by omega)
      have hg9 := grown_below hg8' hb9 (by omega)
      go_upto_region 9 with fail
      clear e0 e1 e2 e3 e4 e5 e6 f0 f1 f2 f3 f4 f5 f6 hE8 hR8 hD8 hg8' hb9 hE7 hR7 hE6 hR6 hE5 hR5
      generalize ((w8.setCell ⟨ge, 4, none⟩ (.int .i64 (1 + y))).setCell ⟨ge, 5, none⟩ (.int .i64 z)).setCell ⟨ge, 6, none⟩ (.int .i64 (1 - 2 * q)) = w9 at *
      have e0 := (Blk.cell hE9 0).trans rfl
      have e1 := (Blk.cell hE9 1).trans rfl
      have e2 := (Blk.cell hE9 2).trans rfl
      have e3 := (Blk.cell hE9 3).trans rfl
      have e4 := (Blk.cell hE9 4).trans rfl
      have e5 := (Blk.cell hE9 5).trans rfl
      have e6 := (Blk.cell hE9 6).trans rfl
      have r0 := (Blk.cell hR9 0).trans rfl
      have r1 := (Blk.cell hR9 1).trans rfl
      have r2 := (Blk.cell hR9 2).trans rfl
      have r3 := (Blk.cell hR9 3).trans rfl
      have r4 := (Blk.cell hR9 4).trans rfl
      have r5 := (Blk.cell hR9 5).trans rfl
      have r6 := (Blk.cell hR9 6).trans rfl
      have s0 := Blk.frozen hR9 0
      have s1 := Blk.frozen hR9 1
      have s2 := Blk.frozen hR9 2
      have s3 := Blk.frozen hR9 3
      have s4 := Blk.frozen hR9 4
      have s5 := Blk.frozen hR9 5
      have s6 := Blk.frozen hR9 6
      go_wp2_with fail
      obtain ⟨hRZ, hBZ⟩ := set7 hR9 (.int .i64 (1)) (.int .i64 (t)) (.int .i64 (u)) (.int .i64 (v)) (.int .i64 (1 + y)) (.int .i64 (z)) (.int .i64 (1 - 2 * q))
      have hDZ := hD9.below hBZ hgl
      have hGZ := grown_below hg9 hBZ (Nat.le_refl _)
      have o0 := (Blk.cell hRZ 0).trans rfl
      have o1 := (Blk.cell hRZ 1).trans rfl
      have o2 := (Blk.cell hRZ 2).trans rfl
      have o3 := (Blk.cell hRZ 3).trans rfl
      have o4 := (Blk.cell hRZ 4).trans rfl
      have o5 := (Blk.cell hRZ 5).trans rfl
      have o6 := (Blk.cell hRZ 6).trans rfl
      refine bodyPost_ret (v := .agg #[.int .i64 (1), .int .i64 (t), .int .i64 (u), .int .i64 (v), .int .i64 (1 + y), .int .i64 (z), .int .i64 (1 - 2 * q)]) (by simp [results, Try.results30, go_sem, o0, o1, o2, o3, o4, o5, o6]) rfl ?_
      exact ⟨⟨1, t, u, v, 1 + y, z, 1 - 2 * q⟩, rfl, chk_set ht ht2 ⟨hu0, by omega⟩ ⟨hv0, by omega⟩ hvne ⟨by omega, by omega⟩ ⟨by omega, by omega⟩ (by omega), hDZ, hGZ⟩
end Go.Proofs.Ytbaebeackbciaaa
