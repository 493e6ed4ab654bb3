/- Made ticks and motifs (cohesionfield). -/
import Derived.Test.YtkcmbpokoijglaaMotB
import Derived.Test.YtkcmbpokoijglaaDek
set_option linter.unusedVariables false
set_option linter.unusedSimpArgs false
namespace CoMot
/-- Made ticks. -/
structure Tame (l : List Tick) : Prop where
  nodes : ∀ x ∈ l, 0 ≤ x.u ∧ x.u < 5 ∧ 0 ≤ x.v ∧ x.v < 5 ∧ x.u ≠ x.v
  asc : l.Pairwise (fun x y => x.t ≤ y.t)
  time : ∀ x ∈ l, 0 ≤ x.t ∧ x.t ≤ 100
theorem Tame.nil : Tame [] := ⟨by simp, List.Pairwise.nil, by simp⟩
theorem Tame.snoc {l : List Tick} (h : Tame l) {x : Tick} (h1 : 0 ≤ x.u ∧ x.u < 5 ∧ 0 ≤ x.v ∧ x.v < 5 ∧ x.u ≠ x.v) (h2 : 0 ≤ x.t ∧ x.t ≤ 100) (h3 : ∀ y ∈ l, y.t ≤ x.t) : Tame (l ++ [x]) := by
  refine ⟨fun y hy => ?_, List.pairwise_append.2 ⟨h.asc, List.pairwise_singleton _ _, fun y hy z hz => by rw [List.mem_singleton] at hz; rw [hz]; exact h3 y hy⟩, fun y hy => ?_⟩
  · rcases List.mem_append.1 hy with hy | hy
    · exact h.nodes y hy
    · rw [List.mem_singleton] at hy; rw [hy]; exact h1
  · rcases List.mem_append.1 hy with hy | hy
    · exact h.time y hy
    · rw [List.mem_singleton] at hy; rw [hy]; exact h2
theorem le_snoc {l : List Tick} {x : Tick} {T : Int} (h : ∀ y ∈ l, y.t ≤ T) (hx : x.t = T) (T' : Int) (hT : T ≤ T') : ∀ y ∈ l ++ [x], y.t ≤ T' := fun y hy => by
  rcases List.mem_append.1 hy with hy | hy
  · have := h y hy; omega
  · rw [List.mem_singleton] at hy; rw [hy]; omega
theorem far_end {u n x : Int} (hu0 : 0 ≤ u) (hu : u < n) (hx0 : 0 ≤ x) (hx : x < n - 1) : 0 ≤ (u + 1 + x) % n ∧ (u + 1 + x) % n < n ∧ (u + 1 + x) % n ≠ u := by
  rcases Int.lt_or_le (u + 1 + x) n with h | h
  · rw [Int.emod_eq_of_lt (by omega) h]; omega
  · rw [← Int.sub_emod_right, Int.emod_eq_of_lt (by omega) (by omega)]; omega
end CoMot
namespace Go.Proofs.Ytkcmbpokoijglaa
open Go.RowKit CoMot

theorem OS.own_far {α : Type} {E : El α} {t : TypeId} {w : World} {B g : Nat} {v : Value} {xs : List α} (h : OS E t w B v xs) (hg : g < B) : v.ownBlock = none ∨ v.ownBlock ≠ some g := by
  cases hv : v.ownBlock with
  | none => exact .inl rfl
  | some k => exact .inr (fun e => by injection e with e; have := (h.block_lt k hv).1; omega)
/-- The call returns new ticks, and turns the deck alone. -/
def RetTk (w : World) (g : Nat) (most : Nat) (e : Ending) (w' : World) : Prop := ∃ A n c l, e = .returned (.slice A n c) ∧ n ≤ c ∧ RS TE w' A n l ∧ l.length ≤ most ∧ Tame l ∧ Dk w' g ∧ w.grownBy w' (some g) ∧ Fr w.heap.size A
set_option maxRecDepth 100000 in
set_option maxHeartbeats 4000000 in
theorem fticks_any (g : Nat) (most : Nat) (w : World) (h : Dk w g) (hm : most ≤ 20) :
    Calls Try.prog 12 #[.pointer (some ⟨g, 0, none⟩), .int .i64 most] w (RetTk w g most) := by
  have k1 := Lib.hid fun w h => next_any g ((most : Int) + 1) w h (by omega)
  have k4 := Lib.hid fun w h => next_any g 4 w h (by omega)
  have k3 := Lib.hid fun w h => next_any g 3 w h (by omega)
  have kn := Lib.hid fun (n : Int) w h (hn : n ≤ 10) => next_any g n w h (by omega)
  have hgl := h.lt
  go_enter Try.func12, Try.ntmps12
  go_wp2_with fail
  (with_reducible refine (k4.out _ h).mono ?_)
  rintro e w0 ⟨d, rfl, hd0, hd1, _, hD0, hg0⟩
  replace hd1 := hd1 (by omega)
  go_wp2_with fail
  (with_reducible refine (k3.out _ hD0).mono ?_)
  rintro e w1 ⟨t0, rfl, ht0, ht1, _, hD1, hg1⟩
  replace ht1 := ht1 (by omega)
  have hg1' := grown_trans hg0 hg1
  go_wp2_with fail
  (with_reducible refine (k1.out _ hD1).mono ?_)
  rintro e w2 ⟨k0, rfl, hk0, hk1, _, hD2, hg2⟩
  replace hk1 := hk1 (by omega)
  have hg2' := grown_trans hg1' hg2
  clear hD0 hD1 hg0 hg1 hg1' hg2 h
  obtain ⟨n, hn⟩ : ∃ n, n = 2 + d := ⟨_, rfl⟩
  rw [← hn]
  have hn2 : 2 ≤ n := by omega
  have hn5 : n ≤ 5 := by omega
  clear hn hd0 hd1
  have qn : ¬ n = 0 := by omega
  have qn' : (n != 0) = true := by simp; omega
  go_wp2_with fail
  go_loopw [5, 7, 8] (fun o t k wr => ∃ (v : Value) (tt kk : Int) (L : List Tick), v = o ∧ t = .int .i64 tt ∧ k = .int .i64 kk ∧ 0 ≤ tt ∧ tt ≤ 2 + 2 * (L.length : Int) ∧ 0 ≤ kk ∧ (L.length : Int) + kk ≤ (most : Int) ∧ OS TE 33 wr w.heap.size v L ∧ Hid (Tame L ∧ ∀ y ∈ L, y.t ≤ tt) ∧ Dk wr g ∧ w.grownBy wr (some g)) (fun _ _ k _ => (intOf k).toNat)
  case atStart => exact ⟨_, t0, k0, [], rfl, rfl, rfl, ht0, by simp; omega, hk0, by simp; omega, OS.nil_, Lib.hid ⟨Tame.nil, by simp⟩, hD2, hg2'⟩
  case round =>
    clear hD2 hg2'
    obtain ⟨v, tt, kk, L, rfl, rfl, rfl, ht0, ht1, hkk0, hlen, ho, hall, hD, hg⟩ := hrel
    have hs := hg.size
    by_cases hlt : 0 < kk
    · have q1 : decide (0 < kk) = true := by simpa using hlt
      go_wp2_with fail
      (with_reducible refine (kn.out n _ hD (by omega)).mono ?_)
      rintro e w3 ⟨u, rfl, hu0, hu1, _, hD3, hg3⟩
      replace hu1 := hu1 (by omega)
      have ho3 := ho.kept hg3 (ho.own_far hgl)
      have hg3' := grown_trans hg hg3
      clear hD hg hg3 ho
      go_wp2_with fail
      (with_reducible refine (kn.out (n - 1) _ hD3 (by omega)).mono ?_)
      rintro e w4 ⟨x, rfl, hx0, hx1, _, hD4, hg4⟩
      replace hx1 := hx1 (by omega)
      have ho4 := ho3.kept hg4 (ho3.own_far hgl)
      have hg4' := grown_trans hg3' hg4
      have hs4 := hg4'.size
      obtain ⟨hv0, hv1, hvne⟩ := far_end hu0 hu1 hx0 hx1
      have hnew : Hid (∀ T', tt ≤ T' → Tame (L ++ [⟨u, (u + 1 + x) % n, tt⟩]) ∧ ∀ y ∈ L ++ [⟨u, (u + 1 + x) % n, tt⟩], y.t ≤ T') := Lib.hid fun T' hT => ⟨hall.out.1.snoc ⟨hu0, by simp only; omega, hv0, by simp only; omega, Ne.symm hvne⟩ (by simp only; omega) hall.out.2, le_snoc hall.out.2 rfl T' hT⟩
      clear hD3 hg3' hg4 ho3 hall hvne
      go_wp2_with (at_builtin; (refine wpList_push1G tyT (y := ⟨u, (u + 1 + x) % n, tt⟩) rfl rfl _ _ rfl rfl rfl rfl ho4 (by omega) (by omega) hs4 ?_); intro v5 w5 ho5 hb5 hg5x)
      have hD5 := hD4.below hb5 hgl
      have hg5 := grown_below hg4' hb5 (Nat.le_refl _)
      clear hD4 hg4' hb5 hg5x ho4
      (with_reducible refine (k3.out _ hD5).mono ?_)
      rintro e w6 ⟨y, rfl, hy0, hy1, _, hD6, hg6⟩
      replace hy1 := hy1 (by omega)
      have ho6 := ho5.kept hg6 (ho5.own_far hgl)
      have hg6' := grown_trans hg5 hg6
      clear hD5 hg5 hg6 ho5
      have hnew2 := Lib.hid (hnew.out (tt + y) (by omega))
      clear hnew
      go_wp2_with fail
      go_roundw
      case rel => exact ⟨_, tt + y, kk - 1, _, rfl, by go_num, by go_num, by omega, by simp; omega, by omega, by simp; omega, ho6, hnew2, hD6, hg6'⟩
      case measure => simp [intOf]; omega
    · have hk0' : kk = 0 := by omega
      subst hk0'
      obtain ⟨A, n', c, rfl, hn', hc, _, hr, hf⟩ := ho.form
      replace hn' := Lib.hid hn'
      go_wp2_with fail
      go_ret
      exact ⟨A, n', c, L, rfl, hc, hr, by omega, hall.out.1, hD, hg, hf⟩

/-- The call returns new steps, and turns the deck alone. -/
def RetMo (w : World) (g : Nat) (e : Ending) (w' : World) : Prop := ∃ A n c m, e = .returned (.slice A n c) ∧ n ≤ c ∧ RS SE w' A n m ∧ n ≤ 4 ∧ Dk w' g ∧ w.grownBy w' (some g) ∧ Fr w.heap.size A
theorem RetMo.of {w wa w' : World} {g b n : Nat} {cs : Array Value} {m : List Step} (hB : Blk wa b 34 cs) (hcs : cs = (SE.all m).toArray) (hn : n = m.length) (h4 : n ≤ 4) (hg0 : w.grownBy wa (some g)) (hg : wa.grownBy w' (some g)) (hD : Dk w' g) (hb : w.heap.size ≤ b) (hgl : g < w.heap.size) :
    RetMo w g (.returned (.slice (some ⟨b, 0, none⟩) n n)) w' :=
  ⟨_, n, n, m, rfl, Nat.le_refl _, RS.blk (hB.grown hg (by intro e; injection e with e; omega)) hcs hn, h4, hD, grown_trans hg0 hg, fun ad he => by injection he with he; subst he; exact hb⟩
theorem litBlk {w : World} {z i : Nat} {t : TypeId} {cs : Array Value} (h : w.heap.size = z) : Blk (w.alloc (.cells cs t)) z t cs ∧ (w.alloc (.cells cs t)).heap.size = z + 1 := ⟨Blk.new' _ _ _ h.symm, by simp [h]⟩
set_option maxRecDepth 100000 in
set_option maxHeartbeats 4000000 in
theorem fmotif_any (g : Nat) (w : World) (h : Dk w g) :
    Calls Try.prog 13 #[.pointer (some ⟨g, 0, none⟩)] w (RetMo w g) := by
  have k1 := Lib.hid fun w h => next_any g 11 w h (by omega)
  have hgl := h.lt
  obtain ⟨b, hz0⟩ : ∃ b, w.heap.size = b := ⟨_, rfl⟩
  obtain ⟨WL, hWL⟩ : ∃ WL, WL = (((((((((((w.alloc (.cells #[.int .i64 0, .int .i64 1] 34)).alloc (.cells #[.int .i64 0, .int .i64 1, .int .i64 1, .int .i64 0] 34)).alloc (.cells #[.int .i64 0, .int .i64 1, .int .i64 1, .int .i64 2] 34)).alloc (.cells #[.int .i64 0, .int .i64 1, .int .i64 1, .int .i64 2, .int .i64 2, .int .i64 0] 34)).alloc (.cells #[.int .i64 0, .int .i64 1, .int .i64 0, .int .i64 2, .int .i64 0, .int .i64 1] 34)).alloc (.cells #[.int .i64 0, .int .i64 1, .int .i64 2, .int .i64 1, .int .i64 0, .int .i64 2] 34)).alloc (.cells #[.int .i64 0, .int .i64 1, .int .i64 0, .int .i64 1] 34)).alloc (.cells #[.int .i64 0, .int .i64 1, .int .i64 2, .int .i64 3] 34)).alloc (.cells #[.int .i64 1, .int .i64 0] 34)).alloc (.cells #[.int .i64 0, .int .i64 1, .int .i64 1, .int .i64 2, .int .i64 2, .int .i64 3, .int .i64 3, .int .i64 0] 34)).alloc (.cells #[.slice (some ⟨b, 0, none⟩) 1 1, .slice (some ⟨b + 1, 0, none⟩) 2 2, .slice (some ⟨b + 2, 0, none⟩) 2 2, .slice (some ⟨b + 3, 0, none⟩) 3 3, .slice (some ⟨b + 4, 0, none⟩) 3 3, .slice (some ⟨b + 5, 0, none⟩) 3 3, .slice (some ⟨b + 6, 0, none⟩) 2 2, .slice (some ⟨b + 7, 0, none⟩) 2 2, .slice (some ⟨b + 8, 0, none⟩) 1 1, .slice none 0 0, .slice (some ⟨b + 9, 0, none⟩) 4 4] 29)) := ⟨_, rfl⟩
  have B0 : Blk WL b 34 #[.int .i64 0, .int .i64 1] := by rw [hWL]; repeat (first | (refine Blk.new' _ _ _ ?_; (simp [hz0]; done)) | refine Blk.alloc ?_ _)
  have B1 : Blk WL (b + 1) 34 #[.int .i64 0, .int .i64 1, .int .i64 1, .int .i64 0] := by rw [hWL]; repeat (first | (refine Blk.new' _ _ _ ?_; (simp [hz0]; done)) | refine Blk.alloc ?_ _)
  have B2 : Blk WL (b + 2) 34 #[.int .i64 0, .int .i64 1, .int .i64 1, .int .i64 2] := by rw [hWL]; repeat (first | (refine Blk.new' _ _ _ ?_; (simp [hz0]; done)) | refine Blk.alloc ?_ _)
  have B3 : Blk WL (b + 3) 34 #[.int .i64 0, .int .i64 1, .int .i64 1, .int .i64 2, .int .i64 2, .int .i64 0] := by rw [hWL]; repeat (first | (refine Blk.new' _ _ _ ?_; (simp [hz0]; done)) | refine Blk.alloc ?_ _)
  have B4 : Blk WL (b + 4) 34 #[.int .i64 0, .int .i64 1, .int .i64 0, .int .i64 2, .int .i64 0, .int .i64 1] := by rw [hWL]; repeat (first | (refine Blk.new' _ _ _ ?_; (simp [hz0]; done)) | refine Blk.alloc ?_ _)
  have B5 : Blk WL (b + 5) 34 #[.int .i64 0, .int .i64 1, .int .i64 2, .int .i64 1, .int .i64 0, .int .i64 2] := by rw [hWL]; repeat (first | (refine Blk.new' _ _ _ ?_; (simp [hz0]; done)) | refine Blk.alloc ?_ _)
  have B6 : Blk WL (b + 6) 34 #[.int .i64 0, .int .i64 1, .int .i64 0, .int .i64 1] := by rw [hWL]; repeat (first | (refine Blk.new' _ _ _ ?_; (simp [hz0]; done)) | refine Blk.alloc ?_ _)
  have B7 : Blk WL (b + 7) 34 #[.int .i64 0, .int .i64 1, .int .i64 2, .int .i64 3] := by rw [hWL]; repeat (first | (refine Blk.new' _ _ _ ?_; (simp [hz0]; done)) | refine Blk.alloc ?_ _)
  have B8 : Blk WL (b + 8) 34 #[.int .i64 1, .int .i64 0] := by rw [hWL]; repeat (first | (refine Blk.new' _ _ _ ?_; (simp [hz0]; done)) | refine Blk.alloc ?_ _)
  have B10 : Blk WL (b + 9) 34 #[.int .i64 0, .int .i64 1, .int .i64 1, .int .i64 2, .int .i64 2, .int .i64 3, .int .i64 3, .int .i64 0] := by rw [hWL]; repeat (first | (refine Blk.new' _ _ _ ?_; (simp [hz0]; done)) | refine Blk.alloc ?_ _)
  have BL : Blk WL (b + 10) 29 #[.slice (some ⟨b, 0, none⟩) 1 1, .slice (some ⟨b + 1, 0, none⟩) 2 2, .slice (some ⟨b + 2, 0, none⟩) 2 2, .slice (some ⟨b + 3, 0, none⟩) 3 3, .slice (some ⟨b + 4, 0, none⟩) 3 3, .slice (some ⟨b + 5, 0, none⟩) 3 3, .slice (some ⟨b + 6, 0, none⟩) 2 2, .slice (some ⟨b + 7, 0, none⟩) 2 2, .slice (some ⟨b + 8, 0, none⟩) 1 1, .slice none 0 0, .slice (some ⟨b + 9, 0, none⟩) 4 4] := by rw [hWL]; exact Blk.new' _ _ _ (by simp [hz0])
  have hbW : Below b w WL := by rw [hWL]; repeat (first | exact Below.refl _ _ | refine Below.alloc ?_ (by simp [hz0]; try omega) _)
  have hgW : w.grownBy WL (some g) := grown_below (World.grownBy.refl w _) hbW (by omega)
  have hDW := h.below hbW (by omega)
  replace hWL := Lib.hid hWL
  go_enter Try.func13, Try.ntmps13
  go_wp2_with fail
  rw [← hWL.out]
  (with_reducible refine (k1.out _ hDW).mono ?_)
  rintro e w2 ⟨x, rfl, hx0, hx1, _, hD2, hg2⟩
  replace hx1 := hx1 (by omega)
  have BL2 := BL.grown hg2 (by intro e; injection e with e; omega)
  have hx : x = 0 ∨ x = 1 ∨ x = 2 ∨ x = 3 ∨ x = 4 ∨ x = 5 ∨ x = 6 ∨ x = 7 ∨ x = 8 ∨ x = 9 ∨ x = 10 := by omega
  clear hx0 hx1
  rcases hx with rfl | rfl | rfl | rfl | rfl | rfl | rfl | rfl | rfl | rfl | rfl
  · have c0 := Blk.cell BL2 0
    simp at c0
    clear BL2 hWL k1
    go_wp2_with fail
    go_ret
    exact RetMo.of B0 (m := [(0, 1)]) rfl rfl (by omega) hgW hg2 hD2 (by omega) hgl
  · have c0 := Blk.cell BL2 1
    simp at c0
    clear BL2 hWL k1
    go_wp2_with fail
    go_ret
    exact RetMo.of B1 (m := [(0, 1), (1, 0)]) rfl rfl (by omega) hgW hg2 hD2 (by omega) hgl
  · have c0 := Blk.cell BL2 2
    simp at c0
    clear BL2 hWL k1
    go_wp2_with fail
    go_ret
    exact RetMo.of B2 (m := [(0, 1), (1, 2)]) rfl rfl (by omega) hgW hg2 hD2 (by omega) hgl
  · have c0 := Blk.cell BL2 3
    simp at c0
    clear BL2 hWL k1
    go_wp2_with fail
    go_ret
    exact RetMo.of B3 (m := [(0, 1), (1, 2), (2, 0)]) rfl rfl (by omega) hgW hg2 hD2 (by omega) hgl
  · have c0 := Blk.cell BL2 4
    simp at c0
    clear BL2 hWL k1
    go_wp2_with fail
    go_ret
    exact RetMo.of B4 (m := [(0, 1), (0, 2), (0, 1)]) rfl rfl (by omega) hgW hg2 hD2 (by omega) hgl
  · have c0 := Blk.cell BL2 5
    simp at c0
    clear BL2 hWL k1
    go_wp2_with fail
    go_ret
    exact RetMo.of B5 (m := [(0, 1), (2, 1), (0, 2)]) rfl rfl (by omega) hgW hg2 hD2 (by omega) hgl
  · have c0 := Blk.cell BL2 6
    simp at c0
    clear BL2 hWL k1
    go_wp2_with fail
    go_ret
    exact RetMo.of B6 (m := [(0, 1), (0, 1)]) rfl rfl (by omega) hgW hg2 hD2 (by omega) hgl
  · have c0 := Blk.cell BL2 7
    simp at c0
    clear BL2 hWL k1
    go_wp2_with fail
    go_ret
    exact RetMo.of B7 (m := [(0, 1), (2, 3)]) rfl rfl (by omega) hgW hg2 hD2 (by omega) hgl
  · have c0 := Blk.cell BL2 8
    simp at c0
    clear BL2 hWL k1
    go_wp2_with fail
    go_ret
    exact RetMo.of B8 (m := [(1, 0)]) rfl rfl (by omega) hgW hg2 hD2 (by omega) hgl
  · have c0 := Blk.cell BL2 9
    simp at c0
    clear BL2 hWL k1
    go_wp2_with fail
    go_ret
    exact ⟨none, 0, 0, [], rfl, Nat.le_refl _, RS.none_, by omega, hD2, grown_trans hgW hg2, Fr.none_⟩
  · have c0 := Blk.cell BL2 10
    simp at c0
    clear BL2 hWL k1
    go_wp2_with fail
    go_ret
    exact RetMo.of B10 (m := [(0, 1), (1, 2), (2, 3), (3, 0)]) rfl rfl (by omega) hgW hg2 hD2 (by omega) hgl
end Go.Proofs.Ytkcmbpokoijglaa
