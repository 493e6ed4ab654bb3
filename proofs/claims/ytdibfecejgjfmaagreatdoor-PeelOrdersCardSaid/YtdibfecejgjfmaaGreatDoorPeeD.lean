/- Package peel: peeling and rest. -/
import Derived.Test.YtdibfecejgjfmaaGreatDoorPeeC
import Derived.Test.YtdibfecejgjfmaaGreatDoorCln
import Derived.Test.YtdibfecejgjfmaaGreatDoorSrtM
set_option linter.unusedVariables false
set_option linter.unusedSimpArgs false
namespace Go.Proofs.YtdibfecejgjfmaaGreatDoor
open Go.RowKit CoBit CoRat Rt

/-- What is left of n nodes before step k of an order. -/
def lfK (n : Nat) (o : List Int) (k : Nat) : Nat := (o.take k).foldl (fun x v => clr x v.toNat) (2 ^ n - 1)
theorem lfK_zero (n : Nat) (o : List Int) : lfK n o 0 = 2 ^ n - 1 := rfl
theorem lfK_succ {n : Nat} {o : List Int} {k : Nat} {v : Int} (h : o[k]? = some v) : lfK n o (k + 1) = clr (lfK n o k) v.toNat := by
  obtain ⟨hk, rfl⟩ := List.getElem?_eq_some_iff.1 h
  unfold lfK
  rw [List.take_succ_eq_append_getElem hk, List.foldl_append]; rfl
theorem two_lt {n : Nat} (hn : n ≤ 64) : 2 ^ n - 1 < 18446744073709551616 := by
  have h1 : (2 : Nat) ^ n ≤ 2 ^ 64 := Nat.pow_le_pow_right (by omega) hn
  rw [show (2 : Nat) ^ 64 = 18446744073709551616 by decide +kernel] at h1
  have := Nat.two_pow_pos n
  omega
theorem lfK_lt {n : Nat} (hn : n ≤ 64) (o : List Int) (k : Nat) : lfK n o k < 18446744073709551616 := by
  unfold lfK
  have : ∀ (l : List Int) (x : Nat), x < 18446744073709551616 → l.foldl (fun x v => clr x v.toNat) x < 18446744073709551616 := by
    intro l
    induction l with
    | nil => intro x h; exact h
    | cons v l ih => intro x h; exact ih _ (clr_lt h)
  exact this _ _ (two_lt hn)
theorem lfK_bit {n : Nat} (hn : n ≤ 64) {o : List Int} (ho : ∀ x ∈ o, 0 ≤ x ∧ x < n) (k i : Nat) : (lfK n o k).testBit i = true ↔ i < n ∧ (i : Int) ∉ o.take k := by
  unfold lfK
  have : ∀ (l : List Int) (x : Nat), x < 18446744073709551616 → (∀ y ∈ l, 0 ≤ y ∧ y < n) → ((l.foldl (fun x v => clr x v.toNat) x).testBit i = true ↔ x.testBit i = true ∧ (i : Int) ∉ l) := by
    intro l
    induction l with
    | nil => intro x _ _; simp
    | cons v l ih =>
      intro x h hl
      have hv := hl v (by simp)
      rw [List.foldl_cons, ih _ (clr_lt h) (fun y hy => hl y (by simp [hy])), clr_bit h (by omega), Bool.and_eq_true, decide_eq_true_iff, List.mem_cons, not_or]
      constructor
      · rintro ⟨⟨h1, h2⟩, h3⟩
        exact ⟨h1, fun e => h2 (by omega), h3⟩
      · rintro ⟨h1, h2, h3⟩
        exact ⟨⟨h1, fun e => h2 (by omega)⟩, h3⟩
  rw [this _ _ (two_lt hn) (fun y hy => ho y (List.mem_of_mem_take hy)), all_bit, decide_eq_true_iff]
/-- The record before step k. -/
def recK (n : Nat) (es : List (Int × Int)) (o : List Int) : Nat → Nat × Int × Int
  | 0 => (0, 0, 0)
  | k + 1 => offV es (lfK n o k) (recK n es o k)
/-- A density for peeling: nothing has 0. -/
def fixD (D : Int) : Int := if D = 0 then 1 else D
/-- A peeling is returned. -/
def PeeV (w' : World) (b : Nat) (o : List Int) (s : List Int) (N D : Int) (v : Value) : Prop := ∃ A1 n1 c1 A2 n2 c2, v = .agg #[.slice A1 n1 c1, .slice A2 n2 c2, .int .i64 N, .int .i64 D] ∧ n1 ≤ c1 ∧ n2 ≤ c2 ∧ RI w' A1 n1 o ∧ RI w' A2 n2 s ∧ Fr b A2

theorem grown_fresh {w w' : World} {row : Option Nat} (h : w.grownBy w' row) {p : Addr} (hp : w.heap.size ≤ p.block) (u : Value) : w.grownBy (w'.setCell p u) row :=
  ⟨h.os, h.tape, h.output, by rw [World.size_setCell]; exact h.size, fun k hk hne => (Below.heap_setCell w' p u k (by omega)).trans (h.block k hk hne)⟩
theorem Tab.drw' {w : World} (h : Tab w) : Tab w.drew := h
set_option maxRecDepth 100000 in
set_option maxHeartbeats 2000000 in
theorem peeling_any (gR : Nat) (A : Option Addr) (m c : Nat) (o : List Int) (s : Nat) (N D : Int) (w : World) (hT : Tab w) (hR : Rec w gR s N D) (hs : s < 18446744073709551616) (hg : gR < w.heap.size) (h : RI w A m o) (hmc : m ≤ c) (hA : ∀ ad, A = some ad → some ad.block ≠ some gR) (hgT : 0 ≠ gR) :
    Calls Tryz.prog 39 #[.pointer (some ⟨gR, 0, none⟩), .slice A m c] w fun e w' => ∃ A2 n2 c2, e = .returned (.agg #[.slice A m c, .slice A2 n2 c2, .int .i64 N, .int .i64 (fixD D)]) ∧ n2 ≤ c2 ∧ RI w' A2 n2 (bset s) ∧ Fr w.heap.size A2 ∧ w.grownBy w' (some gR) := by
  have hnb := Blk.new w 35 #[.slice none 0 0, .slice none 0 0, .int .i64 0, .int .i64 0]
  have hR1 := Blk.alloc hR (.cells #[.slice none 0 0, .slice none 0 0, .int .i64 0, .int .i64 0] 35)
  have hT1 := hT.alloc (.cells #[.slice none 0 0, .slice none 0 0, .int .i64 0, .int .i64 0] 35)
  have hr1 := h.alloc (.cells #[.slice none 0 0, .slice none 0 0, .int .i64 0, .int .i64 0] 35)
  have hb1 := (Below.refl w.heap.size w).alloc (Nat.le_refl _) (.cells #[.slice none 0 0, .slice none 0 0, .int .i64 0, .int .i64 0] 35)
  have hs1 : w.heap.size < (w.alloc (.cells #[.slice none 0 0, .slice none 0 0, .int .i64 0, .int .i64 0] 35)).heap.size := by simp
  have hll := Lib.hid (list_any s hs)
  by_cases hD : D = 0
  · subst hD
    have hf : fixD 0 = 1 := if_pos rfl
    rw [hf]
    clear hf
    go_enter Tryz.func39, Tryz.ntmps39
    go_upto_region 1 with fail
    generalize w.alloc (.cells #[.slice none 0 0, .slice none 0 0, .int .i64 0, .int .i64 0] 35) = w1 at *
    have d2 := Blk.cell hR1 2
    have d3 := Blk.frozen hR1 2
    simp at d2
    go_upto_region 3 with fail
    have G1 : w.grownBy (w1.setCell ⟨gR, 2, none⟩ (.int .i64 1)) (some gR) := grown_set (grown_of_below hb1 _) 2 _
    have hR2 := Blk.set hR1 2 (.int .i64 1)
    simp at hR2
    replace hR1 := hR2
    replace hnb := Blk.far hnb (p := ⟨gR, 2, none⟩) (by simp; omega) (.int .i64 1)
    replace hT1 := Tab.grown hT1 (grown_set (World.grownBy.refl w1 (some gR)) 2 (.int .i64 1)) hgT
    replace hr1 := RI.kept hr1 (grown_set (World.grownBy.refl w1 (some gR)) 2 (.int .i64 1)) hA
    replace hs1 : w.heap.size < (w1.setCell ⟨gR, 2, none⟩ (.int .i64 1)).heap.size := by rw [World.size_setCell]; exact hs1
    clear d2 d3 hb1 hR2 hR
    generalize w1.setCell ⟨gR, 2, none⟩ (.int .i64 1) = w1 at *
    go_wp2_with fail
    have G2 := grown_drew G1
    have c0 := Blk.cell hR1 0
    have c1 := Blk.cell hR1 1
    have c2 := Blk.cell hR1 2
    simp at c0 c1 c2
    have hnn := Lib.hid (fun i j e => by injection e with e; omega : ∀ i j : Nat, (⟨w.heap.size, i, none⟩ : Addr) ≠ ⟨gR, j, none⟩)
    have hgl := Blk.lt hR1
    have BN : Below w1.heap.size w1 w1 := Below.refl _ _
    go_region_held3 (fun w' => w'.cell? ⟨gR, 0, none⟩ = some (.int .u64 (s : Int)) ∧ w'.cell? ⟨gR, 1, none⟩ = some (.int .i64 N) ∧ w'.cell? ⟨gR, 2, none⟩ = some (.int .i64 1))
      ((first
        | (exact ⟨(BN.cell (p := ⟨gR, 0, none⟩) hgl).trans c0, (BN.cell (p := ⟨gR, 1, none⟩) hgl).trans c1, (BN.cell (p := ⟨gR, 2, none⟩) hgl).trans c2⟩)
        | ((repeat' apply And.intro) <;> ((repeat (refine (World.cell?_setCell_other _ _ _ _ (hnn.out _ _)).trans ?_)) <;> first | exact (BN.cell (p := ⟨gR, 0, none⟩) hgl).trans c0 | exact (BN.cell (p := ⟨gR, 1, none⟩) hgl).trans c1 | exact (BN.cell (p := ⟨gR, 2, none⟩) hgl).trans c2))))
      ((go_at_call 56; (with_reducible refine (hll.out _ (Tab.drw' hT1)).mono ?_); rintro e w4 ⟨A2, n2, c2', rfl, hn2, hrl, hbl, hfl⟩; replace BN : Below w1.heap.size w1 w4 := below_call BN.drew hbl;
        have hz := Blk.below hnb.drew hbl (Blk.lt hnb); have z0 := Blk.cell hz 0; have z1 := Blk.cell hz 1; have z2 := Blk.cell hz 2; have z3 := Blk.cell hz 3; have y0 := Blk.frozen hz 0; have y1 := Blk.frozen hz 1; have y2 := Blk.frozen hz 2; have y3 := Blk.frozen hz 3; simp at z0 z1 z2 z3))
    have hzz := Blk.set (Blk.set (Blk.set (Blk.set hz 0 (.slice A m c)) 1 (.slice A2 n2 c2')) 2 (.int .i64 N)) 3 (.int .i64 1)
    have e0 := Blk.cell hzz 0
    have e1 := Blk.cell hzz 1
    have e2 := Blk.cell hzz 2
    have e3 := Blk.cell hzz 3
    simp at e0 e1 e2 e3
    have hrl4 : RI ((((w4.setCell ⟨w.heap.size, 0, none⟩ (.slice A m c)).setCell ⟨w.heap.size, 1, none⟩ (.slice A2 n2 c2')).setCell ⟨w.heap.size, 2, none⟩ (.int .i64 N)).setCell ⟨w.heap.size, 3, none⟩ (.int .i64 1)) A2 n2 (nts (bl s)) :=
      RI.kept hrl (grown_set (grown_set (grown_set (grown_set (World.grownBy.refl w4 (some w.heap.size)) 0 _) 1 _) 2 _) 3 _) (fun ad h e => by have := hfl ad h; injection e with e; simp at this; omega)
    have hG4 : w.grownBy ((((w4.setCell ⟨w.heap.size, 0, none⟩ (.slice A m c)).setCell ⟨w.heap.size, 1, none⟩ (.slice A2 n2 c2')).setCell ⟨w.heap.size, 2, none⟩ (.int .i64 N)).setCell ⟨w.heap.size, 3, none⟩ (.int .i64 1)) (some gR) :=
      grown_fresh (grown_fresh (grown_fresh (grown_fresh (grown_trans G2 (grown_of_below hbl _)) (p := ⟨w.heap.size, 0, none⟩) (Nat.le_refl _) _) (p := ⟨w.heap.size, 1, none⟩) (Nat.le_refl _) _) (p := ⟨w.heap.size, 2, none⟩) (Nat.le_refl _) _) (p := ⟨w.heap.size, 3, none⟩) (Nat.le_refl _) _
    have hfr : Fr w.heap.size A2 := hfl.mono (by simp; omega)
    clear hz z0 z1 z2 z3 y0 y1 y2 y3 hrl hbl hfl BN hzz
    go_wp2_with fail
    refine bodyPost_ret (v := .agg #[.slice A m c, .slice A2 n2 c2', .int .i64 N, .int .i64 1]) (by simp [results, Tryz.results39, go_sem, e0, e1, e2, e3]) rfl ?_
    exact ⟨A2, n2, c2', rfl, hn2, hrl4, hfr, hG4⟩
  · have q1 : ((D : Int) == 0) = false := by rw [beq_eq_false_iff_ne]; exact hD
    have hf : fixD D = D := if_neg hD
    rw [hf]
    clear hD hf
    go_enter Tryz.func39, Tryz.ntmps39
    go_upto_region 1 with fail
    generalize w.alloc (.cells #[.slice none 0 0, .slice none 0 0, .int .i64 0, .int .i64 0] 35) = w1 at *
    have d2 := Blk.cell hR1 2
    simp at d2
    go_wp2_with fail
    have G1 : w.grownBy w1 (some gR) := grown_of_below hb1 _
    clear d2 hb1
    have G2 := grown_drew G1
    have c0 := Blk.cell hR1 0
    have c1 := Blk.cell hR1 1
    have c2 := Blk.cell hR1 2
    simp at c0 c1 c2
    have hnn := Lib.hid (fun i j e => by injection e with e; omega : ∀ i j : Nat, (⟨w.heap.size, i, none⟩ : Addr) ≠ ⟨gR, j, none⟩)
    have hgl := Blk.lt hR1
    have BN : Below w1.heap.size w1 w1 := Below.refl _ _
    go_region_held3 (fun w' => w'.cell? ⟨gR, 0, none⟩ = some (.int .u64 (s : Int)) ∧ w'.cell? ⟨gR, 1, none⟩ = some (.int .i64 N) ∧ w'.cell? ⟨gR, 2, none⟩ = some (.int .i64 D))
      ((first
        | (exact ⟨(BN.cell (p := ⟨gR, 0, none⟩) hgl).trans c0, (BN.cell (p := ⟨gR, 1, none⟩) hgl).trans c1, (BN.cell (p := ⟨gR, 2, none⟩) hgl).trans c2⟩)
        | ((repeat' apply And.intro) <;> ((repeat (refine (World.cell?_setCell_other _ _ _ _ (hnn.out _ _)).trans ?_)) <;> first | exact (BN.cell (p := ⟨gR, 0, none⟩) hgl).trans c0 | exact (BN.cell (p := ⟨gR, 1, none⟩) hgl).trans c1 | exact (BN.cell (p := ⟨gR, 2, none⟩) hgl).trans c2))))
      ((go_at_call 56; (with_reducible refine (hll.out _ (Tab.drw' hT1)).mono ?_); rintro e w4 ⟨A2, n2, c2', rfl, hn2, hrl, hbl, hfl⟩; replace BN : Below w1.heap.size w1 w4 := below_call BN.drew hbl;
        have hz := Blk.below hnb.drew hbl (Blk.lt hnb); have z0 := Blk.cell hz 0; have z1 := Blk.cell hz 1; have z2 := Blk.cell hz 2; have z3 := Blk.cell hz 3; have y0 := Blk.frozen hz 0; have y1 := Blk.frozen hz 1; have y2 := Blk.frozen hz 2; have y3 := Blk.frozen hz 3; simp at z0 z1 z2 z3))
    have hzz := Blk.set (Blk.set (Blk.set (Blk.set hz 0 (.slice A m c)) 1 (.slice A2 n2 c2')) 2 (.int .i64 N)) 3 (.int .i64 D)
    have e0 := Blk.cell hzz 0
    have e1 := Blk.cell hzz 1
    have e2 := Blk.cell hzz 2
    have e3 := Blk.cell hzz 3
    simp at e0 e1 e2 e3
    have hrl4 : RI ((((w4.setCell ⟨w.heap.size, 0, none⟩ (.slice A m c)).setCell ⟨w.heap.size, 1, none⟩ (.slice A2 n2 c2')).setCell ⟨w.heap.size, 2, none⟩ (.int .i64 N)).setCell ⟨w.heap.size, 3, none⟩ (.int .i64 D)) A2 n2 (nts (bl s)) :=
      RI.kept hrl (grown_set (grown_set (grown_set (grown_set (World.grownBy.refl w4 (some w.heap.size)) 0 _) 1 _) 2 _) 3 _) (fun ad h e => by have := hfl ad h; injection e with e; simp at this; omega)
    have hG4 : w.grownBy ((((w4.setCell ⟨w.heap.size, 0, none⟩ (.slice A m c)).setCell ⟨w.heap.size, 1, none⟩ (.slice A2 n2 c2')).setCell ⟨w.heap.size, 2, none⟩ (.int .i64 N)).setCell ⟨w.heap.size, 3, none⟩ (.int .i64 D)) (some gR) :=
      grown_fresh (grown_fresh (grown_fresh (grown_fresh (grown_trans G2 (grown_of_below hbl _)) (p := ⟨w.heap.size, 0, none⟩) (Nat.le_refl _) _) (p := ⟨w.heap.size, 1, none⟩) (Nat.le_refl _) _) (p := ⟨w.heap.size, 2, none⟩) (Nat.le_refl _) _) (p := ⟨w.heap.size, 3, none⟩) (Nat.le_refl _) _
    have hfr : Fr w.heap.size A2 := hfl.mono (by simp; omega)
    clear hz z0 z1 z2 z3 y0 y1 y2 y3 hrl hbl hfl BN hzz
    go_wp2_with fail
    refine bodyPost_ret (v := .agg #[.slice A m c, .slice A2 n2 c2', .int .i64 N, .int .i64 D]) (by simp [results, Tryz.results39, go_sem, e0, e1, e2, e3]) rfl ?_
    exact ⟨A2, n2, c2', rfl, hn2, hrl4, hfr, hG4⟩
end Go.Proofs.YtdibfecejgjfmaaGreatDoor
