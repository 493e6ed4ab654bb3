/- Package peel: offer, walked. -/
import Derived.Test.YtdibfecejgjfmaaGreatDoorPeeA
import Derived.Test.YtdibfecejgjfmaaGreatDoorPeeF
set_option linter.unusedVariables false
namespace Go.Proofs.YtdibfecejgjfmaaGreatDoor
open Go.RowKit CoBit CoRat Rt

/-- A record in block g: a set, a density. -/
def Rec (w : World) (g : Nat) (s : Nat) (N D : Int) : Prop := Blk w g 75 #[.int .u64 (s : Int), .int .i64 N, .int .i64 D]

theorem rec_set {w : World} {g s : Nat} {N D : Int} (h : Rec w g s N D) (x : Nat) (a b : Int) :
    Rec (((w.setCell ⟨g, 0, none⟩ (.int .u64 (x : Int))).setCell ⟨g, 1, none⟩ (.int .i64 a)).setCell ⟨g, 2, none⟩ (.int .i64 b)) g x a b := by
  have h1 := Blk.set h 0 (.int .u64 (x : Int))
  have h2 := Blk.set h1 1 (.int .i64 a)
  have h3 := Blk.set h2 2 (.int .i64 b)
  exact h3
theorem grown_of_below {w w' : World} (h : Below w.heap.size w w') (row : Option Nat) : w.grownBy w' row := ⟨h.os, h.tape, h.output, h.size, fun k hk _ => h.block k hk⟩
theorem rec_store {w w2 : World} {g s : Nat} {N D : Int} (h : Rec w2 g s N D) (hb : Below w.heap.size w w2) (o : Obj) (q x : Nat) (a b : Int) :
    Rec (((((w2.alloc o).drewN q).setCell ⟨g, 0, none⟩ (.int .u64 (x : Int))).setCell ⟨g, 1, none⟩ (.int .i64 a)).setCell ⟨g, 2, none⟩ (.int .i64 b)) g x a b ∧
    w.grownBy (((((w2.alloc o).drewN q).setCell ⟨g, 0, none⟩ (.int .u64 (x : Int))).setCell ⟨g, 1, none⟩ (.int .i64 a)).setCell ⟨g, 2, none⟩ (.int .i64 b)) (some g) :=
  ⟨rec_set (Blk.drewN (Blk.alloc h o) q) x a b, grown_setB (grown_setB (grown_setB (grown_of_below (below_drewN (hb.alloc hb.size o) q) (some g)) 0 _) 1 _) 2 _⟩
/-- The density of a set, in lowest terms. -/
def dnN (es : List (Int × Int)) (x : Nat) : Int := mkN (insE es (bset x) : Nat) (pop x : Nat)
def dnD (es : List (Int × Int)) (x : Nat) : Int := mkD (insE es (bset x) : Nat) (pop x : Nat)

set_option maxRecDepth 100000 in
set_option maxHeartbeats 2000000 in
theorem offer_first (gR gr n : Nat) (es : List (Int × Int)) (x s : Nat) (N : Int) (w : World) (hT : Tab w) (hR : Rec w gR s N 0) (hA : AU w gr (rowsL n es)) (hc : chkG n es = 0) (hn : n ≤ 64) (hx : x < 18446744073709551616) (hxn : ∀ i, x.testBit i = true → i < n) (hes : es.length ≤ 68719476736) :
    Calls Tryz.prog 37 #[.pointer (some ⟨gR, 0, none⟩), .slice (some ⟨gr, 0, none⟩) n n, .int .u64 x] w fun e w' => e = .returned (.tuple #[]) ∧ Rec w' gR x (dnN es x) (dnD es x) ∧ w.grownBy w' (some gR) := by
  have hRl := Blk.lt hR
  have hin := insE_le es (bset x)
  have hpp : pop x ≤ 64 := by rw [pop_bl]; exact bl_length _
  have hins := Lib.hid fun w hT hA => inside_any gr n es x w hT hA hc hn hx hxn
  obtain ⟨mn, hmn⟩ : ∃ mn, dnN es x = mn := ⟨_, rfl⟩
  obtain ⟨md, hmd⟩ : ∃ md, dnD es x = md := ⟨_, rfl⟩
  rw [hmn, hmd]
  have mk := fun w a0 a1 b0 b1 => make_any ((insE es (bset x) : Nat) : Int) ((pop x : Nat) : Int) w a0 a1 b0 b1
  have e1 : mkN ((insE es (bset x) : Nat) : Int) ((pop x : Nat) : Int) = mn := hmn
  have e2 : mkD ((insE es (bset x) : Nat) : Int) ((pop x : Nat) : Int) = md := hmd
  rw [e1, e2] at mk
  replace mk := Lib.hid mk
  clear e1 e2 hmn hmd
  generalize insE es (bset x) = I at *
  go_enter Tryz.func37, Tryz.ntmps37
  go_wp2_with fail
  refine (hins.out _ hT hA).mono ?_
  rintro e w1 ⟨rfl, hb1⟩
  have hR1 : Rec w1 gR s N 0 := Blk.below hR hb1 hRl
  go_wp2_with fail
  refine (count_any x hx _).mono ?_
  rintro e w2 ⟨rfl, rfl⟩
  go_wp2_with fail
  refine (mk.out _ (by omega) (by omega) (by omega) (by omega)).mono ?_
  rintro e w2 ⟨rfl, hb2⟩
  have hR2 : Rec w2 gR s N 0 := Blk.below hR1 hb2 (by have := hb1.size; omega)
  have hbb2 := hb1.trans (hb2.mono hb1.size)
  have k0 := Blk.cell hR2 0
  have k1 := Blk.cell hR2 1
  have k2 := Blk.cell hR2 2
  have f0 := Blk.frozen hR2 0
  have f1 := Blk.frozen hR2 1
  have f2 := Blk.frozen hR2 2
  simp at k0 k1 k2
  have hl2 : gR < w2.heap.size := Blk.lt hR2
  have hst := Lib.hid fun q => rec_store hR2 hbb2 (.cells #[.int .i64 mn, .int .i64 md] 33) q x mn md
  go_wp2_with fail
  go_quiet (fail)
  go_wp2_with fail
  go_region
  all_goals go_wp2_with fail
  all_goals go_end0
  all_goals exact ⟨rfl, hst.out _⟩

set_option maxRecDepth 100000 in
set_option maxHeartbeats 2000000 in
theorem offer_next (gR gr n : Nat) (es : List (Int × Int)) (x s : Nat) (N D : Int) (w : World) (hT : Tab w) (hR : Rec w gR s N D) (hD : D ≠ 0) (hA : AU w gr (rowsL n es)) (hc : chkG n es = 0) (hn : n ≤ 64) (hx : x < 18446744073709551616) (hxn : ∀ i, x.testBit i = true → i < n) (hes : es.length ≤ 68719476736) :
    Calls Tryz.prog 37 #[.pointer (some ⟨gR, 0, none⟩), .slice (some ⟨gr, 0, none⟩) n n, .int .u64 x] w fun e w' => e = .returned (.tuple #[]) ∧ (0 < cmpF (dnN es x) (dnD es x) N D → Rec w' gR x (dnN es x) (dnD es x)) ∧ (¬ 0 < cmpF (dnN es x) (dnD es x) N D → Rec w' gR s N D) ∧ w.grownBy w' (some gR) := by
  have hRl := Blk.lt hR
  have hin := insE_le es (bset x)
  have hpp : pop x ≤ 64 := by rw [pop_bl]; exact bl_length _
  have hins := Lib.hid fun w hT hA => inside_any gr n es x w hT hA hc hn hx hxn
  obtain ⟨mn, hmn⟩ : ∃ mn, dnN es x = mn := ⟨_, rfl⟩
  obtain ⟨md, hmd⟩ : ∃ md, dnD es x = md := ⟨_, rfl⟩
  rw [hmn, hmd]
  have mk := fun w a0 a1 b0 b1 => make_any ((insE es (bset x) : Nat) : Int) ((pop x : Nat) : Int) w a0 a1 b0 b1
  have e1 : mkN ((insE es (bset x) : Nat) : Int) ((pop x : Nat) : Int) = mn := hmn
  have e2 : mkD ((insE es (bset x) : Nat) : Int) ((pop x : Nat) : Int) = md := hmd
  rw [e1, e2] at mk
  replace mk := Lib.hid mk
  clear e1 e2 hmn hmd
  generalize insE es (bset x) = I at *
  go_enter Tryz.func37, Tryz.ntmps37
  go_wp2_with fail
  refine (hins.out _ hT hA).mono ?_
  rintro e w1 ⟨rfl, hb1⟩
  have hR1 : Rec w1 gR s N D := Blk.below hR hb1 hRl
  go_wp2_with fail
  refine (count_any x hx _).mono ?_
  rintro e w2 ⟨rfl, rfl⟩
  go_wp2_with fail
  refine (mk.out _ (by omega) (by omega) (by omega) (by omega)).mono ?_
  rintro e w2 ⟨rfl, hb2⟩
  have hR2 : Rec w2 gR s N D := Blk.below hR1 hb2 (by have := hb1.size; omega)
  have hbb2 := hb1.trans (hb2.mono hb1.size)
  have k0 := Blk.cell hR2 0
  have k1 := Blk.cell hR2 1
  have k2 := Blk.cell hR2 2
  have f0 := Blk.frozen hR2 0
  have f1 := Blk.frozen hR2 1
  have f2 := Blk.frozen hR2 2
  simp at k0 k1 k2
  have hl2 : gR < w2.heap.size := Blk.lt hR2
  have hD' : (D == 0) = false := by simpa using hD
  have cm := fun w => cmp_any mn md N D w
  obtain ⟨C, hCe⟩ : ∃ C, cmpF mn md N D = C := ⟨_, rfl⟩
  simp only [hCe] at cm
  replace cm := Lib.hid cm
  replace hCe := Lib.hid hCe
  go_wp2_with fail
  have k3 : (w2.alloc (.cells #[.int .i64 mn, .int .i64 md] 33)).cell? ⟨w2.heap.size, 0, none⟩ = some (.int .i64 mn) := (Blk.new w2 _ _).cell 0
  have k4 : (w2.alloc (.cells #[.int .i64 mn, .int .i64 md] 33)).cell? ⟨w2.heap.size, 1, none⟩ = some (.int .i64 md) := (Blk.new w2 _ _).cell 1
  have hR3 : Rec (w2.alloc (.cells #[.int .i64 mn, .int .i64 md] 33)) gR s N D := Blk.alloc hR2 _
  have hB3 := Blk.new w2 33 #[.int .i64 mn, .int .i64 md]
  have hbb3 := hbb2.alloc hbb2.size (.cells #[.int .i64 mn, .int .i64 md] 33)
  generalize hW : w2.alloc (.cells #[.int .i64 mn, .int .i64 md] 33) = W at *
  have hWl : gR < W.heap.size := Blk.lt hR3
  have hW2 : w2.heap.size < W.heap.size := Blk.lt hB3
  generalize w2.heap.size = gt at *
  clear hW k0 k1 k2 f0 f1 f2 hR2
  have k0 := Blk.cell hR3 0
  have k1 := Blk.cell hR3 1
  have k2 := Blk.cell hR3 2
  simp at k0 k1 k2
  go_region_held3 (fun w' => w'.cell? ⟨gR, 1, none⟩ = some (.int .i64 N) ∧ w'.cell? ⟨gR, 2, none⟩ = some (.int .i64 D) ∧ w'.cell? ⟨gt, 0, none⟩ = some (.int .i64 mn) ∧ w'.cell? ⟨gt, 1, none⟩ = some (.int .i64 md))
    ((first | (exact ⟨k1, k2, k3, k4⟩) | (go_split_ands; refine ⟨?_, ?_, ?_, ?_⟩ <;> (rw [hc4 _ _ (by omega)]; assumption)) | ((repeat' apply And.intro) <;> (go_keep; done))))
    ((go_at_call 59; refine (cm.out _).mono ?_; rintro e w4 ⟨rfl, hb4⟩; obtain ⟨hc4, hf4⟩ := bat hb4 W.heap.size (by simp)))
  have hRd : Rec W.drew gR s N D := Blk.drewN hR3 1
  have hbd : Below w.heap.size w W.drew := below_drewN hbb3 1
  have hR4 : Rec w4 gR s N D := Blk.below hRd hb4 (Blk.lt hRd)
  have hbb4 : Below w.heap.size w w4 := hbd.trans (hb4.mono hbd.size)
  have hl4 : gR < w4.heap.size := Blk.lt hR4
  have q3 : w4.cell? ⟨gt, 0, none⟩ = some (.int .i64 mn) := by rw [hc4 _ _ (by omega)]; exact k3
  have q4 : w4.cell? ⟨gt, 1, none⟩ = some (.int .i64 md) := by rw [hc4 _ _ (by omega)]; exact k4
  clear k0 k1 k2 k3 k4 hD' hD hc4 hf4 hb4 hB3 hbb3 hbb2 hb1 hb2 hRd hbd cm mk hins hR3 hR1 hR
  by_cases hC : 0 < C
  · have hdC : decide (0 < C) = true := decide_eq_true hC
    rw [hdC]
    clear hdC
    have j0 := Blk.cell hR4 0
    have j1 := Blk.cell hR4 1
    have j2 := Blk.cell hR4 2
    have f0 := Blk.frozen hR4 0
    have f1 := Blk.frozen hR4 1
    have f2 := Blk.frozen hR4 2
    simp at j0 j1 j2
    have hst : ∀ q, Rec ((((w4.drewN q).setCell ⟨gR, 0, none⟩ (.int .u64 (x : Int))).setCell ⟨gR, 1, none⟩ (.int .i64 mn)).setCell ⟨gR, 2, none⟩ (.int .i64 md)) gR x mn md ∧ w.grownBy ((((w4.drewN q).setCell ⟨gR, 0, none⟩ (.int .u64 (x : Int))).setCell ⟨gR, 1, none⟩ (.int .i64 mn)).setCell ⟨gR, 2, none⟩ (.int .i64 md)) (some gR) := fun q => ⟨rec_set (Blk.drewN hR4 q) x mn md, grown_setB (grown_setB (grown_setB (grown_of_below (below_drewN hbb4 q) (some gR)) 0 _) 1 _) 2 _⟩
    replace hst := Lib.hid hst
    go_wp2_with fail
    go_region
    all_goals go_wp2_with fail
    all_goals go_end0
    all_goals refine ⟨rfl, fun _ => ?_, fun h => ?_, ?_⟩
    all_goals first | exact (hst.out _).1 | exact (hst.out _).2 | exact (hst.out 1).1 | exact (hst.out 1).2 | (exfalso; have := hCe.out; omega)
  · have hdC : decide (0 < C) = false := decide_eq_false hC
    rw [hdC]
    clear hdC
    go_wp2_with fail
    all_goals go_end0
    all_goals refine ⟨rfl, fun h => ?_, fun _ => hR4, grown_of_below hbb4 _⟩
    all_goals (exfalso; have := hCe.out; omega)
end Go.Proofs.YtdibfecejgjfmaaGreatDoor

namespace Go.Proofs.YtdibfecejgjfmaaGreatDoor
open Go.RowKit CoBit CoRat Rt
attribute [local irreducible] dnN dnD

/-- What a record holds after an offer. -/
@[irreducible] def offV (es : List (Int × Int)) (x : Nat) (r : Nat × Int × Int) : Nat × Int × Int :=
  if r.2.2 = 0 then (x, dnN es x, dnD es x) else if 0 < cmpF (dnN es x) (dnD es x) r.2.1 r.2.2 then (x, dnN es x, dnD es x) else r

theorem rec_cast {w : World} {g : Nat} {a b : Nat × Int × Int} (h : a = b) (hr : Rec w g b.1 b.2.1 b.2.2) : Rec w g a.1 a.2.1 a.2.2 := by subst h; exact hr

set_option maxRecDepth 100000 in
set_option maxHeartbeats 2000000 in
theorem offer_any (gR gr n : Nat) (es : List (Int × Int)) (x : Nat) (r : Nat × Int × Int) (w : World) (hT : Tab w) (hR : Rec w gR r.1 r.2.1 r.2.2) (hA : AU w gr (rowsL n es)) (hc : chkG n es = 0) (hn : n ≤ 64) (hx : x < 18446744073709551616) (hxn : ∀ i, x.testBit i = true → i < n) (hes : es.length ≤ 68719476736) :
    Calls Tryz.prog 37 #[.pointer (some ⟨gR, 0, none⟩), .slice (some ⟨gr, 0, none⟩) n n, .int .u64 x] w fun e w' => e = .returned (.tuple #[]) ∧ Rec w' gR (offV es x r).1 (offV es x r).2.1 (offV es x r).2.2 ∧ w.grownBy w' (some gR) := by
  obtain ⟨s, N, D⟩ := r
  by_cases hD : D = 0
  · subst hD
    refine (offer_first gR gr n es x s N w hT hR hA hc hn hx hxn hes).mono ?_
    rintro e w' ⟨h1, h2, h3⟩
    refine ⟨h1, ?_, h3⟩
    have : offV es x (s, N, 0) = (x, dnN es x, dnD es x) := by unfold offV; exact if_pos rfl
    exact rec_cast this h2
  · refine (offer_next gR gr n es x s N D w hT hR hD hA hc hn hx hxn hes).mono ?_
    rintro e w' ⟨h1, h2, h3, h4⟩
    refine ⟨h1, ?_, h4⟩
    by_cases hC : 0 < cmpF (dnN es x) (dnD es x) N D
    · have : offV es x (s, N, D) = (x, dnN es x, dnD es x) := by unfold offV; rw [if_neg hD]; exact if_pos hC
      exact rec_cast this (h2 hC)
    · have : offV es x (s, N, D) = (s, N, D) := by unfold offV; rw [if_neg hD]; exact if_neg hC
      exact rec_cast this (h3 hC)
end Go.Proofs.YtdibfecejgjfmaaGreatDoor
