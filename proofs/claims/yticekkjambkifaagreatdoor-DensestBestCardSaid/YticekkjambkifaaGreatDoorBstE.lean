/- densest.Best and the reference's with an error. -/
import Derived.Test.YticekkjambkifaaGreatDoorZam
import Derived.Test.YticekkjambkifaaGreatDoorZao
set_option linter.unusedVariables false
set_option linter.unusedSimpArgs false
namespace Go.Proofs.YticekkjambkifaaGreatDoor.Fl
open Go.RowKit Go.Proofs.YticekkjambkifaaGreatDoor CoBit CoRat Rt

set_option maxRecDepth 100000 in
set_option maxHeartbeats 2000000 in
theorem best_err (A : Option Addr) (m c : Nat) (n : Int) (es : List (Int × Int)) (w : World) (h : RE w A m es) (hm : m ≤ 68719476736) (hz : chkG n es ≠ 0) :
    Calls Tryz.prog 9 #[.agg #[.int .i64 n, .slice A m c]] w fun e w' => e = .returned (.tuple #[.agg #[.slice none 0 0, .int .i64 0, .int .i64 0, .int .i64 0, .slice none 0 0], .int .i64 (chkG n es)]) ∧ Below w.heap.size w w' := by
  have kc := fun w h => gcheck_any A m c n es w h (by omega)
  generalize chkG n es = E at *
  have hE : (E != 0) = true := by simpa using hz
  replace kc := Lib.hid kc
  have B0 : Below w.heap.size w ((w.alloc (.cells #[.int .i64 n, .slice A m c] 24)).alloc (.cells #[.slice none 0 0, .int .i64 0, .int .i64 0, .int .i64 0, .slice none 0 0] 38)) := ((Below.refl _ w).alloc (Nat.le_refl _) _).alloc (by simp) _
  have R0 : Blk ((w.alloc (.cells #[.int .i64 n, .slice A m c] 24)).alloc (.cells #[.slice none 0 0, .int .i64 0, .int .i64 0, .int .i64 0, .slice none 0 0] 38)) (w.heap.size + 1) 38 #[.slice none 0 0, .int .i64 0, .int .i64 0, .int .i64 0, .slice none 0 0] := Blk.new' _ _ _ (by simp)
  have hr0 : Hid (w.heap.size ≤ w.heap.size + 1) := Lib.hid (by omega)
  clear hz
  go_enter Tryz.func9, Tryz.ntmps9
  go_wp2_with fail
  refine (kc.out _ ((h.alloc _).alloc _)).mono ?_
  rintro e w1 ⟨rfl, hb1⟩
  have R1 := R0.below hb1 R0.lt
  have B1 := B0.trans (hb1.mono B0.size)
  clear R0 B0 hb1 kc h
  generalize w.heap.size + 1 = r at *
  have d0 := Blk.cell R1 0
  have d1 := Blk.cell R1 1
  have d2 := Blk.cell R1 2
  have d3 := Blk.cell R1 3
  have d4 := Blk.cell R1 4
  have f0 := Blk.frozen R1 0
  have f1 := Blk.frozen R1 1
  have f2 := Blk.frozen R1 2
  have f3 := Blk.frozen R1 3
  have f4 := Blk.frozen R1 4
  simp at d0 d1 d2 d3 d4
  have RB := (Blk.set (Blk.set (Blk.set (Blk.set (Blk.set R1 0 (.slice none 0 0)) 1 (.int .i64 0)) 2 (.int .i64 0)) 3 (.int .i64 0)) 4 (.slice none 0 0))
  simp at RB
  have g0 := Lib.hid (Blk.cell RB 0)
  have g1 := Lib.hid (Blk.cell RB 1)
  have g2 := Lib.hid (Blk.cell RB 2)
  have g3 := Lib.hid (Blk.cell RB 3)
  have g4 := Lib.hid (Blk.cell RB 4)
  have hbz := Lib.hid (((((B1.setCell (p := ⟨r, 0, none⟩) hr0.out (.slice none 0 0)).setCell (p := ⟨r, 1, none⟩) hr0.out (.int .i64 0)).setCell (p := ⟨r, 2, none⟩) hr0.out (.int .i64 0)).setCell (p := ⟨r, 3, none⟩) hr0.out (.int .i64 0)).setCell (p := ⟨r, 4, none⟩) hr0.out (.slice none 0 0))
  clear R1 RB B1
  go_wp2_with fail
  have g0' := g0.out
  have g1' := g1.out
  have g2' := g2.out
  have g3' := g3.out
  have g4' := g4.out
  simp at g0' g1' g2' g3' g4'
  refine bodyPost_ret (v := .tuple #[.agg #[.slice none 0 0, .int .i64 0, .int .i64 0, .int .i64 0, .slice none 0 0], .int .i64 E]) (by simp [results, Tryz.results9, go_sem, g0', g1', g2', g3', g4']) rfl ?_
  exact ⟨rfl, hbz.out⟩
set_option maxRecDepth 100000 in
set_option maxHeartbeats 2000000 in
theorem rbest_err (A : Option Addr) (m c : Nat) (n : Int) (es : List (Int × Int)) (w : World) (h : RE w A m es) (hm : m ≤ 68719476736) (hz : chkG n es ≠ 0) :
    Calls Tryz.prog 10 #[.agg #[.int .i64 n, .slice A m c]] w fun e w' => e = .returned (.tuple #[.slice none 0 0, .agg #[.int .i64 0, .int .i64 0], .int .i64 (chkG n es)]) ∧ Below w.heap.size w w' := by
  have kc := fun w h => rcheck_any A m c n es w h (by omega)
  generalize chkG n es = E at *
  have hE : (E != 0) = true := by simpa using hz
  replace kc := Lib.hid kc
  have B0 : Below w.heap.size w ((w.alloc (.cells #[.int .i64 n, .slice A m c] 24)).alloc (.cells #[.int .i64 0, .int .i64 0] 34)) := ((Below.refl _ w).alloc (Nat.le_refl _) _).alloc (by simp) _
  have R0 : Blk ((w.alloc (.cells #[.int .i64 n, .slice A m c] 24)).alloc (.cells #[.int .i64 0, .int .i64 0] 34)) (w.heap.size + 1) 34 #[.int .i64 0, .int .i64 0] := Blk.new' _ _ _ (by simp)
  have hr0 : Hid (w.heap.size ≤ w.heap.size + 1) := Lib.hid (by omega)
  clear hz
  go_enter Tryz.func10, Tryz.ntmps10
  go_wp2_with fail
  refine (kc.out _ ((h.alloc _).alloc _)).mono ?_
  rintro e w1 ⟨rfl, hb1⟩
  have R1 := R0.below hb1 R0.lt
  have B1 := B0.trans (hb1.mono B0.size)
  clear R0 B0 hb1 kc h
  generalize w.heap.size + 1 = r at *
  have d0 := Blk.cell R1 0
  have d1 := Blk.cell R1 1
  have f0 := Blk.frozen R1 0
  have f1 := Blk.frozen R1 1
  simp at d0 d1
  have RB := (Blk.set (Blk.set R1 0 (.int .i64 0)) 1 (.int .i64 0))
  simp at RB
  have g0 := Lib.hid (Blk.cell RB 0)
  have g1 := Lib.hid (Blk.cell RB 1)
  have hbz := Lib.hid ((B1.setCell (p := ⟨r, 0, none⟩) hr0.out (.int .i64 0)).setCell (p := ⟨r, 1, none⟩) hr0.out (.int .i64 0))
  clear R1 RB B1
  go_wp2_with fail
  have g0' := g0.out
  have g1' := g1.out
  simp at g0' g1'
  refine bodyPost_ret (v := .tuple #[.slice none 0 0, .agg #[.int .i64 0, .int .i64 0], .int .i64 E]) (by simp [results, Tryz.results10, go_sem, g0', g1']) rfl ?_
  exact ⟨rfl, hbz.out⟩
end Go.Proofs.YticekkjambkifaaGreatDoor.Fl
