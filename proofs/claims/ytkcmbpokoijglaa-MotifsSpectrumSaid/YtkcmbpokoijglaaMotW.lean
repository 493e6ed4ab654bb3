/- The example of chapter 31, and the laws' small functions. -/
import Derived.Test.YtkcmbpokoijglaaMotT
set_option linter.unusedVariables false
set_option linter.unusedSimpArgs false
namespace Go.Proofs.Ytkcmbpokoijglaa
open Go.RowKit CoMot

theorem ex_cnt : cntR [⟨0, 1, 1⟩, ⟨1, 2, 2⟩, ⟨0, 1, 2⟩] [(0, 1), (1, 2)] 1 = 1 := by decide +kernel
theorem ex_chk : chkA [⟨0, 1, 1⟩, ⟨1, 2, 2⟩, ⟨0, 1, 2⟩] [(0, 1), (1, 2)] 1 = 0 := by decide +kernel
theorem ex_mot : (motR 2).length = 6 := by decide +kernel
theorem ex_mot0 : motE 2 = 0 := by decide +kernel
set_option maxRecDepth 100000 in
set_option maxHeartbeats 4000000 in
theorem awake31_any (w : World) : Calls Try.prog 10 #[] w fun e w' => e = .returned (.bool true) ∧ Below w.heap.size w w' := by
  have B0 : Blk (w.alloc (.cells #[.int .i64 0, .int .i64 1, .int .i64 1, .int .i64 1, .int .i64 2, .int .i64 2, .int .i64 0, .int .i64 1, .int .i64 2] 33)) w.heap.size 33 #[.int .i64 0, .int .i64 1, .int .i64 1, .int .i64 1, .int .i64 2, .int .i64 2, .int .i64 0, .int .i64 1, .int .i64 2] := Blk.new w _ _
  have B0' := B0.alloc (.cells #[.int .i64 0, .int .i64 1, .int .i64 1, .int .i64 2] 34)
  have B1 := Blk.new (w.alloc (.cells #[.int .i64 0, .int .i64 1, .int .i64 1, .int .i64 1, .int .i64 2, .int .i64 2, .int .i64 0, .int .i64 1, .int .i64 2] 33)) 34 #[.int .i64 0, .int .i64 1, .int .i64 1, .int .i64 2]
  have R0 := RS.blk (E := TE) (xs := [⟨0, 1, 1⟩, ⟨1, 2, 2⟩, ⟨0, 1, 2⟩]) (n := 3) B0' rfl rfl
  have R1 := RS.blk (E := SE) (xs := [(0, 1), (1, 2)]) (n := 2) B1 rfl rfl
  have kc := count_any _ _ 3 3 2 2 _ _ 1 _ R0 R1 (by omega) (Nat.le_refl _) (Nat.le_refl _)
  rw [ex_cnt, ex_chk, show (w.alloc (.cells #[.int .i64 0, .int .i64 1, .int .i64 1, .int .i64 1, .int .i64 2, .int .i64 2, .int .i64 0, .int .i64 1, .int .i64 2] 33)).heap.size = w.heap.size + 1 by simp] at kc
  replace kc := Lib.hid kc
  have hb0 : Below w.heap.size w ((w.alloc (.cells #[.int .i64 0, .int .i64 1, .int .i64 1, .int .i64 1, .int .i64 2, .int .i64 2, .int .i64 0, .int .i64 1, .int .i64 2] 33)).alloc (.cells #[.int .i64 0, .int .i64 1, .int .i64 1, .int .i64 2] 34)) := ((Below.refl _ _).alloc (Nat.le_refl _) _).alloc (by simp) _
  have km := Lib.hid fun w => motifs_any 2 w
  clear B0 B0' B1 R0 R1
  go_enter Try.func10, Try.ntmps10
  go_wp2_with fail
  (with_reducible refine (kc.out).mono ?_)
  rintro e w1 ⟨rfl, hb1⟩
  replace hb1 := hb0.trans (hb1.mono (by simp; omega))
  clear hb0
  go_wp2_with fail
  (with_reducible refine (km.out _).mono ?_)
  rintro e w2 ⟨A, c, rfl, hc, hr, hb2⟩
  rw [ex_mot, ex_mot0]
  replace hb2 := hb1.trans (hb2.mono hb1.size)
  go_wp2_with fail
  go_ret
  exact ⟨rfl, hb2⟩
end Go.Proofs.Ytkcmbpokoijglaa
