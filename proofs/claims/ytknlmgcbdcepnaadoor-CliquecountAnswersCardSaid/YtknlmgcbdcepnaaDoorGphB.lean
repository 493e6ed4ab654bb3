/- Package graph: the row of a node and its neighbours, at a valid graph. -/
import Derived.Test.YtknlmgcbdcepnaaDoorGphA
import Derived.Test.YtknlmgcbdcepnaaDoorArr
import Derived.Test.YtknlmgcbdcepnaaDoorRowM
set_option linter.unusedVariables false
set_option linter.unusedSimpArgs false
namespace Go.Proofs.YtknlmgcbdcepnaaDoor
open Go.RowKit CoBit

set_option maxRecDepth 100000 in
set_option maxHeartbeats 1000000 in
theorem grow_any (A : Option Addr) (m c : Nat) (n : Nat) (es : List (Int × Int)) (v : Nat) (w : World) (h : RE w A m es) (hm : m ≤ 1099511627776) (hc : chkG n es = 0) (hn : n ≤ 64) (hv : v < n) :
    Calls Tryd.prog 66 #[.agg #[.int .i64 n, .slice A m c], .int .i64 v] w fun e w' => e = .returned (.int .u64 (((rowsL n es).getD v 0 : Nat) : Int)) ∧ Below w.heap.size w w' := by
  have k1 := fun w h => gcheck_any A m c n es w h hm
  rw [hc] at k1
  replace k1 := Lib.hid k1
  have hrl := Lib.hid (rowsL_length n es)
  have q1 : decide ((v : Int) < 0) = false := by simp
  have q2 : decide ((n : Int) ≤ (v : Int)) = false := by simp; omega
  have i0 : (0 : Int) ≤ (v : Int) := Int.natCast_nonneg _
  have i1 : (v : Int) < (n : Int) := by omega
  clear hc
  go_enter Tryd.func66, Tryd.ntmps66
  go_wp2_with fail
  refine (rows_any A m c n es _ (h.alloc _) hm hn).mono ?_
  rintro e w1 ⟨gr, rfl, hgr, hA1, hb1⟩
  have G1 : Blk w1 w.heap.size 24 #[.int .i64 n, .slice A m c] := Blk.below (Blk.new _ _ _) hb1 (by simp)
  have hb0 : Below w.heap.size w w1 := ((Below.refl _ _).alloc (Nat.le_refl _) _).trans (hb1.mono (by simp))
  have hr1 := RE.below h hb0 (Nat.le_refl _)
  clear hb1
  have c0 := Blk.cell G1 0
  have c1 := Blk.cell G1 1
  simp at c0 c1
  go_wp2_with fail
  refine (k1.out _ hr1).mono ?_
  rintro e w2 ⟨rfl, hb2⟩
  have hA2 := hA1.below hb2 hA1.lt
  have hb02 := hb0.trans (hb2.mono hb0.size)
  have hcv := hA2.cell (i := v) (by rw [hrl.out]; exact hv)
  generalize hR : (rowsL n es).getD v 0 = R at *
  replace hR := Lib.hid hR
  clear hb2 hb0 G1 c0 c1 hr1 k1 hA1
  go_wp2_with fail
  go_ret
  exact ⟨by rw [hR.out]; rfl, hb02⟩
set_option maxHeartbeats 1000000 in
theorem gneigh_any (A : Option Addr) (m c : Nat) (n : Nat) (es : List (Int × Int)) (v : Nat) (w : World) (hT : Tab w) (h : RE w A m es) (hm : m ≤ 1099511627776) (hc : chkG n es = 0) (hn : n ≤ 64) (hv : v < n) :
    Calls Tryd.prog 56 #[.agg #[.int .i64 n, .slice A m c], .int .i64 v] w (RetI w (nbG n es v)) := by
  have k1 := fun w h => grow_any A m c n es v w h hm hc hn hv
  have k2 := fun w hT => list_any ((rowsL n es).getD v 0) (getD_lt (rows_lt es hn) v) w hT
  rw [row_nb hc hn v] at k2
  generalize (rowsL n es).getD v 0 = R at *
  replace k1 := Lib.hid k1
  replace k2 := Lib.hid k2
  clear hc
  go_enter Tryd.func56, Tryd.ntmps56
  go_wp2_with fail
  refine (k1.out _ (h.alloc _)).mono ?_
  rintro e w1 ⟨rfl, hb1⟩
  have hb0 : Below w.heap.size w w1 := ((Below.refl _ _).alloc (Nat.le_refl _) _).trans (hb1.mono (by simp))
  have hT1 := hT.keep hb0
  clear hb1
  go_wp2_with fail
  refine (k2.out _ hT1).mono ?_
  rintro e w2 ⟨A2, n2, c2, rfl, hc2, hr2, hb2, hf2⟩
  have hb02 := hb0.trans (hb2.mono hb0.size)
  have hs := hb0.size
  clear hb2 hb0
  go_wp2_with fail
  go_ret
  exact RetI.mk_ hc2 hr2 hb02 (hf2.mono hs)
end Go.Proofs.YtknlmgcbdcepnaaDoor
