/- The example of chapter 10: hung and awake. -/
import Derived.Test.YtciehcageghggaaDoorAwkM
set_option linter.unusedVariables false
namespace Go.Proofs.YtciehcageghggaaDoor
open Go.RowKit CoBit

theorem Blk.reads {w : World} {g : Nat} {t : TypeId} {cs : Array Value} {xs : List Value} {n size : Nat} (h : Blk w g t cs) (hx : cs.toList = xs) (hl : xs.length = n * size) : Reads w w.heap.size size (some ⟨g, 0, none⟩) n xs := by
  refine ⟨by first | exact hl | omega, fun _ => ⟨_, rfl, h.lt, fun j u hu => ?_⟩⟩
  have hc := Blk.cell h j
  have : ((⟨g, 0, none⟩ : Addr).add j) = ⟨g, j, none⟩ := by unfold Addr.add; split <;> simp_all
  rw [this, hc]
  subst hx
  simpa using hu

set_option maxRecDepth 100000 in
set_option maxHeartbeats 1000000 in
theorem hung_any (w : World) :
    Calls Tryd.prog 35 #[] w fun e w' => ∃ A, e = .returned (.agg #[.int .i64 4, .slice A 4 4]) ∧ RE w' A 4 hungE ∧ Below w.heap.size w w' := by
  go_enter Tryd.func35, Tryd.ntmps35
  go_wp2
  have hG : Blk ((w.alloc (.cells #[.int .i64 4, .slice (some ⟨w.heap.size + 1, 0, none⟩) 4 4] 28)).alloc (.cells #[.int .i64 0, .int .i64 1, .int .i64 0, .int .i64 2, .int .i64 1, .int .i64 2, .int .i64 2, .int .i64 3] 56)) w.heap.size 28 #[.int .i64 4, .slice (some ⟨w.heap.size + 1, 0, none⟩) 4 4] := Blk.alloc (Blk.new _ _ _) _
  have hE : Blk ((w.alloc (.cells #[.int .i64 4, .slice (some ⟨w.heap.size + 1, 0, none⟩) 4 4] 28)).alloc (.cells #[.int .i64 0, .int .i64 1, .int .i64 0, .int .i64 2, .int .i64 1, .int .i64 2, .int .i64 2, .int .i64 3] 56)) (w.heap.size + 1) 56 #[.int .i64 0, .int .i64 1, .int .i64 0, .int .i64 2, .int .i64 1, .int .i64 2, .int .i64 2, .int .i64 3] := by
    have := Blk.new (w.alloc (.cells #[.int .i64 4, .slice (some ⟨w.heap.size + 1, 0, none⟩) 4 4] 28)) 56 #[.int .i64 0, .int .i64 1, .int .i64 0, .int .i64 2, .int .i64 1, .int .i64 2, .int .i64 2, .int .i64 3]
    rwa [World.size_alloc] at this
  have hb : Below w.heap.size w ((w.alloc (.cells #[.int .i64 4, .slice (some ⟨w.heap.size + 1, 0, none⟩) 4 4] 28)).alloc (.cells #[.int .i64 0, .int .i64 1, .int .i64 0, .int .i64 2, .int .i64 1, .int .i64 2, .int .i64 2, .int .i64 3] 56)) := ((Below.refl _ _).alloc (Nat.le_refl _) _).alloc (by simp) _
  generalize (w.alloc (.cells #[.int .i64 4, .slice (some ⟨w.heap.size + 1, 0, none⟩) 4 4] 28)).alloc (.cells #[.int .i64 0, .int .i64 1, .int .i64 0, .int .i64 2, .int .i64 1, .int .i64 2, .int .i64 2, .int .i64 3] 56) = W at *
  have s0 := Blk.cell hG 0
  have s1 := Blk.cell hG 1
  simp at s0 s1
  refine bodyPost_ret (v := .agg #[.int .i64 4, .slice (some ⟨w.heap.size + 1, 0, none⟩) 4 4]) (by simp [results, Tryd.results35, go_sem, s0, s1]) rfl ?_
  exact ⟨_, rfl, Blk.reads hE rfl rfl, hb⟩

set_option maxRecDepth 100000 in
set_option maxHeartbeats 2000000 in
theorem awake_any (w : World) (hT : Tab w) :
    Calls Tryd.prog 9 #[] w fun e w' => e = .returned (.bool true) ∧ Below w.heap.size w w' := by
  go_enter Tryd.func9, Tryd.ntmps9
  go_wp2_with fail
  refine (hung_any w).mono ?_
  rintro e w1 ⟨A1, rfl, hr1, hb1⟩
  have hT1 := hT.keep hb1
  go_wp2_with fail
  refine (cNumbers_any A1 4 4 4 hungE w1 hT1 hr1 (by omega)).mono ?_
  rintro e w2 ⟨l, ⟨A2, n2, c2, rfl, hn2, hr2, hb2, hf2⟩, hl⟩
  have hl' := hung_numsL hl
  subst hl'
  rw [hung_chk]
  obtain rfl : n2 = 4 := hr2.len.symm
  have hb12 := hb1.trans (hb2.mono hb1.size)
  have hT2 := hT.keep hb12
  clear hl hr1 hb2 hf2 hT1 hb1
  go_wp2_with fail
  refine (hung_any w2).mono ?_
  rintro e w3 ⟨A3, rfl, hr3, hb3⟩
  have hb13 := hb12.trans (hb3.mono hb12.size)
  have hT3 := hT.keep hb13
  have hr2' := RI.below hr2 hb3 (Nat.le_refl _)
  clear hr2 hb3 hb12 hT2
  go_wp2_with fail
  refine (cOrder_any A3 4 4 4 hungE w3 hT3 hr3 (by omega)).mono ?_
  rintro e w4 ⟨o, ⟨A4, n4, c4, rfl, hn4, hr4, hb4, hf4⟩, ho⟩
  have ho' := hung_isOrd ho
  subst ho'
  rw [hung_chk]
  obtain rfl : n4 = 4 := hr4.len.symm
  have hb14 := hb13.trans (hb4.mono hb13.size)
  have hT4 := hT.keep hb14
  have hr2 := RI.below hr2' hb4 (Nat.le_refl _)
  clear ho hr3 hb4 hf4 hT3 hr2' hb13
  go_wp2_with fail
  have e1 : decide (([2, 2, 2, 1] : List Int) = [2, 2, 2, 1]) = true := by decide
  have hq1 : RI (w4.alloc (.cells #[.int .i64 2, .int .i64 2, .int .i64 2, .int .i64 1] 3)) (some ⟨w4.heap.size, 0, none⟩) 4 [2, 2, 2, 1] := (Blk.reads (Blk.new w4 3 #[.int .i64 2, .int .i64 2, .int .i64 2, .int .i64 1]) rfl rfl : Reads _ _ 1 _ 4 (ints [2, 2, 2, 1]))
  have hb15 : Below w.heap.size w (w4.alloc (.cells #[.int .i64 2, .int .i64 2, .int .i64 2, .int .i64 1] 3)) := hb14.alloc hb14.size _
  have hr2' := hr2.alloc (.cells #[.int .i64 2, .int .i64 2, .int .i64 2, .int .i64 1] 3)
  have hr4' := hr4.alloc (.cells #[.int .i64 2, .int .i64 2, .int .i64 2, .int .i64 1] 3)
  clear hr2 hr4 hb14 hT4
  refine (same_any A2 (some ⟨w4.heap.size, 0, none⟩) 4 c2 4 4 _ _ _ hr2' (by omega) hq1 (by omega)).mono ?_
  rintro e w5 ⟨rfl, q, hw⟩
  rw [e1]
  have hb16 : Below w.heap.size w w5 := by rw [hw]; exact below_drewN hb15 q
  have hr2 : RI w5 A2 4 [2, 2, 2, 1] := by rw [hw]; exact hr2'.drewN q
  have hr4 : RI w5 A4 4 [3, 0, 1, 2] := by rw [hw]; exact hr4'.drewN q
  clear hw hr2' hr4' hq1 hb15 e1
  go_wp2_with fail
  have e1 : decide (([3, 0, 1, 2] : List Int) = [3, 0, 1, 2]) = true := by decide
  have hq1 : RI (w5.alloc (.cells #[.int .i64 3, .int .i64 0, .int .i64 1, .int .i64 2] 3)) (some ⟨w5.heap.size, 0, none⟩) 4 [3, 0, 1, 2] := (Blk.reads (Blk.new w5 3 #[.int .i64 3, .int .i64 0, .int .i64 1, .int .i64 2]) rfl rfl : Reads _ _ 1 _ 4 (ints [3, 0, 1, 2]))
  have hb17 : Below w.heap.size w (w5.alloc (.cells #[.int .i64 3, .int .i64 0, .int .i64 1, .int .i64 2] 3)) := hb16.alloc hb16.size _
  have hr2' := hr2.alloc (.cells #[.int .i64 3, .int .i64 0, .int .i64 1, .int .i64 2] 3)
  have hr4' := hr4.alloc (.cells #[.int .i64 3, .int .i64 0, .int .i64 1, .int .i64 2] 3)
  clear hr2 hr4 hb16
  refine (same_any A4 (some ⟨w5.heap.size, 0, none⟩) 4 c4 4 4 _ _ _ hr4' (by omega) hq1 (by omega)).mono ?_
  rintro e w6 ⟨rfl, q, hw⟩
  rw [e1]
  have hb18 : Below w.heap.size w w6 := by rw [hw]; exact below_drewN hb17 q
  have hr2 : RI w6 A2 4 [2, 2, 2, 1] := by rw [hw]; exact hr2'.drewN q
  have hr4 : RI w6 A4 4 [3, 0, 1, 2] := by rw [hw]; exact hr4'.drewN q
  clear hw hr2' hr4' hq1 hb17 e1
  go_wp2_with fail
  refine (hung_any w6).mono ?_
  rintro e w7 ⟨A7, rfl, hr7, hb7⟩
  have hb19 := hb18.trans (hb7.mono hb18.size)
  have hT7 := hT.keep hb19
  have hr2' := RI.below hr2 hb7 (Nat.le_refl _)
  have hr4' := RI.below hr4 hb7 (Nat.le_refl _)
  clear hr2 hr4 hb7 hb18
  go_wp2_with fail
  refine (cCheck_any A7 4 4 4 hungE A2 4 c2 [2, 2, 2, 1] A4 4 c4 [3, 0, 1, 2] w7 hT7 hr7 (by omega) hr2' hr4' hn4 (by omega)).mono ?_
  rintro e w8 ⟨x, rfl, hx, hb8⟩
  obtain rfl := hung_isChk hx
  have hb20 := hb19.trans (hb8.mono hb19.size)
  clear hr2' hr4' hr7 hb8 hx hb19 hT7
  go_wp2_with fail
  go_ret
  exact ⟨rfl, hb20⟩
end Go.Proofs.YtciehcageghggaaDoor
