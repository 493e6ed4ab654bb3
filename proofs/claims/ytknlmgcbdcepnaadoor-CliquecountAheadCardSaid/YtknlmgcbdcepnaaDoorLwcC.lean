/- The laws of chapter 25: awake. -/
import Derived.Test.YtknlmgcbdcepnaaDoorLwcB
set_option linter.unusedVariables false
set_option linter.unusedSimpArgs false
namespace Go.Proofs.YtknlmgcbdcepnaaDoor
open Go.RowKit CoBit CoCli

set_option maxRecDepth 100000 in
set_option maxHeartbeats 4000000 in
theorem awake25_any (w : World) (hT : Tab w) : Calls Tryd.prog 13 #[] w fun e w' => e = .returned (.bool true) ∧ Below w.heap.size w w' := by
  go_enter Tryd.func13, Tryd.ntmps13
  go_wp2_with fail
  refine (whole25_any 4 (by omega) w).mono ?_
  rintro e w1 ⟨A, m, c, es, rfl, hmc, hr1, hb1, hf1, hW⟩
  obtain ⟨hz, hlen, hco, hnd, he1, he2⟩ := awk_facts hW
  have hm64 : m ≤ 64 := by rw [← hr1.len]; exact hlen
  have k1 := fun w hT h => counts_any A m c 4 5 es w hT h (by omega)
  have k2 := fun w hT h => nodes_any A m c 4 3 es w hT h (by omega)
  rw [hco, he1] at k1
  rw [hnd, he2] at k2
  replace k1 := Lib.hid k1
  replace k2 := Lib.hid k2
  clear hco hnd he1 he2 hz hW hlen
  have hT1 := hT.keep hb1
  go_wp2_with fail
  have hG := Blk.new w1 24 #[.int .i64 4, .slice A m c]
  have hb2 := hb1.alloc hb1.size (.cells #[.int .i64 4, .slice A m c] 24)
  have hr2 := hr1.alloc (.cells #[.int .i64 4, .slice A m c] 24)
  have hT2 := hT1.alloc (.cells #[.int .i64 4, .slice A m c] 24)
  have hs1 := hb1.size
  clear hb1 hr1 hT1 hf1
  generalize w1.alloc (.cells #[.int .i64 4, .slice A m c] 24) = w2 at *
  generalize w1.heap.size = gg at *
  refine (k1.out _ hT2 hr2).mono ?_
  rintro e w3 ⟨A3, n3, c3, rfl, hc3, hr3, hb3, hf3⟩
  have hG3 := hG.below hb3 hG.lt
  have hb03 := hb2.trans (hb3.mono hb2.size)
  have hrg := hr2.below hb3 (Nat.le_refl _)
  have hT3 := hT2.keep hb3
  have d0 := Blk.cell hG3 0
  have d1 := Blk.cell hG3 1
  simp at d0 d1
  obtain rfl : n3 = 5 := hr3.len.symm
  clear hb3 hb2 hr2 hT2 hG
  go_wp2_with fail
  refine (k2.out _ hT3 hrg).mono ?_
  rintro e w4 ⟨A4, n4, c4, rfl, hc4, hr4, hb4, hf4⟩
  have hr34 := RI.below hr3 hb4 (Nat.le_refl _)
  have hb04 := hb03.trans (hb4.mono hb03.size)
  obtain rfl : n4 = 4 := hr4.len.symm
  clear hb4 hb03 hrg hT3 hr3 hG3 d0 d1 k1 k2
  go_wp2_with fail
  refine (cmp2_any A3 (some ⟨w4.heap.size, 0, none⟩) 5 c3 5 5 [4, 6, 4, 1, 0] [4, 6, 4, 1, 0] _ (hr34.alloc _) (by omega) (AI.of_new w4 [4, 6, 4, 1, 0] (cs := #[.int .i64 4, .int .i64 6, .int .i64 4, .int .i64 1, .int .i64 0]) rfl rfl) (by omega)).mono ?_
  rintro e w5 ⟨rfl, q, rfl⟩
  have e0 : cmpL [4, 6, 4, 1, 0] [4, 6, 4, 1, 0] = 0 := by decide +kernel
  rw [e0]
  clear e0
  have hr45 := ((RI.alloc hr4 (.cells #[.int .i64 4, .int .i64 6, .int .i64 4, .int .i64 1, .int .i64 0] 3))).drewN q
  have hb05 := below_drewN (hb04.alloc hb04.size (.cells #[.int .i64 4, .int .i64 6, .int .i64 4, .int .i64 1, .int .i64 0] 3)) q
  generalize (w4.alloc (.cells #[.int .i64 4, .int .i64 6, .int .i64 4, .int .i64 1, .int .i64 0] 3)).drewN q = w5 at *
  clear hr34 hb04 hr4

  go_wp2_with fail
  refine (cmp2_any A4 (some ⟨w5.heap.size, 0, none⟩) 4 c4 4 4 [3, 3, 3, 3] [3, 3, 3, 3] _ (hr45.alloc _) (by omega) (AI.of_new w5 [3, 3, 3, 3] (cs := #[.int .i64 3, .int .i64 3, .int .i64 3, .int .i64 3]) rfl rfl) (by omega)).mono ?_
  rintro e w6 ⟨rfl, q2, rfl⟩
  have e1 : cmpL [3, 3, 3, 3] [3, 3, 3, 3] = 0 := by decide +kernel
  rw [e1]
  clear e1
  have hb06 := below_drewN (hb05.alloc hb05.size (.cells #[.int .i64 3, .int .i64 3, .int .i64 3, .int .i64 3] 3)) q2
  generalize (w5.alloc (.cells #[.int .i64 3, .int .i64 3, .int .i64 3, .int .i64 3] 3)).drewN q2 = w6 at *
  go_wp2_with fail
  refine (choose_any 6 2 _).mono ?_
  rintro e w7 ⟨rfl, hb7⟩
  have e2 : chZ 6 2 = 15 := by decide +kernel
  rw [e2]
  clear e2
  have hb07 := hb06.trans (hb7.mono hb06.size)
  go_wp2_with fail
  go_ret
  exact ⟨rfl, hb07⟩
end Go.Proofs.YtknlmgcbdcepnaaDoor
