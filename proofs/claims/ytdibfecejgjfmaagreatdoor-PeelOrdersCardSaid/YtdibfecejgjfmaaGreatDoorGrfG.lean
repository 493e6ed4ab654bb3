/- Package cohesionref03: Inside, Density. -/
import Derived.Test.YtdibfecejgjfmaaGreatDoorGrfD
import Derived.Test.YtdibfecejgjfmaaGreatDoorRatN
import Derived.Test.YtdibfecejgjfmaaGreatDoorPeeM
import Derived.Test.YtdibfecejgjfmaaGreatDoorSrtM
import Derived.Test.YtdibfecejgjfmaaGreatDoorRCoB
set_option linter.unusedVariables false
set_option linter.unusedSimpArgs false
namespace Go.Proofs.YtdibfecejgjfmaaGreatDoor
open Go.RowKit CoBit CoRat Rt

theorem indL_insE (es : List (Int × Int)) (l : List Int) : (indL es l).length = insE es l := rfl
set_option maxRecDepth 100000 in
set_option maxHeartbeats 1000000 in
theorem rinside_any (A : Option Addr) (m c : Nat) (n : Int) (es : List (Int × Int)) (AL : Option Addr) (mL cL : Nat) (l : List Int) (w : World) (h : RE w A m es) (hm : m ≤ 68719476736) (hz : chkG n es = 0) (hl : RI w AL mL l) (hmL : mL ≤ 1099511627776) :
    Calls Tryz.prog 62 #[.agg #[.int .i64 n, .slice A m c], .slice AL mL cL] w fun e w' => e = .returned (.int .i64 (insE es l : Nat)) ∧ Below w.heap.size w w' := by
  go_enter Tryz.func62, Tryz.ntmps62
  go_wp2_with fail
  refine (rinduced_any A m c n es AL mL cL l _ (h.alloc _) hm hz (hl.alloc _) hmL).mono ?_
  rintro e w1 ⟨A1, k1, c1, rfl, hk1, hr1, hb1, hf1⟩
  have hlen := Lib.hid hr1.len
  have hb0 : Below w.heap.size w w1 := ((Below.refl _ _).alloc (Nat.le_refl _) _).trans (hb1.mono (by simp))
  have hbz := hb0.alloc hb0.size (.cells #[.int .i64 n, .slice A1 k1 c1] 24)
  clear hb1
  go_wp2_with fail
  go_ret
  exact ⟨retInt (by rw [← hlen.out, indL_insE]), hbz⟩
/-- The density of a list of nodes. -/
def dseN (es : List (Int × Int)) (l : List Int) (s : Nat) : Int := if s = 0 then 0 else mkN (insE es l : Nat) s
def dseD (es : List (Int × Int)) (l : List Int) (s : Nat) : Int := if s = 0 then 1 else mkD (insE es l : Nat) s
set_option maxRecDepth 100000 in
set_option maxHeartbeats 1000000 in
theorem rdensity_any (A : Option Addr) (m c : Nat) (n : Nat) (es : List (Int × Int)) (AL : Option Addr) (mL cL : Nat) (l : List Int) (w : World) (h : RE w A m es) (hm : m ≤ 68719476736) (hz : chkG n es = 0) (hn : n ≤ 64) (hl : RI w AL mL l) (hmL : mL ≤ 1099511627776) :
    Calls Tryz.prog 46 #[.agg #[.int .i64 n, .slice A m c], .slice AL mL cL] w fun e w' => e = .returned (.tuple #[.agg #[.int .i64 (dseN es l (meetL l (rng n)).length), .int .i64 (dseD es l (meetL l (rng n)).length)], .int .i64 0]) ∧ Below w.heap.size w w' := by
  have k1 := fun w h => rcheck_any A m c n es w h (by omega)
  rw [hz] at k1
  replace k1 := Lib.hid k1
  have hg := Lib.hid hz
  obtain ⟨S, hS⟩ : ∃ S, S = (meetL l (rng n)).length := ⟨_, rfl⟩
  rw [← hS]
  replace hS := Lib.hid hS
  have hrl : (rng n).length = n := by unfold rng; simp
  clear hz
  go_enter Tryz.func46, Tryz.ntmps46
  go_wp2_with fail
  refine (k1.out _ ((h.alloc _).alloc _)).mono ?_
  rintro e w1 ⟨rfl, hb1⟩
  have b0 : Below w.heap.size w ((w.alloc (.cells #[.int .i64 n, .slice A m c] 24)).alloc (.cells #[.int .i64 0, .int .i64 0] 33)) := ((Below.refl _ _).alloc (Nat.le_refl _) _).alloc (by simp) _
  simp only [World.size_alloc] at hb1
  have hb0 := b0.trans (hb1.mono (by omega))
  have G1 : Blk w1 w.heap.size 24 #[.int .i64 n, .slice A m c] := Blk.below ((Blk.new w _ _).alloc _) hb1 (by omega)
  have F1 : Blk w1 (w.heap.size + 1) 33 #[.int .i64 0, .int .i64 0] := Blk.below (Blk.new' _ _ _ (by simp)) hb1 (by omega)
  obtain ⟨d0, d1⟩ := blkG G1
  have hs1 : w.heap.size + 2 ≤ w1.heap.size := by have := hb1.size; simp at this; omega
  have hr1 := RE.below h hb0 (Nat.le_refl _)
  have hl1 := RI.below hl hb0 (Nat.le_refl _)
  clear hb1 b0
  go_wp2_with fail
  refine (range_any n hn _).mono ?_
  rintro e w2 ⟨A2, n2, c2, rfl, hc2, hr2, hb2, hf2⟩
  have hb02 := hb0.trans (hb2.mono (by omega))
  have hl2 := RI.below hl1 hb2 (Nat.le_refl _)
  have hn2 : n2 ≤ 64 := by rw [← hr2.len, hrl]; exact hn
  have G2 := G1.below hb2 G1.lt
  have F2 := F1.below hb2 F1.lt
  have hs2 := hb2.size
  clear hb2 hb0 hl1 G1 F1 d0 d1
  go_wp2_with fail
  refine (meet_any AL A2 mL cL n2 c2 l (rng n) _ hl2 hmL hr2 (by omega)).mono ?_
  rintro e w3 ⟨A3, n3, c3, rfl, hc3, hr3, hb3, hf3⟩
  have hb03 := hb02.trans (hb3.mono (by omega))
  have G3 := G2.below hb3 G2.lt
  have F3 := F2.below hb3 F2.lt
  obtain ⟨d0, d1⟩ := blkG G3
  have hl3 := hr3.len
  obtain rfl : n3 = S := by rw [← hl3]; exact hS.out.symm
  have hs3 := hb3.size
  have hn3 : n3 ≤ 1099511627776 := by rw [← hl3]; unfold meetL; exact Nat.le_trans (List.length_filter_le _ _) (Nat.le_trans (of_length _) (by rw [hl2.len]; exact hmL))
  have hlz := RI.below hl hb03 (Nat.le_refl _)
  have hrz := RE.below h hb03 (Nat.le_refl _)
  clear hb3 hb02 hl2 hr2 hr3 G2 F2 hf2 hf3 hl3 hr1
  have z0 := Blk.cell F3 0
  have z1 := Blk.cell F3 1
  have y0 := Blk.frozen F3 0
  have y1 := Blk.frozen F3 1
  simp at z0 z1
  by_cases h0 : n3 = 0
  · subst h0
    have hN : dseN es l 0 = 0 := if_pos rfl
    have hD : dseD es l 0 = 1 := if_pos rfl
    replace hN := Lib.hid hN
    replace hD := Lib.hid hD
    have hzz := Blk.set (Blk.set F3 0 (.int .i64 0)) 1 (.int .i64 1)
    have e0 := Blk.cell hzz 0
    have e1 := Blk.cell hzz 1
    simp at e0 e1
    have hbz := (hb03.setCell (p := ⟨w.heap.size + 1, 0, none⟩) (by simp) (.int .i64 0)).setCell (p := ⟨w.heap.size + 1, 1, none⟩) (by simp) (.int .i64 1)
    clear hzz
    go_wp2_with fail
    refine bodyPost_ret (v := .tuple #[.agg #[.int .i64 0, .int .i64 1], .int .i64 0]) (by simp [results, Tryz.results46, go_sem, e0, e1]) rfl ?_
    exact ⟨by rw [hN.out, hD.out], hbz⟩
  · have hN : dseN es l n3 = mkN (insE es l : Nat) n3 := if_neg h0
    have hD : dseD es l n3 = mkD (insE es l : Nat) n3 := if_neg h0
    have q0 : ((n3 : Int) == 0) = false := by rw [beq_eq_false_iff_ne]; omega
    have hI : insE es l ≤ 68719476736 := Nat.le_trans (insE_le _ _) (by rw [h.len]; exact hm)
    have kin := fun w h hl => rinside_any A m c n es AL mL cL l w h hm hg.out hl hmL
    have kof := fun w => of_f (insE es l : Nat) n3 w (by omega) (by omega) (by omega) (by omega)
    generalize mkN (insE es l : Nat) n3 = N at *
    generalize mkD (insE es l : Nat) n3 = D at *
    generalize insE es l = I at *
    replace kin := Lib.hid kin
    replace kof := Lib.hid kof
    replace hN := Lib.hid hN
    replace hD := Lib.hid hD
    clear h0
    go_wp2_with fail
    refine (kin.out _ hrz hlz).mono ?_
    rintro e w4 ⟨rfl, hb4⟩
    have F4 := F3.below hb4 F3.lt
    have hb04 := hb03.trans (hb4.mono (by omega))
    have hs4 := hb4.size
    clear hb4 hb03 F3 z0 z1 y0 y1 d0 d1 G3
    go_wp2_with fail
    refine (kof.out _).mono ?_
    rintro e w5 ⟨rfl, hb5⟩
    have F5 := F4.below hb5 F4.lt
    have hb05 := hb04.trans (hb5.mono (by omega))
    have z0 := Blk.cell F5 0
    have z1 := Blk.cell F5 1
    have y0 := Blk.frozen F5 0
    have y1 := Blk.frozen F5 1
    simp at z0 z1
    have hzz := Blk.set (Blk.set F5 0 (.int .i64 N)) 1 (.int .i64 D)
    have e0 := Blk.cell hzz 0
    have e1 := Blk.cell hzz 1
    simp at e0 e1
    have hbz := (hb05.setCell (p := ⟨w.heap.size + 1, 0, none⟩) (by simp) (.int .i64 N)).setCell (p := ⟨w.heap.size + 1, 1, none⟩) (by simp) (.int .i64 D)
    clear hzz
    go_wp2_with fail
    refine bodyPost_ret (v := .tuple #[.agg #[.int .i64 N, .int .i64 D], .int .i64 0]) (by simp [results, Tryz.results46, go_sem, e0, e1]) rfl ?_
    exact ⟨by rw [hN.out, hD.out], hbz⟩
end Go.Proofs.YtdibfecejgjfmaaGreatDoor
