/- The example of chapter 20: awake. -/
import Derived.Test.YtdibfecejgjfmaaDoorPeeI
import Derived.Test.YtdibfecejgjfmaaDoorAwkM
set_option linter.unusedVariables false
set_option linter.unusedSimpArgs false
namespace Go.Proofs.YtdibfecejgjfmaaDoor
open Go.RowKit CoBit CoRat Rt

theorem Blk.rds {w : World} {g : Nat} {t : TypeId} {cs : Array Value} {xs : List Value} {n size : Nat} (h : Blk w g t cs) (hx : cs.toList = xs) (hl : xs.length = n * size) : Reads w w.heap.size size (some ⟨g, 0, none⟩) n xs := by
  refine ⟨by first | exact hl | omega, fun _ => ⟨_, rfl, h.lt, fun j u hu => ?_⟩⟩
  have hc := Blk.cell h j
  have : ((⟨g, 0, none⟩ : Addr).add j) = ⟨g, j, none⟩ := by unfold Addr.add; split <;> simp_all
  rw [this, hc]
  subst hx
  simpa using hu
theorem hung_rec : recK 4 hungE [3, 0, 1, 2] 4 = (15, 1, 1) := by decide +kernel
theorem hung_set : bset 15 = [0, 1, 2, 3] := by decide +kernel
theorem hung_per : Per [3, 0, 1, 2] 4 := ⟨rfl, by decide, by decide⟩
theorem hung_later : IsLater (nbG 4 hungE) 4 [3, 0, 1, 2] [2, 1, 0, 1] := by
  refine ⟨rfl, fun i v hv => ?_⟩
  have hi : i < 4 := (List.getElem?_eq_some_iff.1 hv).1
  have : i = 0 ∨ i = 1 ∨ i = 2 ∨ i = 3 := by omega
  rcases this with rfl | rfl | rfl | rfl
  all_goals
    simp at hv
    subst hv
    decide +kernel

set_option maxRecDepth 100000 in
set_option maxHeartbeats 4000000 in
theorem awake20_any (w : World) (hT : Tab w) :
    Calls Tryd.prog 16 #[] w fun e w' => e = .returned (.bool true) ∧ Below w.heap.size w w' := by
  go_enter Tryd.func16, Tryd.ntmps16
  go_upto_region 2 with fail
  have E1 := Blk.new w 69 #[.int .i64 0, .int .i64 1, .int .i64 0, .int .i64 2, .int .i64 1, .int .i64 2, .int .i64 2, .int .i64 3]
  have E2 := E1.alloc (.cells #[.int .i64 4, .slice (some ⟨w.heap.size, 0, none⟩) 4 4] 27)
  have G2 : Blk ((w.alloc (.cells #[.int .i64 0, .int .i64 1, .int .i64 0, .int .i64 2, .int .i64 1, .int .i64 2, .int .i64 2, .int .i64 3] 69)).alloc (.cells #[.int .i64 4, .slice (some ⟨w.heap.size, 0, none⟩) 4 4] 27)) (w.heap.size + 1) 27 #[.int .i64 4, .slice (some ⟨w.heap.size, 0, none⟩) 4 4] := Blk.new' _ _ _ (by simp)
  have hb2 : Below w.heap.size w ((w.alloc (.cells #[.int .i64 0, .int .i64 1, .int .i64 0, .int .i64 2, .int .i64 1, .int .i64 2, .int .i64 2, .int .i64 3] 69)).alloc (.cells #[.int .i64 4, .slice (some ⟨w.heap.size, 0, none⟩) 4 4] 27)) := ((Below.refl _ _).alloc (Nat.le_refl _) _).alloc (by simp) _
  have hr2 : RE ((w.alloc (.cells #[.int .i64 0, .int .i64 1, .int .i64 0, .int .i64 2, .int .i64 1, .int .i64 2, .int .i64 2, .int .i64 3] 69)).alloc (.cells #[.int .i64 4, .slice (some ⟨w.heap.size, 0, none⟩) 4 4] 27)) (some ⟨w.heap.size, 0, none⟩) 4 hungE := Blk.rds E2 rfl rfl
  clear E1 E2
  generalize (w.alloc (.cells #[.int .i64 0, .int .i64 1, .int .i64 0, .int .i64 2, .int .i64 1, .int .i64 2, .int .i64 2, .int .i64 3] 69)).alloc (.cells #[.int .i64 4, .slice (some ⟨w.heap.size, 0, none⟩) 4 4] 27) = w2 at *
  obtain ⟨d0, d1⟩ := blkG G2
  have hs2 := hb2.size
  go_wp2_with fail
  refine (greedy_any (some ⟨w.heap.size, 0, none⟩) 4 4 4 hungE w2 (hT.keep hb2) hr2 (by omega) hung_chk (by omega)).mono ?_
  rintro e w3 ⟨o, hO, -, A3, n3, c3, A5, n5, c5, rfl, hc3, hc5, hr3, hr5, hb3, hf3, hf5⟩
  have ho := hung_isOrd hO
  subst ho
  rw [hung_rec] at hr5 ⊢
  simp only at hr5 ⊢
  rw [hung_set] at hr5
  have hfx : fixD 1 = 1 := rfl
  rw [hfx]
  obtain rfl : n3 = 4 := hr3.len.symm
  obtain rfl : n5 = 4 := hr5.len.symm
  have G3 := G2.below hb3 G2.lt
  have hr4 := hr2.below hb3 (Nat.le_refl _)
  have hb03 := hb2.trans (hb3.mono hs2)
  clear hO hb3 hf3 hf5 hr2 G2 d0 d1 hfx hb2
  go_upto_region 3 with fail
  have P4 := Blk.new w3 33 #[.slice A3 4 c3, .slice A5 4 c5, .int .i64 1, .int .i64 1]
  have G4 := G3.alloc (.cells #[.slice A3 4 c3, .slice A5 4 c5, .int .i64 1, .int .i64 1] 33)
  have hg4 := hr4.alloc (.cells #[.slice A3 4 c3, .slice A5 4 c5, .int .i64 1, .int .i64 1] 33)
  have ho4 := hr3.alloc (.cells #[.slice A3 4 c3, .slice A5 4 c5, .int .i64 1, .int .i64 1] 33)
  have hb4 := hb03.alloc hb03.size (.cells #[.slice A3 4 c3, .slice A5 4 c5, .int .i64 1, .int .i64 1] 33)
  clear G3 hr4 hr3 hr5 hb03
  generalize w3.alloc (.cells #[.slice A3 4 c3, .slice A5 4 c5, .int .i64 1, .int .i64 1] 33) = w4 at *
  generalize w3.heap.size = gp at *
  obtain ⟨d0, d1⟩ := blkG G4
  have p0 := Blk.cell P4 0
  simp at p0
  go_wp2_with fail
  refine (plimit_any (some ⟨w.heap.size, 0, none⟩) 4 4 4 hungE A3 4 c3 [3, 0, 1, 2] w4 hg4 (by omega) ho4 hc3 (by omega) hung_chk (by omega) hung_per).mono ?_
  rintro e w5 ⟨ls, rfl, hL, hb5⟩
  obtain rfl := later_unique hung_per hL hung_later
  have hmx : maxL [2, 1, 0, 1] = 2 := by decide
  rw [hmx]
  have P5 := P4.below hb5 P4.lt
  have ho5 := RI.below ho4 hb5 (Nat.le_refl _)
  have hb05 := hb4.trans (hb5.mono hb4.size)
  clear hL hb5 hb4 ho4 hg4 P4 G4 d0 d1 p0 hmx
  have p0 := Blk.cell P5 0
  have p1 := Blk.cell P5 1
  have p2 := Blk.cell P5 2
  have p3 := Blk.cell P5 3
  simp at p0 p1 p2 p3
  go_wp2_with fail
  have e1 : decide (([3, 0, 1, 2] : List Int) = [3, 0, 1, 2]) = true := by decide
  have hq1 : RI (w5.alloc (.cells #[.int .i64 3, .int .i64 0, .int .i64 1, .int .i64 2] 3)) (some ⟨w5.heap.size, 0, none⟩) 4 [3, 0, 1, 2] := (Blk.rds (Blk.new w5 3 #[.int .i64 3, .int .i64 0, .int .i64 1, .int .i64 2]) rfl rfl : Reads _ _ _ _ _ _)
  have hb06 := hb05.alloc hb05.size (.cells #[.int .i64 3, .int .i64 0, .int .i64 1, .int .i64 2] 3)
  have ho6 := ho5.alloc (.cells #[.int .i64 3, .int .i64 0, .int .i64 1, .int .i64 2] 3)
  have ks := same_any A3 (some ⟨w5.heap.size, 0, none⟩) 4 c3 4 4 _ _ _ ho6 (by omega) hq1 (by omega)
  rw [e1] at ks
  refine ks.mono ?_
  rintro e w6 ⟨rfl, q, rfl⟩
  have P6 := Blk.drewN (P5.alloc (.cells #[.int .i64 3, .int .i64 0, .int .i64 1, .int .i64 2] 3)) q
  have hbz := below_drewN hb06 q
  clear ks hq1 ho6 ho5 hb06 hb05 P5 p0 p1 p2 p3 e1
  have p1 := Blk.cell P6 1
  have p2 := Blk.cell P6 2
  have p3 := Blk.cell P6 3
  simp at p1 p2 p3
  go_wp2_with fail
  go_ret
  exact ⟨rfl, hbz⟩
end Go.Proofs.YtdibfecejgjfmaaDoor
