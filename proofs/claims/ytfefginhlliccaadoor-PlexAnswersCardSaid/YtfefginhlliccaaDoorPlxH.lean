/- The example of chapter 28. -/
import Derived.Test.YtfefginhlliccaaDoorPlxG
import Derived.Test.YtfefginhlliccaaDoorGrfF
import Derived.Test.YtfefginhlliccaaDoorAwkA
set_option linter.unusedVariables false
set_option linter.unusedSimpArgs false
namespace Go.Proofs.YtfefginhlliccaaDoor.Pl
open Go.RowKit Go.Shelf CoBit CoCli Go.Proofs.YtfefginhlliccaaDoor

def sqE : List (Int × Int) := [(0, 1), (1, 2), (2, 3), (0, 3)]
def sqP : List (Int × Int) := putsL sqE
theorem sq_all : allL 4 sqP 2 3 9 = [[0, 1, 2, 3]] := by decide +kernel
theorem sq_err : errA 4 sqP 2 3 9 = 0 := by decide +kernel
theorem sq_is : isB 4 sqP [0, 1, 2, 3] 2 = true := by decide +kernel
theorem sq_not : isB 4 sqP [0, 1, 2, 3] 1 = false := by decide +kernel
theorem sq_len : sqP.length ≤ 100 := by decide +kernel
theorem sq_ends : ∀ e ∈ sqE, endsB (4 : Nat) e.1 e.2 = true := by decide +kernel
set_option maxRecDepth 100000 in
set_option maxHeartbeats 4000000 in
theorem awake28_any (w : World) (hT : Tab w) : Calls Tryd.prog 9 #[] w fun e w' => e = .returned (.bool true) ∧ Below w.heap.size w w' := by
  have B0 : Blk (w.alloc (.cells #[.int .i64 0, .int .i64 1, .int .i64 1, .int .i64 2, .int .i64 2, .int .i64 3, .int .i64 0, .int .i64 3] 63)) w.heap.size 63 #[.int .i64 0, .int .i64 1, .int .i64 1, .int .i64 2, .int .i64 2, .int .i64 3, .int .i64 0, .int .i64 3] := Blk.new w _ _
  have R0 : RE (w.alloc (.cells #[.int .i64 0, .int .i64 1, .int .i64 1, .int .i64 2, .int .i64 2, .int .i64 3, .int .i64 0, .int .i64 3] 63)) (some ⟨w.heap.size, 0, none⟩) 4 sqE := Blk.reads B0 rfl rfl
  have ko := rof_any 4 (by omega) (some ⟨w.heap.size, 0, none⟩) 4 4 sqE _ R0 (by omega) sq_ends
  have hb0 : Below w.heap.size w (w.alloc (.cells #[.int .i64 0, .int .i64 1, .int .i64 1, .int .i64 2, .int .i64 2, .int .i64 3, .int .i64 0, .int .i64 3] 63)) := (Below.refl _ _).alloc (Nat.le_refl _) _
  have hz0 : w.heap.size < (w.alloc (.cells #[.int .i64 0, .int .i64 1, .int .i64 1, .int .i64 2, .int .i64 2, .int .i64 3, .int .i64 0, .int .i64 3] 63)).heap.size := by simp
  have ka : ∀ (A : Option Addr) (m c : Nat) (w : World), RE w A m sqP → m ≤ 100 → Tab w → Calls Tryd.prog 12 #[.agg #[.int .i64 4, .slice A m c], .int .i64 2, .int .i64 3, .int .i64 9] w (RetLL w [[0, 1, 2, 3]] 0) := fun A m c w hE hm hT => by
    have := callsIn_wide.1 (all_in A m c 4 sqP 2 3 9 w hE (by omega) hT)
    rw [sq_all, sq_err] at this
    exact this
  have ki : ∀ (A : Option Addr) (m c : Nat) (b : Nat) (w : World), RE w A m sqP → m ≤ 100 → Tab w → Blk w b 3 #[.int .i64 0, .int .i64 1, .int .i64 2, .int .i64 3] → Calls Tryd.prog 17 #[.agg #[.int .i64 4, .slice A m c], .slice (some ⟨b, 0, none⟩) 4 4, .int .i64 2] w fun e w' => e = .returned (.bool true) ∧ Below w.heap.size w w' := fun A m c b w hE hm hT hb => by
    have := is_any A m c 4 sqP (some ⟨b, 0, none⟩) 4 4 [0, 1, 2, 3] 2 w hE (by omega) hT (Blk.reads hb rfl rfl) (by omega)
    rw [sq_is] at this
    exact this
  have kn : ∀ (A : Option Addr) (m c : Nat) (b : Nat) (w : World), RE w A m sqP → m ≤ 100 → Tab w → Blk w b 3 #[.int .i64 0, .int .i64 1, .int .i64 2, .int .i64 3] → Calls Tryd.prog 17 #[.agg #[.int .i64 4, .slice A m c], .slice (some ⟨b, 0, none⟩) 4 4, .int .i64 1] w fun e w' => e = .returned (.bool false) ∧ Below w.heap.size w w' := fun A m c b w hE hm hT hb => by
    have := is_any A m c 4 sqP (some ⟨b, 0, none⟩) 4 4 [0, 1, 2, 3] 1 w hE (by omega) hT (Blk.reads hb rfl rfl) (by omega)
    rw [sq_not] at this
    exact this
  replace ko := Lib.hid ko
  replace ka := Lib.hid ka
  replace ki := Lib.hid ki
  replace kn := Lib.hid kn
  clear B0 R0
  go_enter Tryd.func9, Tryd.ntmps9
  go_wp2_with (first
    | (go_at_call 38; refine ko.out.mono ?_; rintro e w1 ⟨A1, k1, c1, rfl, hkc, hE1, hb1, hf1⟩
       have hW1 : Below w.heap.size w w1 := hb0.trans (hb1.mono hb0.size)
       have hk1 : k1 ≤ 100 := by have := hE1.len; have := sq_len; have h3 : sqP.length = (putsL sqE).length := rfl; omega
       have bg := Blk.new w1 27 #[.int .i64 4, .slice A1 k1 c1])
    | fail)
  have hBw2 : Below w1.heap.size w1 (w1.alloc (.cells #[.int .i64 4, .slice A1 k1 c1] 27)) := (Below.refl _ _).alloc (Nat.le_refl _) _
  have hW2 := hW1.trans (hBw2.mono hW1.size)
  have hE2 := hE1.below hBw2 (Nat.le_refl _)
  have hlt2 := bg.lt
  generalize w1.alloc (.cells #[.int .i64 4, .slice A1 k1 c1] 27) = w2 at *
  have hT2 := hT.below hW2 hT.lt
  refine (ka.out A1 k1 c1 w2 hE2 hk1 hT2).mono ?_
  rintro e w3 ⟨A3, n3, c3, rfl, hc3, hr3, hb3⟩
  obtain rfl : 1 = n3 := hr3.len
  obtain ⟨ad, A4, k4, c4, ys, rfl, hcell, hys, hk4, hr4, hadlt⟩ := hr3.get (i := 0) (by omega)
  have hys' : ys = [0, 1, 2, 3] := by have := hys.out; simp at this; exact this.symm
  subst hys'
  obtain rfl : 4 = k4 := hr4.len
  replace hcell : w3.cell? ad = some (.slice A4 4 c4) := hcell
  have hW3 := hW2.trans (hb3.mono hW2.size)
  have bg3 := bg.below hb3 hlt2
  have hE3 := hE2.below hb3 (Nat.le_refl _)
  have hT3 := hT.below hW3 hT.lt
  have hz3 := hb3.size
  have g0 := Blk.cell bg3 0
  have g1 := Blk.cell bg3 1
  simp at g0 g1
  -- the first set
  have n4 := Blk.new w3 3 #[.int .i64 0, .int .i64 1, .int .i64 2, .int .i64 3]
  have hb34 : Below w3.heap.size w3 (w3.alloc (.cells #[.int .i64 0, .int .i64 1, .int .i64 2, .int .i64 3] 3)) := (Below.refl _ _).alloc (Nat.le_refl _) _
  have k4 := ki.out A1 k1 c1 w3.heap.size _ (hE3.below hb34 (Nat.le_refl _)) hk1 (hT3.below hb34 hT3.lt) n4
  replace k4 := Lib.hid k4
  clear hr3 hys hr4 hb3 ka ko ki bg hE2 hT2 n4
  have hlt3 := bg3.lt
  go_wp2_with (first
    | (go_at_call 17; refine k4.out.mono ?_; clear k4; rintro e w5 ⟨rfl, hb5⟩
       have hb35 : Below w3.heap.size w3 w5 := hb34.trans (hb5.mono (by simp))
       have bg5 := bg3.below hb35 hlt3
       have e0 := Blk.cell bg5 0
       have e1 := Blk.cell bg5 1
       simp at e0 e1
       have n6 := Blk.new w5 3 #[.int .i64 0, .int .i64 1, .int .i64 2, .int .i64 3]
       have hb56 : Below w5.heap.size w5 (w5.alloc (.cells #[.int .i64 0, .int .i64 1, .int .i64 2, .int .i64 3] 3)) := (Below.refl _ _).alloc (Nat.le_refl _) _
       have hT5 := hT3.below hb35 hT3.lt
       have k6 := kn.out A1 k1 c1 w5.heap.size _ ((hE3.below hb35 (Nat.le_refl _)).below hb56 (Nat.le_refl _)) hk1 (hT5.below hb56 hT5.lt) n6
       replace k6 := Lib.hid k6
       clear kn n6)
    | (go_at_call 17; refine k6.out.mono ?_; clear k6; rintro e w7 ⟨rfl, hb7⟩)
    | fail)
  go_ret
  exact ⟨rfl, (hW3.trans (hb35.mono hW3.size)).trans ((hb56.trans (hb7.mono (by simp))).mono (hW3.trans (hb35.mono hW3.size)).size)⟩
end Go.Proofs.YtfefginhlliccaaDoor.Pl
