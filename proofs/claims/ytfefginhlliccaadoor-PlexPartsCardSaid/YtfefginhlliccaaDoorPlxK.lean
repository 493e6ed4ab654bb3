/- Package plex: Reduce. -/
import Derived.Test.YtfefginhlliccaaDoorPlxG
set_option linter.unusedVariables false
set_option linter.unusedSimpArgs false
namespace Go.Proofs.YtfefginhlliccaaDoor.Pl
open Go.RowKit Go.Shelf CoBit CoCli Go.Proofs.YtfefginhlliccaaDoor

/-- What Reduce returns. -/
def RedL (n : Int) (es : List (Int × Int)) (k least : Int) (l : List Int) : Prop := (errP n es k least = 0 → CoreL n es (least - k) l) ∧ (errP n es k least ≠ 0 → l = [])
set_option maxRecDepth 100000 in
set_option maxHeartbeats 2000000 in
theorem reduce_any (A : Option Addr) (m c : Nat) (n : Int) (es : List (Int × Int)) (k least : Int) (w : World) (hE : RE w A m es) (hm : m ≤ 68719476736) (hT : Tab w) :
    Calls Tryd.prog 21 #[.agg #[.int .i64 n, .slice A m c], .int .i64 k, .int .i64 least] w fun e w' => ∃ l, RetL w l (errP n es k least) e w' ∧ RedL n es k least l := by
  have kc := fun w h => pcheck_any A m c n es k least w h (by omega)
  have hB1 : Below w.heap.size w (w.alloc (.cells #[.int .i64 n, .slice A m c] 27)) := (Below.refl _ w).alloc (Nat.le_refl _) _
  have hlt : w.heap.size < (w.alloc (.cells #[.int .i64 n, .slice A m c] 27)).heap.size := by simp
  by_cases h0 : errP n es k least = 0
  · obtain ⟨z0, z1, z2, z3, z4⟩ := errP_zero h0
    have hr : ∀ l, CoreL n es (least - k) l → RedL n es k least l := fun l h => ⟨fun _ => h, fun h' => absurd h0 h'⟩
    have kk := fun w hT h => cCore_any A m c n (least - k) es w hT h hm
    simp only [z0] at kk
    simp only [h0] at kc
    rw [h0]
    replace kc := Lib.hid kc
    replace kk := Lib.hid kk
    replace hr := Lib.hid hr
    clear h0 z0
    go_enter Tryd.func21, Tryd.ntmps21
    go_wp2_with (first
      | (go_at_call 39; refine (kc.out _ (hE.alloc _)).mono ?_; rintro e w1 ⟨rfl, hb1⟩
         have bg1 := Blk.below (Blk.new w 27 #[.int .i64 n, .slice A m c]) hb1 hlt
         have g0 := Blk.cell bg1 0
         have g1 := Blk.cell bg1 1
         simp at g0 g1
         have hW1 : Below w.heap.size w w1 := hB1.trans (hb1.mono (by simp))
         have hE1 := hE.below hW1 (Nat.le_refl _)
         have hT1 := hT.below hW1 hT.lt)
      | (go_at_call 54; refine (kk.out _ hT1 hE1).mono ?_; rintro e w2 ⟨l, ⟨A2, n2, c2, rfl, hc2, hr2, hb2, hf2⟩, hl⟩)
      | fail)
    go_ret2
    exact ⟨l, ⟨A2, n2, c2, rfl, hc2, hr2, hW1.trans (hb2.mono hW1.size), hf2.mono hW1.size⟩, hr.out l hl⟩
  · have hq : (errP n es k least != 0) = true := by simpa using h0
    have hr : RedL n es k least [] := ⟨fun h => absurd h h0, fun _ => rfl⟩
    generalize errP n es k least = z at *
    replace kc := Lib.hid kc
    replace hr := Lib.hid hr
    clear h0
    go_enter Tryd.func21, Tryd.ntmps21
    go_wp2_with (first
      | (go_at_call 39; refine (kc.out _ (hE.alloc _)).mono ?_; rintro e w1 ⟨rfl, hb1⟩; have hW1 : Below w.heap.size w w1 := hB1.trans (hb1.mono (by simp)))
      | fail)
    go_ret2
    exact ⟨[], ⟨none, 0, 0, rfl, Nat.le_refl _, RI.none_, hW1, Fr.none_⟩, hr.out⟩
end Go.Proofs.YtfefginhlliccaaDoor.Pl
