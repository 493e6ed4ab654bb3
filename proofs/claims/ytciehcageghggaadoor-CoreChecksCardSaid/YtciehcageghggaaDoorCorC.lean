/- Package core, third part: Later. -/
import Derived.Test.YtciehcageghggaaDoorCorB
set_option linter.unusedVariables false
namespace Go.Proofs.YtciehcageghggaaDoor
open Go.RowKit

set_option maxRecDepth 100000 in
set_option maxHeartbeats 2000000 in
theorem cLater_any (A : Option Addr) (m c : Nat) (n : Int) (es : List (Int × Int)) (A2 : Option Addr) (m2 c2 : Nat) (o : List Int) (w : World) (h : RE w A m es) (hm : m ≤ 68719476736) (h2 : RI w A2 m2 o) (hmc : m2 ≤ c2) (hm2 : m2 ≤ 1099511627776) :
    Calls Tryd.prog 18 #[.agg #[.int .i64 n, .slice A m c], .slice A2 m2 c2] w fun e w' => ∃ ls, RetL w ls (errL n es o) e w' ∧ LaterL n es o ls := by
  have ck := fun w h => gcheck_any A m c n es w h (by omega)
  by_cases hz : chkG n es = 0
  · obtain ⟨z0, z1, _⟩ := chkG_zero hz
    obtain ⟨n, rfl⟩ := Int.eq_ofNat_of_zero_le z0
    by_cases ho : OrdI o n
    · have herr : errL n es o = 0 := by unfold errL; rw [if_pos hz, if_pos ho]
      have hdef : ∀ ls, IsLater (nbG n es) n o ls → LaterL n es o ls := fun ls h1 => ⟨fun _ => h1, fun h => absurd herr h⟩
      have hper := Lib.hid (ordI_per.1 ho)
      have hz0 := Lib.hid hz
      have hb : decide (OrdI o n) = true := decide_eq_true ho
      rw [herr]
      rw [hz] at ck
      clear hz herr ho
      replace hdef := Lib.hid hdef
      replace ck := Lib.hid ck
      replace hb := Lib.hid hb
      go_enter Tryd.func18, Tryd.ntmps18
      go_wp2_with fail
      refine (ck.out _ (h.alloc _)).mono ?_
      rintro e w1 ⟨rfl, hb1⟩
      simp only [World.size_alloc] at hb1
      have hG : Blk w1 w.heap.size 28 #[.int .i64 n, .slice A m c] := Blk.below (Blk.new _ _ _) hb1 (by simp)
      have hb0 : Below w.heap.size w w1 := ((Below.refl _ _).alloc (Nat.le_refl _) _).trans (hb1.mono (by simp))
      have g0 := Blk.cell hG 0
      have g1 := Blk.cell hG 1
      simp at g0 g1
      have h3 := RI.below h2 hb0 (Nat.le_refl _)
      have hs0 := hb0.size
      have hGl := hG.lt
      clear hb1
      go_wp2_with fail
      refine (whole_any A2 m2 c2 o n _ h3 hm2 (by omega)).mono ?_
      rintro e w2 ⟨rfl, hb2⟩
      rw [hb.out]
      replace hG := Blk.below hG hb2 hGl
      replace hb0 := hb0.trans (hb2.mono hs0)
      clear hb2 g0 g1 h3
      have g0 := Blk.cell hG 0
      have g1 := Blk.cell hG 1
      simp at g0 g1
      have h3 := RI.below h2 hb0 (Nat.le_refl _)
      have h4 := RE.below h hb0 (Nat.le_refl _)
      have hs2 := hb0.size
      go_wp2_with fail
      refine (later_any A m c n es A2 m2 c2 o _ h4 hm (by omega) h3 hmc hper.out hz0.out).mono ?_
      rintro e w3 ⟨ls, ⟨A5, n5, c5, rfl, hn5, hr5, hb5, hf5⟩, hls⟩
      have hfin : ∃ ls, RetL w ls 0 (.returned (.tuple #[.slice A5 n5 c5, .int .i64 0])) w3 ∧ LaterL n es o ls := ⟨ls, ⟨A5, n5, c5, rfl, hn5, hr5, hb0.trans (hb5.mono hs2), hf5.mono hs2⟩, hdef.out ls hls⟩
      replace hfin := Lib.hid hfin
      clear hls hb5 hr5 hf5
      go_wp2_with fail
      go_ret2
      exact hfin.out
    · have herr : errL n es o = 4 := by unfold errL; rw [if_pos hz, if_neg ho]
      have hdef : LaterL n es o [] := ⟨fun h => by rw [herr] at h; omega, fun _ => rfl⟩
      have hb : decide (OrdI o n) = false := decide_eq_false ho
      rw [herr]
      rw [hz] at ck
      clear hz herr ho
      replace hdef := Lib.hid hdef
      replace ck := Lib.hid ck
      replace hb := Lib.hid hb
      go_enter Tryd.func18, Tryd.ntmps18
      go_wp2_with fail
      refine (ck.out _ (h.alloc _)).mono ?_
      rintro e w1 ⟨rfl, hb1⟩
      simp only [World.size_alloc] at hb1
      have hG : Blk w1 w.heap.size 28 #[.int .i64 n, .slice A m c] := Blk.below (Blk.new _ _ _) hb1 (by simp)
      have hb0 : Below w.heap.size w w1 := ((Below.refl _ _).alloc (Nat.le_refl _) _).trans (hb1.mono (by simp))
      have g0 := Blk.cell hG 0
      have g1 := Blk.cell hG 1
      simp at g0 g1
      have h3 := RI.below h2 hb0 (Nat.le_refl _)
      have hs0 := hb0.size
      clear hb1
      go_wp2_with fail
      refine (whole_any A2 m2 c2 o n _ h3 hm2 (by omega)).mono ?_
      rintro e w2 ⟨rfl, hb2⟩
      rw [hb.out]
      replace hb0 := hb0.trans (hb2.mono hs0)
      clear hb2 g0 g1 h3
      go_wp2_with fail
      go_ret2
      exact ⟨[], ⟨none, 0, 0, rfl, Nat.le_refl _, RI.none_, hb0, Fr.none_⟩, hdef.out⟩
  · have herr : errL n es o = chkG n es := if_neg hz
    have hdef : LaterL n es o [] := ⟨fun h => absurd (herr.symm.trans h) hz, fun _ => rfl⟩
    have hz' : (chkG n es != 0) = true := by simpa using hz
    rw [herr]
    clear hz herr
    generalize chkG n es = z at *
    replace hdef := Lib.hid hdef
    replace ck := Lib.hid ck
    go_enter Tryd.func18, Tryd.ntmps18
    go_wp2_with fail
    refine (ck.out _ (h.alloc _)).mono ?_
    rintro e w1 ⟨rfl, hb1⟩
    simp only [World.size_alloc] at hb1
    have hb0 : Below w.heap.size w w1 := ((Below.refl _ _).alloc (Nat.le_refl _) _).trans (hb1.mono (by simp))
    clear hb1
    go_wp2
    go_ret2
    exact ⟨[], ⟨none, 0, 0, rfl, Nat.le_refl _, RI.none_, hb0, Fr.none_⟩, hdef.out⟩

end Go.Proofs.YtciehcageghggaaDoor
