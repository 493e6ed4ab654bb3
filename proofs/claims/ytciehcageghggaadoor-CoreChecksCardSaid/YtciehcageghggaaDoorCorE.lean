/- Package core, fifth part: Check for every graph. -/
import Derived.Test.YtciehcageghggaaDoorCorD
set_option linter.unusedVariables false
namespace Go.Proofs.YtciehcageghggaaDoor
open Go.RowKit CoBit

set_option maxRecDepth 100000 in
set_option maxHeartbeats 4000000 in
theorem cCheck_any (A : Option Addr) (m c : Nat) (n : Int) (es : List (Int × Int)) (A1 : Option Addr) (m1 c1 : Nat) (ns : List Int) (A2 : Option Addr) (m2 c2 : Nat) (o : List Int) (w : World) (hT : Tab w) (h : RE w A m es) (hm : m ≤ 68719476736)
    (h1 : RI w A1 m1 ns) (h2 : RI w A2 m2 o) (hmc : m2 ≤ c2) (hm2 : m2 ≤ 1099511627776) :
    Calls Tryd.prog 14 #[.agg #[.int .i64 n, .slice A m c], .slice A1 m1 c1, .slice A2 m2 c2] w fun e w' => ∃ x, e = .returned (.int .i64 x) ∧ IsChk n es ns o x ∧ Below w.heap.size w w' := by
  have ck := fun w h h2 => cLater_any A m c n es A2 m2 c2 o w h hm h2 hmc hm2
  have hnl := h1.len
  by_cases hz : errL n es o = 0
  · obtain ⟨hz', ho⟩ := errL_zero hz
    obtain ⟨z0, z1, _⟩ := chkG_zero hz'
    obtain ⟨n, rfl⟩ := Int.eq_ofNat_of_zero_le z0
    by_cases hln : m1 = n
    · refine (cchk_walk A m c n es A1 m1 c1 ns A2 m2 c2 o w hT h hm h1 h2 hmc hz' hln ho (by omega)).mono ?_
      rintro e w' ⟨x, rfl, hx, hb⟩
      refine ⟨x, rfl, ⟨fun h => absurd hz' h, fun _ hh => ?_, fun _ _ _ => hx⟩, hb⟩
      rcases hh with hh | hh
      · exact absurd (by rw [hnl, hln]) hh
      · exact absurd ho hh
    · have hdef : IsChk n es ns o 4 := ⟨fun h => absurd hz' h, fun _ _ => rfl, fun _ h _ => absurd h (by omega)⟩
      have q1 : ((m1 : Int) != (n : Int)) = true := by simp; omega
      rw [hz] at ck
      clear hz hln hz' ho
      replace hdef := Lib.hid hdef
      replace ck := Lib.hid ck
      replace hnl := Lib.hid hnl
      go_enter Tryd.func14, Tryd.ntmps14
      go_wp2_with fail
      refine (ck.out _ (h.alloc _) (h2.alloc _)).mono ?_
      rintro e w1 ⟨ls, ⟨A5, n5, c5, rfl, hn5, hr5, hb1, hf5⟩, hls⟩
      simp only [World.size_alloc] at hb1
      have hG : Blk w1 w.heap.size 28 #[.int .i64 n, .slice A m c] := Blk.below (Blk.new _ _ _) hb1 (by simp)
      have hb0 : Below w.heap.size w w1 := ((Below.refl _ _).alloc (Nat.le_refl _) _).trans (hb1.mono (by simp))
      have g0 := Blk.cell hG 0
      have g1 := Blk.cell hG 1
      simp at g0 g1
      clear hb1
      go_wp2_with fail
      go_ret
      exact ⟨4, rfl, hdef.out, hb0⟩
  · have hdef : IsChk n es ns o (errL n es o) := by
      unfold errL at hz ⊢
      by_cases hg : chkG n es = 0
      · rw [if_pos hg] at hz ⊢
        by_cases ho : OrdI o n
        · rw [if_pos ho] at hz; exact absurd rfl hz
        · rw [if_neg ho]
          exact ⟨fun h => absurd hg h, fun _ _ => rfl, fun _ _ h => absurd h ho⟩
      · rw [if_neg hg]
        exact ⟨fun _ => rfl, fun h => absurd h hg, fun h => absurd h hg⟩
    have hz' : (errL n es o != 0) = true := by simpa using hz
    clear hz
    generalize hzz : errL n es o = z at *
    replace hzz := Lib.hid hzz
    replace hdef := Lib.hid hdef
    replace ck := Lib.hid ck
    replace hnl := Lib.hid hnl
    go_enter Tryd.func14, Tryd.ntmps14
    go_wp2_with fail
    refine (ck.out _ (h.alloc _) (h2.alloc _)).mono ?_
    rintro e w1 ⟨ls, ⟨A5, n5, c5, rfl, hn5, hr5, hb1, hf5⟩, hls⟩
    simp only [World.size_alloc] at hb1
    have hb0 : Below w.heap.size w w1 := ((Below.refl _ _).alloc (Nat.le_refl _) _).trans (hb1.mono (by simp))
    clear hb1
    go_wp2
    go_ret
    exact ⟨z, rfl, hdef.out, hb0⟩
end Go.Proofs.YtciehcageghggaaDoor
