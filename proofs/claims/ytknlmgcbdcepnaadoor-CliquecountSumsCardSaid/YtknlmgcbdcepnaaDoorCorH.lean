/- Package core, eighth part: Numbers, Order, Degeneracy, Core. -/
import Derived.Test.YtknlmgcbdcepnaaDoorCorG
import Derived.Test.YtknlmgcbdcepnaaDoorRCoD
set_option linter.unusedVariables false
namespace Go.Proofs.YtknlmgcbdcepnaaDoor
open Go.RowKit CoBit

set_option maxRecDepth 100000 in
set_option maxHeartbeats 2000000 in
theorem cOrder_any (A : Option Addr) (m c : Nat) (n : Int) (es : List (Int × Int)) (w : World) (hT : Tab w) (h : RE w A m es) (hm : m ≤ 68719476736) :
    Calls Tryd.prog 55 #[.agg #[.int .i64 n, .slice A m c]] w fun e w' => ∃ o, RetL w o (chkG n es) e w' ∧ IsOrd n es o := by
  have ck := fun w h => gcheck_any A m c n es w h (by omega)
  by_cases hz : chkG n es = 0
  · obtain ⟨z0, z1, _⟩ := chkG_zero hz
    obtain ⟨n, rfl⟩ := Int.eq_ofNat_of_zero_le z0
    have hn : n ≤ 64 := by omega
    have hdef : ∀ l, PS (nbG n es) n l → l.length = n → IsOrd n es l := fun l h h2 => ⟨fun _ => ⟨h, h2⟩, fun h => absurd hz h⟩
    have hp := fun w hT h => peel_any A m c n es w hT h hm hn hz
    rw [hz] at ck ⊢
    clear hz
    replace hdef := Lib.hid hdef
    replace ck := Lib.hid ck
    replace hp := Lib.hid hp
    go_enter Tryd.func55, Tryd.ntmps55
    go_wp2_with fail
    refine (ck.out _ (h.alloc _)).mono ?_
    rintro e w1 ⟨rfl, hb1⟩
    simp only [World.size_alloc] at hb1
    have hG : Blk w1 w.heap.size 24 #[.int .i64 n, .slice A m c] := Blk.below (Blk.new _ _ _) hb1 (by simp)
    have hb0 : Below w.heap.size w w1 := ((Below.refl _ _).alloc (Nat.le_refl _) _).trans (hb1.mono (by simp))
    have g0 := Blk.cell hG 0
    have g1 := Blk.cell hG 1
    simp at g0 g1
    have hs0 := hb0.size
    clear hb1
    go_wp2_with fail
    refine (hp.out _ (hT.keep hb0) (RE.below h hb0 (Nat.le_refl _))).mono ?_
    rintro e w2 ⟨o, ns, A1, n1, c1, A2, n2, c2, rfl, hc1, hc2, hr1, hr2, hf1, hf2, hb2, hps, hol, _⟩
    have hfin : ∃ l, RetL w l 0 (.returned (.tuple #[.slice A1 n1 c1, .int .i64 0])) w2 ∧ IsOrd n es l := ⟨o, ⟨A1, n1, c1, rfl, hc1, hr1, hb0.trans (hb2.mono hs0), hf1.mono hs0⟩, hdef.out o hps hol⟩
    replace hfin := Lib.hid hfin
    clear g0 g1 hr1 hr2 hf1 hf2 hb2 hG hb0 hps hol
    go_wp2_with fail
    go_ret2
    exact hfin.out
  · have hdef : IsOrd n es [] := ⟨fun h => absurd h hz, fun _ => rfl⟩
    have hz' : (chkG n es != 0) = true := by simpa using hz
    clear hz
    generalize chkG n es = z at *
    replace hdef := Lib.hid hdef
    replace ck := Lib.hid ck
    go_enter Tryd.func55, Tryd.ntmps55
    go_wp2_with fail
    refine (ck.out _ (h.alloc _)).mono ?_
    rintro e w1 ⟨rfl, hb1⟩
    simp only [World.size_alloc] at hb1
    have hb0 : Below w.heap.size w w1 := ((Below.refl _ _).alloc (Nat.le_refl _) _).trans (hb1.mono (by simp))
    clear hb1
    go_wp2
    go_ret2
    exact ⟨[], ⟨none, 0, 0, rfl, Nat.le_refl _, RI.none_, hb0, Fr.none_⟩, hdef.out⟩
end Go.Proofs.YtknlmgcbdcepnaaDoor
