/- The reference's graphs (cohesionref03): Add. -/
import Derived.Test.YtknlmgcbdcepnaaDoorGrfC
set_option linter.unusedVariables false
set_option linter.unusedSimpArgs false
namespace Go.Proofs.YtknlmgcbdcepnaaDoor
open Go.RowKit

/-- The error of Add to a graph that is valid. -/
def errA (n : Int) (es : List (Int × Int)) (u v : Int) : Int := if endsB n u v = false then 6 else if 0 ≤ rfnd n es u v then 15 else 0

set_option maxRecDepth 100000 in
set_option maxHeartbeats 4000000 in
theorem radd_any (A : Option Addr) (m c : Nat) (n : Int) (es : List (Int × Int)) (u v : Int) (w : World) (h : RE w A m es) (hmc : m ≤ c) (hm : m ≤ 1073741824) (hz : chkG n es = 0) :
    Calls Tryd.prog 18 #[.agg #[.int .i64 n, .slice A m c], .int .i64 u, .int .i64 v] w (RetGE w (if errA n es u v = 0 then n else 0) (if errA n es u v = 0 then withL es (edgeP u v) else []) (errA n es u v)) := by
  have k1 := fun w h => rcheck_any A m c n es w h (by omega)
  have k2 := fun w => ends_any n u v w
  have k3 := fun w h => rfind_any A m c n es u v w h (by omega)
  rw [hz] at k1
  replace k1 := Lib.hid k1
  have hlen := with_length es (edgeP u v)
  rw [h.len] at hlen
  have ke := fun w => edge_any u v w
  have kw := fun w h => with_any A m c es (edgeP u v).1 (edgeP u v).2 w h hmc (by omega)
  have hep : ((edgeP u v).1, (edgeP u v).2) = edgeP u v := rfl
  rw [hep] at kw
  clear hep
  by_cases he : endsB n u v = true
  · by_cases hf : 0 ≤ rfnd n es u v
    · have hv : errA n es u v = 15 := by unfold errA; rw [if_neg (by simp [he]), if_pos hf]
      rw [hv]
      simp only [show ¬ ((15 : Int) = 0) by omega, if_false]
      rw [he] at k2
      generalize rfnd n es u v = qf at *
      replace k2 := Lib.hid k2
      replace k3 := Lib.hid k3
      clear hz he hv ke kw
      go_enter Tryd.func18, Tryd.ntmps18
      go_wp2_with fail
      refine (k1.out _ ((h.alloc _).alloc _)).mono ?_
      rintro e w1 ⟨rfl, hb1⟩
      have G1 : Blk w1 w.heap.size 24 #[.int .i64 n, .slice A m c] := Blk.below (Blk.alloc (Blk.new _ _ _) _) hb1 (by simp; omega)
      have R1 : Blk w1 (w.heap.size + 1) 24 #[.int .i64 0, .slice none 0 0] := Blk.below (Blk.new' _ _ _ (by simp)) hb1 (by simp)
      have hb0 : Below w.heap.size w w1 := (((Below.refl _ _).alloc (Nat.le_refl _) _).alloc (by simp) _).trans (hb1.mono (by simp; omega))
      have hr1 := RE.below h hb0 (Nat.le_refl _)
      clear hb1 k1
      have c10 := Blk.cell G1 0
      have c11 := Blk.cell G1 1
      simp at c10 c11
      go_wp2_with fail
      refine (k2.out _).mono ?_
      rintro e w2 ⟨rfl, rfl⟩
      go_wp2_with fail
      refine (k3.out _ hr1).mono ?_
      rintro e w3 ⟨rfl, hb3⟩
      have R3 := R1.below hb3 R1.lt
      have hb03 := hb0.trans (hb3.mono hb0.size)
      clear hb3 hb0 G1 R1 c10 c11 hr1 k2 k3
      have r0 := Blk.cell R3 0
      have r1 := Blk.cell R3 1
      simp at r0 r1
      have f0 := Blk.frozen R3 0
      have f1 := Blk.frozen R3 1
      have R5 := Blk.set (Blk.set R3 0 (.int .i64 0)) 1 (.slice none 0 0)
      simp at R5
      have s0 := Blk.cell R5 0
      have s1 := Blk.cell R5 1
      simp at s0 s1
      have hb5 := (hb03.setCell (p := ⟨w.heap.size + 1, 0, none⟩) (by simp) (.int .i64 0)).setCell (p := ⟨w.heap.size + 1, 1, none⟩) (by simp) (.slice none 0 0)
      clear R5 R3 hb03
      go_wp2_with fail
      refine bodyPost_ret (v := .tuple #[.agg #[.int .i64 0, .slice none 0 0], .int .i64 15]) (by simp [results, Tryd.results18, go_sem, s0, s1]) rfl ?_
      exact ⟨none, 0, 0, rfl, Nat.le_refl _, RE.none_, hb5, Fr.none_⟩
    · have hv : errA n es u v = 0 := by unfold errA; rw [if_neg (by simp [he]), if_neg hf]
      rw [hv, if_pos rfl, if_pos rfl]
      rw [he] at k2
      generalize rfnd n es u v = qf at *
      have hqd : decide (0 ≤ qf) = false := by simp; omega
      generalize withL es (edgeP u v) = L at *
      generalize (edgeP u v).1 = a at *
      generalize (edgeP u v).2 = b at *
      replace k2 := Lib.hid k2
      replace k3 := Lib.hid k3
      replace ke := Lib.hid ke
      replace kw := Lib.hid kw
      clear hz he hv hf
      obtain ⟨i0, hi0, hz0, hz1, hz2⟩ := info_parts edge_info
      go_enter Tryd.func18, Tryd.ntmps18
      go_wp2_with fail
      refine (k1.out _ ((h.alloc _).alloc _)).mono ?_
      rintro e w1 ⟨rfl, hb1⟩
      have G1 : Blk w1 w.heap.size 24 #[.int .i64 n, .slice A m c] := Blk.below (Blk.alloc (Blk.new _ _ _) _) hb1 (by simp; omega)
      have R1 : Blk w1 (w.heap.size + 1) 24 #[.int .i64 0, .slice none 0 0] := Blk.below (Blk.new' _ _ _ (by simp)) hb1 (by simp)
      have hb0 : Below w.heap.size w w1 := (((Below.refl _ _).alloc (Nat.le_refl _) _).alloc (by simp) _).trans (hb1.mono (by simp; omega))
      have hr1 := RE.below h hb0 (Nat.le_refl _)
      clear hb1 k1
      have c10 := Blk.cell G1 0
      have c11 := Blk.cell G1 1
      simp at c10 c11
      go_wp2_with fail
      refine (k2.out _).mono ?_
      rintro e w2 ⟨rfl, rfl⟩
      go_wp2_with fail
      refine (k3.out _ hr1).mono ?_
      rintro e w3 ⟨rfl, hb3⟩
      have G3 := G1.below hb3 G1.lt
      have R3 := R1.below hb3 R1.lt
      have hb03 := hb0.trans (hb3.mono hb0.size)
      have hr3 := RE.below h hb03 (Nat.le_refl _)
      clear hb3 hb0 G1 R1 c10 c11 hr1 k2 k3
      have g0 := Blk.cell G3 0
      have g1 := Blk.cell G3 1
      simp at g0 g1
      have hgl := G3.lt
      have hRl := R3.lt
      have BN : Below w3.heap.size w3 w3 := Below.refl _ _
      have hs3 := hb03.size
      have hnn : ∀ i j : Nat, (⟨w.heap.size + 1, i, none⟩ : Addr) ≠ ⟨w.heap.size, j, none⟩ := fun i j e => by injection e with e; omega
      replace hnn := Lib.hid hnn
      go_wp2_with fail
      go_region_held3 (fun w' => w'.cell? ⟨w.heap.size, 0, none⟩ = some (.int .i64 n) ∧ w'.cell? ⟨w.heap.size, 1, none⟩ = some (.slice A m c))
        ((first
          | (exact ⟨(World.cell?_setCell_other _ _ _ _ (hnn.out _ _)).trans ((World.cell?_setCell_other _ _ _ _ (hnn.out _ _)).trans ((BN.cell (p := ⟨w.heap.size, 0, none⟩) hgl).trans g0)), (World.cell?_setCell_other _ _ _ _ (hnn.out _ _)).trans ((World.cell?_setCell_other _ _ _ _ (hnn.out _ _)).trans ((BN.cell (p := ⟨w.heap.size, 1, none⟩) hgl).trans g1))⟩)
          | (exact ⟨(BN.cell (p := ⟨w.heap.size, 0, none⟩) hgl).trans g0, (BN.cell (p := ⟨w.heap.size, 1, none⟩) hgl).trans g1⟩) | ((repeat' apply And.intro) <;> (go_keep; done))))
        ((first
          | (go_at_call 49; (with_reducible refine (ke.out _).mono ?_); rintro e w4 ⟨rfl, hb4⟩; replace BN : Below w3.heap.size w3 w4 := (by first | exact below_call BN hb4 | exact below_call BN.drew hb4))
          | (go_at_call 50; (with_reducible refine (kw.out _ (hr3.below BN (Nat.le_refl _))).mono ?_); rintro e w5 ⟨A5, n5, c5, rfl, hc5, hr5, hb5, hf5⟩; replace BN : Below w3.heap.size w3 w5 := below_call BN hb5)
          | (refine step_append_any _ (by rfl) (.const (.slice none 0 0)) (.tmp 35) 22 (by rfl) w3.heap.size 59 i0 _ 2 16 Tryd.underlying22 hi0 hz0 hz1 hz2 rfl (by omega) (.slice none 0 0) 0 [] (by rfl) (World.ownsRow_nil _ _ _ _) _ A5 n5 c5 (edgs L) (by rfl) hr5 (edgs_one _) (by have := hr5.len; unfold maxLen; omega) (by have := hr5.len; omega) BN.size ?_; intro v6 w6 hown6 hg6 hat6; replace BN : Below w3.heap.size w3 w6 := below_own BN hg6 BN.size (fun k hk => by simp [Value.ownBlock] at hk);
             have R6 := R3.below BN hRl; have r0 := Blk.cell R6 0; have r1 := Blk.cell R6 1; simp at r0 r1; have f0 := Blk.frozen R6 0; have f1 := Blk.frozen R6 1; obtain ⟨A6, c6, rfl, hc6, hm6⟩ := own_form hown6)))
      have hA6 : OE w6 w3.heap.size (.slice A6 (0 + n5) c6) L := by
        unfold OE
        have hl5 := hr5.len
        rw [hl5]
        simpa using hown6
      have ho5 := (hA6.set_far (p := ⟨w.heap.size + 1, 0, none⟩) (by simp; omega) (.int .i64 n)).set_far (p := ⟨w.heap.size + 1, 1, none⟩) (by simp; omega) (.slice A6 (0 + n5) c6)
      obtain ⟨hr6, _, hf6⟩ := ho5.re (by have := hr5.len; omega)
      have R7 := Blk.set (Blk.set R6 0 (.int .i64 n)) 1 (.slice A6 (0 + n5) c6)
      simp only [Nat.zero_add] at R7 hr6 hf6 hc6
      simp at R7
      have s0 := Blk.cell R7 0
      have s1 := Blk.cell R7 1
      simp at s0 s1
      have hb7 := ((hb03.trans (BN.mono hs3)).setCell (p := ⟨w.heap.size + 1, 0, none⟩) (by simp) (.int .i64 n)).setCell (p := ⟨w.heap.size + 1, 1, none⟩) (by simp) (.slice A6 n5 c6)
      have hfin : RetGE w n L 0 (.returned (.tuple #[.agg #[.int .i64 n, .slice A6 n5 c6], .int .i64 0])) ((w6.setCell ⟨w.heap.size + 1, 0, none⟩ (.int .i64 n)).setCell ⟨w.heap.size + 1, 1, none⟩ (.slice A6 n5 c6)) :=
        ⟨A6, n5, c6, rfl, hc6, hr6, hb7, hf6.mono hs3⟩
      replace hfin := Lib.hid hfin
      clear hA6 ho5 hr6 hf6 R7 hb7 R6 hown6 hg6 hat6 r0 r1 f0 f1
      go_wp2_with fail
      refine bodyPost_ret (v := .tuple #[.agg #[.int .i64 n, .slice A6 n5 c6], .int .i64 0]) (by simp [results, Tryd.results18, go_sem, s0, s1]) rfl ?_
      exact hfin.out
  · have he : endsB n u v = false := by simpa using he
    have hv : errA n es u v = 6 := by unfold errA; rw [if_pos he]
    rw [hv]
    simp only [show ¬ ((6 : Int) = 0) by omega, if_false]
    rw [he] at k2
    replace k2 := Lib.hid k2
    clear k3
    clear hz he hv ke kw
    go_enter Tryd.func18, Tryd.ntmps18
    go_wp2_with fail
    refine (k1.out _ ((h.alloc _).alloc _)).mono ?_
    rintro e w1 ⟨rfl, hb1⟩
    have G1 : Blk w1 w.heap.size 24 #[.int .i64 n, .slice A m c] := Blk.below (Blk.alloc (Blk.new _ _ _) _) hb1 (by simp; omega)
    have R1 : Blk w1 (w.heap.size + 1) 24 #[.int .i64 0, .slice none 0 0] := Blk.below (Blk.new' _ _ _ (by simp)) hb1 (by simp)
    have hb0 : Below w.heap.size w w1 := (((Below.refl _ _).alloc (Nat.le_refl _) _).alloc (by simp) _).trans (hb1.mono (by simp; omega))
    have hr1 := RE.below h hb0 (Nat.le_refl _)
    clear hb1 k1
    have c10 := Blk.cell G1 0
    have c11 := Blk.cell G1 1
    simp at c10 c11
    go_wp2_with fail
    refine (k2.out _).mono ?_
    rintro e w2 ⟨rfl, rfl⟩
    have R3 := R1
    have hb03 := hb0
    clear hb0 G1 R1 c10 c11 hr1 k2
    have r0 := Blk.cell R3 0
    have r1 := Blk.cell R3 1
    simp at r0 r1
    have f0 := Blk.frozen R3 0
    have f1 := Blk.frozen R3 1
    have R5 := Blk.set (Blk.set R3 0 (.int .i64 0)) 1 (.slice none 0 0)
    simp at R5
    have s0 := Blk.cell R5 0
    have s1 := Blk.cell R5 1
    simp at s0 s1
    have hb5 := (hb03.setCell (p := ⟨w.heap.size + 1, 0, none⟩) (by simp) (.int .i64 0)).setCell (p := ⟨w.heap.size + 1, 1, none⟩) (by simp) (.slice none 0 0)
    clear R5 R3 hb03
    go_wp2_with fail
    refine bodyPost_ret (v := .tuple #[.agg #[.int .i64 0, .slice none 0 0], .int .i64 6]) (by simp [results, Tryd.results18, go_sem, s0, s1]) rfl ?_
    exact ⟨none, 0, 0, rfl, Nat.le_refl _, RE.none_, hb5, Fr.none_⟩
end Go.Proofs.YtknlmgcbdcepnaaDoor
