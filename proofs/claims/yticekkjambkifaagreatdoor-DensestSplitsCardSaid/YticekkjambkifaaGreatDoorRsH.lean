/- Reference 19: Loads, Bound of wrong splits. -/
import Derived.Test.YticekkjambkifaaGreatDoorRsG
import Derived.BigRegion
set_option linter.unusedVariables false
set_option linter.unusedSimpArgs false
namespace Go.Proofs.YticekkjambkifaaGreatDoor.Fl
open Go.RowKit Go.Proofs.YticekkjambkifaaGreatDoor CoBit CoRat Rt

set_option maxRecDepth 100000 in
set_option maxHeartbeats 2000000 in
theorem rloads_f (A : Option Addr) (m c : Nat) (n : Nat) (es : List (Int × Int)) (den : Int) (A1 : Option Addr) (k c1 : Nat) (ps : List Int) (w : World) (h : RE w A m es) (h1 : RI w A1 k ps) (hm : m ≤ 1000000) (hk : k ≤ 1000000) (hz : chkG n es = 0) (hF : ¬ FitS m den ps) :
    Calls Tryz.prog 17 #[.agg #[.int .i64 n, .slice A m c], .agg #[.int .i64 den, .slice A1 k c1]] w fun e w' => e = .returned (.tuple #[.slice none 0 0, .int .i64 4]) ∧ Below w.heap.size w w' := by
  have ck := fun w h => rcheck_any A m c n es w h (by omega)
  rw [hz] at ck
  replace ck := Lib.hid ck
  have ko := Lib.hid (fun w h => rones_any A m c (n : Int) es w h (by omega))
  have kr := fun A0 c0 w h0 h => rright_any A0 m c0 den A1 k c1 ps w h0 h (by omega) (by omega)
  rw [decide_eq_false hF] at kr
  replace kr := Lib.hid kr
  clear hz hF
  have B0 : Below w.heap.size w ((w.alloc (.cells #[.int .i64 n, .slice A m c] 24)).alloc (.cells #[.int .i64 den, .slice A1 k c1] 36)) := ((Below.refl _ w).alloc (Nat.le_refl _) _).alloc (by simp) _
  have G0 := (Blk.new w 24 #[.int .i64 n, .slice A m c]).alloc (.cells #[.int .i64 den, .slice A1 k c1] 36)
  have S0 : Blk ((w.alloc (.cells #[.int .i64 n, .slice A m c] 24)).alloc (.cells #[.int .i64 den, .slice A1 k c1] 36)) (w.heap.size + 1) 36 #[.int .i64 den, .slice A1 k c1] := Blk.new' _ _ _ (by simp)
  go_enter Tryz.func17, Tryz.ntmps17
  go_wp2_with fail
  refine (ck.out _ ((h.alloc _).alloc _)).mono ?_
  rintro e w1 ⟨rfl, hb1⟩
  have G1 := G0.below hb1 G0.lt
  have S1 := S0.below hb1 S0.lt
  have B1 := B0.trans (hb1.mono B0.size)
  have hE1 := h.below B1 (Nat.le_refl _)
  have hP1 := h1.below B1 (Nat.le_refl _)
  clear G0 S0 B0 hb1 ck h h1
  have g0 := Blk.cell G1 0
  have g1 := Blk.cell G1 1
  have s0 := Blk.cell S1 0
  have s1 := Blk.cell S1 1
  simp at g0 g1 s0 s1
  have gl := G1.lt
  have sl := S1.lt
  have kS : Hid (∀ w' : World, Below w1.heap.size w1 w' → w'.cell? ⟨w.heap.size, 0, none⟩ = some (.int .i64 n) ∧ w'.cell? ⟨w.heap.size, 1, none⟩ = some (.slice A m c) ∧ w'.cell? ⟨w.heap.size + 1, 0, none⟩ = some (.int .i64 den) ∧ w'.cell? ⟨w.heap.size + 1, 1, none⟩ = some (.slice A1 k c1)) := Lib.hid (fun w' hb => ⟨(hb.cell (p := ⟨w.heap.size, 0, none⟩) gl).trans g0, (hb.cell (p := ⟨w.heap.size, 1, none⟩) gl).trans g1, (hb.cell (p := ⟨w.heap.size + 1, 0, none⟩) sl).trans s0, (hb.cell (p := ⟨w.heap.size + 1, 1, none⟩) sl).trans s1⟩)
  have BN : Below w1.heap.size w1 w1.drew := (Below.refl w1.heap.size w1).drew
  go_upto_region 4 with fail
  clear g0 g1 s0 s1
  go_region_held3 (fun w' => w'.cell? ⟨w.heap.size, 0, none⟩ = some (.int .i64 n) ∧ w'.cell? ⟨w.heap.size, 1, none⟩ = some (.slice A m c) ∧ w'.cell? ⟨w.heap.size + 1, 0, none⟩ = some (.int .i64 den) ∧ w'.cell? ⟨w.heap.size + 1, 1, none⟩ = some (.slice A1 k c1))
    ((first | (with_reducible exact kS.out _ BN) | fail))
    ((first
      | (go_at_call 14; (with_reducible refine (ko.out _ (hE1.below BN (Nat.le_refl _))).mono ?_); rintro e w3 ⟨A3, n3, c3, rfl, hn3, hr3, hb3, hf3⟩
         replace BN := BN.trans (hb3.mono BN.size)
         obtain rfl : m = n3 := (by have := hr3.len; rw [List.length_replicate] at this; exact this))
      | (go_at_call 36; (with_reducible refine (kr.out A3 c3 _ hr3 (hP1.below BN (Nat.le_refl _))).mono ?_); rintro e w4 ⟨rfl, hb4⟩
         replace BN := BN.trans (hb4.mono BN.size))
      | fail))
  go_wp2_with fail
  go_ret2
  exact ⟨rfl, B1.trans (BN.mono B1.size)⟩
set_option maxRecDepth 100000 in
set_option maxHeartbeats 2000000 in
theorem rbound_f (A : Option Addr) (m c : Nat) (n : Nat) (es : List (Int × Int)) (den : Int) (A1 : Option Addr) (k c1 : Nat) (ps : List Int) (w : World) (h : RE w A m es) (h1 : RI w A1 k ps) (hm : m ≤ 1000000) (hk : k ≤ 1000000) (hz : chkG n es = 0) (hF : ¬ FitS m den ps) :
    Calls Tryz.prog 19 #[.agg #[.int .i64 n, .slice A m c], .agg #[.int .i64 den, .slice A1 k c1]] w fun e w' => e = .returned (.tuple #[.agg #[.int .i64 0, .int .i64 0], .int .i64 4]) ∧ Below w.heap.size w w' := by
  have kl := Lib.hid (fun w h h1 => rloads_f A m c n es den A1 k c1 ps w h h1 hm hk hz hF)
  clear hz hF
  have B0 : Below w.heap.size w (((w.alloc (.cells #[.int .i64 n, .slice A m c] 24)).alloc (.cells #[.int .i64 den, .slice A1 k c1] 36)).alloc (.cells #[.int .i64 0, .int .i64 0] 34)) := (((Below.refl _ w).alloc (Nat.le_refl _) _).alloc (by simp) _).alloc (by simp; omega) _
  have F0 : Blk (((w.alloc (.cells #[.int .i64 n, .slice A m c] 24)).alloc (.cells #[.int .i64 den, .slice A1 k c1] 36)).alloc (.cells #[.int .i64 0, .int .i64 0] 34)) (w.heap.size + 1 + 1) 34 #[.int .i64 0, .int .i64 0] := Blk.new' _ _ _ (by simp)
  go_enter Tryz.func19, Tryz.ntmps19
  go_wp2_with fail
  refine (kl.out _ (((h.alloc _).alloc _).alloc _) (((h1.alloc _).alloc _).alloc _)).mono ?_
  rintro e w1 ⟨rfl, hb1⟩
  have F1 := F0.below hb1 F0.lt
  have B1 := B0.trans (hb1.mono B0.size)
  have z1 : w.heap.size + 1 + 1 < w1.heap.size := F1.lt
  clear F0 B0 hb1 kl h h1
  have y0 := Blk.cell F1 0
  have y1 := Blk.cell F1 1
  have f0 := Blk.frozen F1 0
  have f1 := Blk.frozen F1 1
  simp at y0 y1
  have hzz := Blk.set (Blk.set F1 0 (.int .i64 0)) 1 (.int .i64 0)
  have e0 := Blk.cell hzz 0
  have e1 := Blk.cell hzz 1
  simp at e0 e1
  have hbz := B1.grown (grown_set (grown_set (World.grownBy.refl w1 (some (w.heap.size + 1 + 1))) 0 (.int .i64 0)) 1 (.int .i64 0)) B1.size (fun k hk => by injection hk with hk; omega)
  clear hzz F1 B1
  go_wp2_with fail
  refine bodyPost_ret (v := .tuple #[.agg #[.int .i64 0, .int .i64 0], .int .i64 4]) (by simp [results, Tryz.results19, go_sem, e0, e1]) rfl ?_
  exact ⟨rfl, hbz⟩
end Go.Proofs.YticekkjambkifaaGreatDoor.Fl
