/- levels.outer: the walk (printed by genOutB.py). -/
import Derived.Test.YticekkjambkifaaDoorOutA
set_option linter.unusedVariables false
set_option linter.unusedSimpArgs false
namespace Go.Proofs.YticekkjambkifaaDoor.Fl
open Go.RowKit Go.Proofs.YticekkjambkifaaDoor CoBit CoRat Rt

theorem grown_setO {w W : World} {g : Nat} (h : w.grownBy W (some g)) (i : Nat) (y : Value) : w.grownBy (W.setCell ⟨g, i, none⟩ y) (some g) := by
  have s := Same.set W g i y
  exact grown_trans h ⟨s.os, s.tape, s.output, s.size, fun k hk hne => s.block k hk (fun e => hne (by rw [e]))⟩
theorem offM_eq {n i : Nat} (hn : n ≤ 64) (hi : i < 18446744073709551616) : allM n &&& (18446744073709551615 - i) = offM n i := Nat.eq_of_testBit_eq fun v => by
  rw [Nat.testBit_and, offM_bit, allM_bit, show 18446744073709551615 - i = 2 ^ 64 - (i + 1) by omega, Nat.testBit_two_pow_sub_succ (by omega)]
  by_cases h : v < n
  · rw [decide_eq_true h, decide_eq_true (show v < 64 by omega)]; simp
  · rw [decide_eq_false h]; simp
/-- The problem of the nodes outside an inner set. -/
def RetOut (w : World) (n : Nat) (es : List (Int × Int)) (i : Nat) (e : Ending) (w' : World) : Prop := ∃ (EA WA BA CA : Option Addr) (ec wc bc cc : Nat), e = .returned (.agg #[.slice EA (outE es i).length ec, .slice WA (outE es i).length wc, .slice BA n bc, .slice CA n cc, .int .u64 (offM n i : Nat), .int .u64 0]) ∧ RE w' EA (outE es i).length (outE es i) ∧ RI w' WA (outE es i).length (List.replicate (outE es i).length 1) ∧ RI w' BA n (nts (bsO n es i)) ∧ RI w' CA n (List.replicate n 1) ∧ Below w.heap.size w w'
/-- The problem while it is made. -/
structure OuB (W wx : World) (n F x gb : Nat) : Prop where
  p : Blk wx x 114 #[.slice none 0 0, .slice none 0 0, .slice (some ⟨gb, 0, none⟩) n n, .slice none 0 0, .int .u64 (F : Nat), .int .u64 0]
  b : AI wx gb (List.replicate n 0)
  bel : Below W.heap.size W wx
  lo : W.heap.size ≤ x ∧ W.heap.size ≤ gb ∧ x ≠ gb
set_option maxRecDepth 100000 in
set_option maxHeartbeats 16000000 in
theorem outer_any (A : Option Addr) (m c n : Nat) (es : List (Int × Int)) (inn : Nat) (w : World) (h : RE w A m es) (hm : m ≤ 4096) (hz : chkG n es = 0) (hn : n ≤ 64) (hi : inn < 18446744073709551616) :
    Calls Tryd.prog 121 #[.agg #[.int .i64 (n : Nat), .slice A m c], .int .u64 (inn : Nat)] w (RetOut w n es inn) := by
  have hlt := Lib.hid (chkE_lt (chkG_zero hz).2.2)
  have hel := Lib.hid h.len
  obtain ⟨Fm, hF0, hF1, hF2⟩ := make_I n (by omega)
  obtain ⟨W, hW0⟩ : ∃ W, W = (w.alloc (.cells #[.int .i64 (n : Nat), .slice A m c] 25)).alloc (.cells #[.slice none 0 0, .slice none 0 0, .slice none 0 0, .slice none 0 0, .int .u64 0, .int .u64 0] 114) := ⟨_, rfl⟩
  have bG : Blk W w.heap.size 25 #[.int .i64 (n : Nat), .slice A m c] := by rw [hW0]; exact (Blk.new' _ _ _ rfl).alloc _
  have bR : Blk W (w.heap.size + 1) 114 #[.slice none 0 0, .slice none 0 0, .slice none 0 0, .slice none 0 0, .int .u64 0, .int .u64 0] := by rw [hW0]; exact Blk.new' _ _ _ (by simp)
  have BW : Below w.heap.size w W := by rw [hW0]; exact ((Below.refl _ w).alloc (Nat.le_refl _) _).alloc (by simp) _
  have hWs : W.heap.size = w.heap.size + 2 := by rw [hW0]; simp
  have ka := Lib.hid (fun w => (all_any n hn w).mono (fun (e : Ending) (w' : World) (h : e = .returned (.int .u64 (allM n : Nat)) ∧ w = w') => (⟨h.1, h.2.symm⟩ : e = .returned (.int .u64 (allM n : Nat)) ∧ w' = w)))
  have hM64 : allM n < 18446744073709551616 := by
    unfold allM
    have := Nat.pow_le_pow_right (n := 2) (by omega) hn
    rw [show (2 : Nat) ^ 64 = 18446744073709551616 by decide +kernel] at this
    have := Nat.two_pow_pos n
    omega
  have ea := u64_andNot_nat (allM n) inn hM64 hi
  rw [offM_eq hn hi] at ea
  unfold RetOut
  obtain ⟨F, hF⟩ : ∃ F, F = offM n inn := ⟨_, rfl⟩
  rw [← hF] at ea ⊢
  clear hF
  generalize allM n = M at *
  replace bR := Lib.hid bR
  replace BW := Lib.hid BW
  replace hWs := Lib.hid hWs
  replace hW0 := Lib.hid hW0
  replace h := Lib.hid h
  replace hz := Lib.hid hz
  go_enter Tryd.func121, Tryd.ntmps121
  go_upto_region 1 with fail
  rw [← hW0.out]
  clear hW0
  have c0 : W.drew.cell? ⟨w.heap.size, 0, none⟩ = some (.int .i64 (n : Nat)) := by have := Blk.cell bG 0; simpa using this
  go_cut [5] (fun v wx => ∃ x gb : Nat, v = .pointer (some ⟨x, 0, none⟩) ∧ OuB W wx n F x gb)
  case first =>
    have q0 := kept_none (hF2 W.drew) c0
    have o0 : (W.alloc (.cells #[.slice none 0 0, .slice none 0 0, .slice none 0 0, .slice none 0 0, .int .u64 0, .int .u64 0] 114)).drew.cell? ⟨w.heap.size, 0, none⟩ = some (.int .i64 (n : Nat)) := kept_alloc c0 (.cells #[.slice none 0 0, .slice none 0 0, .slice none 0 0, .slice none 0 0, .int .u64 0, .int .u64 0] 114)
    have bz := Blk.new W.drew 114 #[.slice none 0 0, .slice none 0 0, .slice none 0 0, .slice none 0 0, .int .u64 0, .int .u64 0]
    have r0 : (Fm (W.alloc (.cells #[.slice none 0 0, .slice none 0 0, .slice none 0 0, .slice none 0 0, .int .u64 0, .int .u64 0] 114)).drew).cell? ⟨w.heap.size, 0, none⟩ = some (.int .i64 (n : Nat)) := kept_none (hF2 (W.drew.alloc (.cells #[.slice none 0 0, .slice none 0 0, .slice none 0 0, .slice none 0 0, .int .u64 0, .int .u64 0] 114))) o0
    have s0 : ((Fm W.drew).alloc (.cells #[.slice none 0 0, .slice none 0 0, .slice none 0 0, .slice none 0 0, .int .u64 0, .int .u64 0] 114)).cell? ⟨w.heap.size, 0, none⟩ = some (.int .i64 (n : Nat)) := kept_alloc q0 (.cells #[.slice none 0 0, .slice none 0 0, .slice none 0 0, .slice none 0 0, .int .u64 0, .int .u64 0] 114)
    have bz2 : Blk (Fm (W.alloc (.cells #[.slice none 0 0, .slice none 0 0, .slice none 0 0, .slice none 0 0, .int .u64 0, .int .u64 0] 114)).drew) W.heap.size 114 #[.slice none 0 0, .slice none 0 0, .slice none 0 0, .slice none 0 0, .int .u64 0, .int .u64 0] := Blk.grown bz (hF2 (W.drew.alloc (.cells #[.slice none 0 0, .slice none 0 0, .slice none 0 0, .slice none 0 0, .int .u64 0, .int .u64 0] 114))) (by simp)
    have f0 : (Fm (W.alloc (.cells #[.slice none 0 0, .slice none 0 0, .slice none 0 0, .slice none 0 0, .int .u64 0, .int .u64 0] 114)).drew).frozen? ⟨W.heap.size, 0, none⟩ = false := Blk.frozen bz2 0
    have z0 : (Fm (W.alloc (.cells #[.slice none 0 0, .slice none 0 0, .slice none 0 0, .slice none 0 0, .int .u64 0, .int .u64 0] 114)).drew).cell? ⟨W.heap.size, 0, none⟩ = some (.slice none 0 0) := Blk.cell bz2 0
    have f1 : (Fm (W.alloc (.cells #[.slice none 0 0, .slice none 0 0, .slice none 0 0, .slice none 0 0, .int .u64 0, .int .u64 0] 114)).drew).frozen? ⟨W.heap.size, 1, none⟩ = false := Blk.frozen bz2 1
    have z1 : (Fm (W.alloc (.cells #[.slice none 0 0, .slice none 0 0, .slice none 0 0, .slice none 0 0, .int .u64 0, .int .u64 0] 114)).drew).cell? ⟨W.heap.size, 1, none⟩ = some (.slice none 0 0) := Blk.cell bz2 1
    have f2 : (Fm (W.alloc (.cells #[.slice none 0 0, .slice none 0 0, .slice none 0 0, .slice none 0 0, .int .u64 0, .int .u64 0] 114)).drew).frozen? ⟨W.heap.size, 2, none⟩ = false := Blk.frozen bz2 2
    have z2 : (Fm (W.alloc (.cells #[.slice none 0 0, .slice none 0 0, .slice none 0 0, .slice none 0 0, .int .u64 0, .int .u64 0] 114)).drew).cell? ⟨W.heap.size, 2, none⟩ = some (.slice none 0 0) := Blk.cell bz2 2
    have f3 : (Fm (W.alloc (.cells #[.slice none 0 0, .slice none 0 0, .slice none 0 0, .slice none 0 0, .int .u64 0, .int .u64 0] 114)).drew).frozen? ⟨W.heap.size, 3, none⟩ = false := Blk.frozen bz2 3
    have z3 : (Fm (W.alloc (.cells #[.slice none 0 0, .slice none 0 0, .slice none 0 0, .slice none 0 0, .int .u64 0, .int .u64 0] 114)).drew).cell? ⟨W.heap.size, 3, none⟩ = some (.slice none 0 0) := Blk.cell bz2 3
    have f4 : (Fm (W.alloc (.cells #[.slice none 0 0, .slice none 0 0, .slice none 0 0, .slice none 0 0, .int .u64 0, .int .u64 0] 114)).drew).frozen? ⟨W.heap.size, 4, none⟩ = false := Blk.frozen bz2 4
    have z4 : (Fm (W.alloc (.cells #[.slice none 0 0, .slice none 0 0, .slice none 0 0, .slice none 0 0, .int .u64 0, .int .u64 0] 114)).drew).cell? ⟨W.heap.size, 4, none⟩ = some (.int .u64 0) := Blk.cell bz2 4
    have f5 : (Fm (W.alloc (.cells #[.slice none 0 0, .slice none 0 0, .slice none 0 0, .slice none 0 0, .int .u64 0, .int .u64 0] 114)).drew).frozen? ⟨W.heap.size, 5, none⟩ = false := Blk.frozen bz2 5
    have z5 : (Fm (W.alloc (.cells #[.slice none 0 0, .slice none 0 0, .slice none 0 0, .slice none 0 0, .int .u64 0, .int .u64 0] 114)).drew).cell? ⟨W.heap.size, 5, none⟩ = some (.int .u64 0) := Blk.cell bz2 5
    have wne : w.heap.size ≠ W.heap.size := by have := hWs.out; omega
    have far : ∀ (wx : World) (i : Nat) (u : Value) (o : Nat) (v : Value), wx.cell? ⟨w.heap.size, o, none⟩ = some v → (wx.setCell ⟨W.heap.size, i, none⟩ u).cell? ⟨w.heap.size, o, none⟩ = some v := fun wx i u o v hv => (World.cell?_setCell_other wx ⟨W.heap.size, i, none⟩ ⟨w.heap.size, o, none⟩ u (fun e => wne (by injection e with e _ _; first | exact e | exact e.symm))).trans hv
    have TA : Hid (OuB W ((Fm W.drew).alloc (.cells #[.slice none 0 0, .slice none 0 0, .slice (some ⟨W.heap.size, 0, none⟩) n n, .slice none 0 0, .int .u64 (F : Nat), .int .u64 0] 114)) n F (Fm W.drew).heap.size W.heap.size) := Lib.hid (by
      have hbl : Below W.heap.size W (Fm W.drew) := ((Below.refl W.heap.size W).drew).trans (grown_none_below (hF2 W.drew) W.heap.size (Nat.le_refl _))
      have hlt : W.heap.size < (Fm W.drew).heap.size := (hF1 W.drew).lt
      exact ⟨Blk.new _ _ _, (hF1 W.drew).alloc _, hbl.alloc hbl.size _, hbl.size, Nat.le_refl _, by omega⟩)
    have TB : Hid (OuB W (((((((Fm (W.alloc (.cells #[.slice none 0 0, .slice none 0 0, .slice none 0 0, .slice none 0 0, .int .u64 0, .int .u64 0] 114)).drew).setCell ⟨W.heap.size, 0, none⟩ (.slice none 0 0)).setCell ⟨W.heap.size, 1, none⟩ (.slice none 0 0)).setCell ⟨W.heap.size, 2, none⟩ (.slice (some ⟨W.heap.size + 1, 0, none⟩) n n)).setCell ⟨W.heap.size, 3, none⟩ (.slice none 0 0)).setCell ⟨W.heap.size, 4, none⟩ (.int .u64 (F : Nat))).setCell ⟨W.heap.size, 5, none⟩ (.int .u64 0)) n F W.heap.size (W.heap.size + 1)) := Lib.hid (by
      have hz : (W.alloc (.cells #[.slice none 0 0, .slice none 0 0, .slice none 0 0, .slice none 0 0, .int .u64 0, .int .u64 0] 114)).drew.heap.size = W.heap.size + 1 := by simp
      have hab : Blk (Fm (W.alloc (.cells #[.slice none 0 0, .slice none 0 0, .slice none 0 0, .slice none 0 0, .int .u64 0, .int .u64 0] 114)).drew) (W.heap.size + 1) 3 (ints (List.replicate n 0)).toArray := by
        have := hF1 (W.alloc (.cells #[.slice none 0 0, .slice none 0 0, .slice none 0 0, .slice none 0 0, .int .u64 0, .int .u64 0] 114)).drew
        rw [hz] at this; exact this
      have hbb : Below W.heap.size W (Fm (W.alloc (.cells #[.slice none 0 0, .slice none 0 0, .slice none 0 0, .slice none 0 0, .int .u64 0, .int .u64 0] 114)).drew) := (((Below.refl W.heap.size W).alloc (Nat.le_refl _) (.cells #[.slice none 0 0, .slice none 0 0, .slice none 0 0, .slice none 0 0, .int .u64 0, .int .u64 0] 114)).drew).trans (grown_none_below (hF2 (W.alloc (.cells #[.slice none 0 0, .slice none 0 0, .slice none 0 0, .slice none 0 0, .int .u64 0, .int .u64 0] 114)).drew) W.heap.size (by simp))
      refine ⟨?_, (Blk.far (Blk.far (Blk.far (Blk.far (Blk.far (Blk.far hab (p := ⟨W.heap.size, 0, none⟩) (show W.heap.size + 1 ≠ W.heap.size by omega) (.slice none 0 0)) (p := ⟨W.heap.size, 1, none⟩) (show W.heap.size + 1 ≠ W.heap.size by omega) (.slice none 0 0)) (p := ⟨W.heap.size, 2, none⟩) (show W.heap.size + 1 ≠ W.heap.size by omega) (.slice (some ⟨W.heap.size + 1, 0, none⟩) n n)) (p := ⟨W.heap.size, 3, none⟩) (show W.heap.size + 1 ≠ W.heap.size by omega) (.slice none 0 0)) (p := ⟨W.heap.size, 4, none⟩) (show W.heap.size + 1 ≠ W.heap.size by omega) (.int .u64 (F : Nat))) (p := ⟨W.heap.size, 5, none⟩) (show W.heap.size + 1 ≠ W.heap.size by omega) (.int .u64 0)), ((((((hbb.setCell (p := ⟨W.heap.size, 0, none⟩) (Nat.le_refl _) (.slice none 0 0)).setCell (p := ⟨W.heap.size, 1, none⟩) (Nat.le_refl _) (.slice none 0 0)).setCell (p := ⟨W.heap.size, 2, none⟩) (Nat.le_refl _) (.slice (some ⟨W.heap.size + 1, 0, none⟩) n n)).setCell (p := ⟨W.heap.size, 3, none⟩) (Nat.le_refl _) (.slice none 0 0)).setCell (p := ⟨W.heap.size, 4, none⟩) (Nat.le_refl _) (.int .u64 (F : Nat))).setCell (p := ⟨W.heap.size, 5, none⟩) (Nat.le_refl _) (.int .u64 0)), Nat.le_refl _, Nat.le_succ _, by omega⟩
      have := (Blk.set (Blk.set (Blk.set (Blk.set (Blk.set (Blk.set bz2 0 (.slice none 0 0)) 1 (.slice none 0 0)) 2 (.slice (some ⟨W.heap.size + 1, 0, none⟩) n n)) 3 (.slice none 0 0)) 4 (.int .u64 (F : Nat))) 5 (.int .u64 0))
      simpa using this)
    go_loud (go_region_held3 (fun w' => w'.cell? ⟨w.heap.size, 0, none⟩ = some (.int .i64 (n : Nat)))
      ((first | (with_reducible exact c0) | (with_reducible exact q0) | (with_reducible exact o0) | (with_reducible exact r0) | (with_reducible exact s0) | (with_reducible exact kept_alloc q0 _) | (with_reducible exact (far _ _ _ _ _ (far _ _ _ _ _ (far _ _ _ _ _ (far _ _ _ _ _ (far _ _ _ _ _ (far _ _ _ _ _ r0))))))) | fail))
      ((first
        | (go_at_call 94; (with_reducible refine (ka.out _).mono ?_); rintro e wq ⟨rfl, hq⟩; obtain rfl := hq.symm)
        | fail)))
    all_goals go_wp2_with fail
    all_goals go_meet
    all_goals (first | (with_reducible exact ⟨_, _, rfl, TA.out⟩) | (with_reducible exact ⟨_, _, rfl, TB.out⟩))
  case rest =>
    obtain ⟨x, gb, rfl, hPl⟩ := hcut
    obtain ⟨hp, hbz, hbel, hlo1, hlo2, hxg⟩ := hPl
    have hxs := hp.lt
    have hgs := hbz.lt
    have bG2 := bG.below hbel bG.lt
    have c2 := Blk.cell bG2 0
    have c3 := Blk.cell bG2 1
    simp at c2 c3
    have hwx : w.heap.size ≠ x := by have := hWs.out; omega
    have hwlt := bG2.lt
    obtain ⟨W1, rfl⟩ : ∃ W1, W1 = wc := ⟨_, rfl⟩
    clear bG c0 hF0 hF1 hF2 ka ea
    go_upto_region 3 with fail
    go_loopw [21] (fun i wr => ∃ (k : Nat) (v : Value), k ≤ n ∧ i = .int .i64 (k : Nat) ∧ Blk wr x 114 #[.slice none 0 0, .slice none 0 0, .slice (some ⟨gb, 0, none⟩) n n, v, .int .u64 (F : Nat), .int .u64 0] ∧ OI wr W1.heap.size v (List.replicate k 1) ∧ Same (fun q => q = x) W1 wr) (fun i _ => n - (intOf i).toNat)
    case atStart => exact ⟨0, _, Nat.zero_le _, rfl, hp, OI.nil_, Same.refl _ _⟩
    case round =>
      clear hp
      obtain ⟨k, v, hk, rfl, hB, hO, hs⟩ := hrel
      by_cases hltk : k < n
      · have i0 : (k : Int) < (n : Int) := by omega
        have i1 : (0 : Int) ≤ (k : Int) := by omega
        obtain ⟨A1, k1, cc1, rfl, hk1, hkc, -, -⟩ := hO.form
        have hx1 := Blk.cell hB 3
        have f1 := Blk.frozen hB 3
        simp at hx1
        have hvb := hO.block_lt
        have hne : Hid (some x ≠ Value.ownBlock (.slice A1 k1 cc1)) := Lib.hid fun e => by have := (hvb x e.symm).1; omega
        have hbx := hB.lt
        replace hk1 := Lib.hid hk1
        have hvb' := Lib.hid hvb
        clear hvb
        go_upto_region 5 with (at_builtin; refine wpList_pushO rfl _ _ rfl rfl rfl (by first | rfl | simp) hO (by rw [List.length_replicate]; omega) hs.size ?_; intro v2 w2 O2 g2 e2; obtain ⟨A2, k2, cc2, rfl, hk2, -, -, -⟩ := O2.form; have d1 := g2.cell hx1 hne.out; have f2 := (World.frozen?_of_block (g2.block x hbx hne.out)).trans f1; replace O2 := Lib.hid O2; have hg2 := Lib.hid g2; replace hk2 := Lib.hid hk2; clear g2 e2)
        have B3 := (hB.grown hg2.out hne.out).set 3 (.slice A2 k2 cc2)
        simp at B3
        have O3 := ownsRow_setCell_below O2.out (show (⟨x, 3, none⟩ : Addr).block < W1.heap.size from hxs) (.slice A2 k2 cc2)
        have S3 := (hs.grown hg2.out (fun q hq hlt => by have := (hvb'.out q hq).1; omega)).trans (Same.set w2 x 3 (.slice A2 k2 cc2)) (fun q _ e => e)
        replace O3 := Lib.hid O3
        clear hB hO hs hx1 f1 d1 f2 hg2 O2
        go_wp2_with fail
        go_roundw
        case rel => exact ⟨k + 1, _, by omega, by go_num, B3, by rw [List.replicate_succ']; exact O3.out, S3⟩
        case measure => simp [intOf]; omega
      · obtain rfl : n = k := by omega
        have i0 : ¬ (n : Int) < (n : Int) := by omega
        obtain ⟨CA, k1, cc, rfl, hk1, hkc, -, hrC⟩ := hO.form
        rw [List.length_replicate] at hk1
        obtain rfl : n = k1 := hk1.symm
        have hvC := hO.block_lt
        have hCx : Hid (∀ ad, CA = some ad → W1.heap.size ≤ ad.block) := Lib.hid fun ad hA => by
          subst hA
          exact (hvC ad.block rfl).1
        have g0 := (hs.cell (p := ⟨w.heap.size, 0, none⟩) hwlt hwx).trans c2
        have g1 := (hs.cell (p := ⟨w.heap.size, 1, none⟩) hwlt hwx).trans c3
        have hs1 := hs.size
        have hB2 : Below w.heap.size w wr := BW.out.trans ((hbel.trans (hs.below hbel.size (fun q hq e => by omega))).mono BW.out.size)
        have bR2 := hs.blk (bR.out.below hbel (by have := hWs.out; omega)) (show ¬ w.heap.size + 1 = x by have := hWs.out; omega)
        have hzb2 := hs.blk hbz (fun e => hxg e.symm)
        have hO2 : OuR wr wr x gb n cc F (.slice none 0 0) (.slice none 0 0) (.slice none 0 0) (.slice none 0 0) CA (outE (es.take 0) inn) (List.replicate 0 1) (nts (bsO n (es.take 0) inn)) :=
          ⟨hB, OE.nil_, OI.nil_, by rw [List.take_zero, bsO_nil, nts_rep]; exact hzb2, .inl rfl, ⟨by omega, by omega, hxg⟩, Same.refl _ _⟩
        obtain ⟨W2, rfl⟩ : ∃ W2, W2 = wr := ⟨_, rfl⟩
        have hx2 : W2.heap.size ≥ w.heap.size + 2 := by have := hWs.out; omega
        have hlo : Hid (w.heap.size + 2 ≤ x ∧ w.heap.size + 2 ≤ gb) := Lib.hid (by have := hWs.out; omega)
        have hcW : Hid (∀ ad, CA = some ad → w.heap.size + 2 ≤ ad.block ∧ ad.block ≠ x ∧ ad.block ≠ gb) := Lib.hid (fun ad e => by have := hCx.out ad e; have := hWs.out; have := hbel.size; exact ⟨by omega, by omega, by omega⟩)
        clear hO hs hvC c2 c3 hB hzb2 hbz bR hCx hbel hlo1 hlo2 hxs hgs hwx hwlt bG2 hs1
        go_upto_region 7 with fail
        clear g0 g1
        go_loopw [32] (fun i wr => ∃ (k mo : Nat) (vE vW : Value), k ≤ m ∧ i = .int .i64 (k : Nat) ∧ (outE (es.take k) inn).length = mo ∧ mo ≤ k ∧ OuR W2 wr x gb n cc F vE vW vE vW CA (outE (es.take k) inn) (List.replicate mo 1) (nts (bsO n (es.take k) inn))) (fun i _ => m - (intOf i).toNat)
        case atStart => exact ⟨0, 0, (.slice none 0 0), (.slice none 0 0), Nat.zero_le _, rfl, rfl, Nat.le_refl _, hO2⟩
        case round =>
          clear hO2
          obtain ⟨k, mo, vE, vW, hk, rfl, hmo, hmk, hR⟩ := hrel
          have hbw : Hid (Below w.heap.size w wr) := Lib.hid (hB2.trans (hR.same.below (by omega) (fun q hq e => by have := hlo.out; rcases e with rfl | rfl <;> omega)))
          by_cases hltk : k < m
          · have i0 : (k : Int) < (m : Int) := by omega
            have i1 : (0 : Int) ≤ (k : Int) := by omega
            obtain ⟨ad, a, b, hA, hab, he, e0, e1⟩ := (RE.below h.out hbw.out (Nat.le_refl _)).get hltk
            have hr := hlt.out _ (List.mem_of_getElem? he.out)
            simp only at hr
            obtain ⟨u, rfl⟩ := Int.eq_ofNat_of_zero_le (show 0 ≤ a by omega)
            obtain ⟨v, rfl⟩ := Int.eq_ofNat_of_zero_le (show 0 ≤ b by omega)
            have hun : u < n := by omega
            have hvn : v < n := by omega
            have hu : u < 64 := by omega
            have hv : v < 64 := by omega
            have hst : es.take (k + 1) = es.take k ++ [((u : Int), (v : Int))] := by rw [List.take_add_one, he.out]; rfl
            have hEo := outE_snoc (es.take k) ((u : Int), (v : Int)) inn
            simp only [bit_mem hu, bit_mem hv] at hEo
            rw [← hst] at hEo
            have hb0 : Hid (inn.testBit u = inn.testBit v → bsO n (es.take (k + 1)) inn = bsO n (es.take k) inn) := Lib.hid (fun e => by rw [hst]; exact bsO_none _ hu hv e)
            have hb1 : Hid (inn.testBit u = true → inn.testBit v = false → nts (bsO n (es.take (k + 1)) inn) = (nts (bsO n (es.take k) inn)).set v (((bsO n (es.take k) inn).getD v 0 : Nat) + 1)) := Lib.hid (fun e1 e2 => by rw [hst, bsO_right _ hu hv hvn e1 e2, nts_set']; rfl)
            have hb2 : Hid (inn.testBit u = false → inn.testBit v = true → nts (bsO n (es.take (k + 1)) inn) = (nts (bsO n (es.take k) inn)).set u (((bsO n (es.take k) inn).getD u 0 : Nat) + 1)) := Lib.hid (fun e1 e2 => by rw [hst, bsO_left _ hu hv hun e1 e2, nts_set']; rfl)
            have hlv := bsO_le n (es.take k) inn v
            have hlu := bsO_le n (es.take k) inn u
            have hbl := bsO_len n (es.take k) inn
            have cv := AI.cell hR.ai (i := v) (by rw [nts_length, hbl]; exact hvn)
            have cu := AI.cell hR.ai (i := u) (by rw [nts_length, hbl]; exact hun)
            rw [nts_getD'] at cv cu
            rw [List.length_take] at hlv hlu
            have a1 := u64_bit hi hu
            have a2 := u64_bit hi hv
            have k1 := Lib.hid (fun w => bit_any u hu w)
            have k2 := Lib.hid (fun w => bit_any v hv w)
            have p1 : (0 : Nat) < 2 ^ u := Nat.two_pow_pos u
            have p2 : (0 : Nat) < 2 ^ v := Nat.two_pow_pos v
            generalize bitN u = bu at *
            generalize bitN v = bv at *
            generalize (2 : Nat) ^ u = pu at *
            generalize (2 : Nat) ^ v = pv at *
            have hyv : (bsO n (es.take k) inn).getD v 0 ≤ 8192 := by omega
            have hyu : (bsO n (es.take k) inn).getD u 0 ≤ 8192 := by omega
            have hLn : Hid ((nts (bsO n (es.take k) inn)).length = n) := Lib.hid (by rw [nts_length, hbl])
            have hLv : Hid ((nts (bsO n (es.take k) inn)).getD v 0 = (((bsO n (es.take k) inn).getD v 0 : Nat) : Int)) := Lib.hid (nts_getD' _ _)
            have hLu : Hid ((nts (bsO n (es.take k) inn)).getD u 0 = (((bsO n (es.take k) inn).getD u 0 : Nat) : Int)) := Lib.hid (nts_getD' _ _)
            replace hb0 : Hid (inn.testBit u = inn.testBit v → nts (bsO n (es.take (k + 1)) inn) = nts (bsO n (es.take k) inn)) := Lib.hid (fun e => by rw [hb0.out e])
            generalize (bsO n (es.take k) inn).getD v 0 = yv at *
            generalize (bsO n (es.take k) inn).getD u 0 = yu at *
            clear hlv hlu hbl hst
            generalize nts (bsO n (es.take k) inn) = Lk at *
            generalize outE (es.take k) inn = Ek at *
            have R5 := hR.alloc (.cells #[.int .i64 (u : Nat), .int .i64 (v : Nat)] 73)
            have b5 := Blk.new wr 73 #[.int .i64 (u : Nat), .int .i64 (v : Nat)]
            have n1 : Hid (some wr.heap.size ≠ vE.ownBlock) := Lib.hid (fun e => by have := (hR.oe.block_lt _ e.symm).2; omega)
            have n2 : Hid (some wr.heap.size ≠ vW.ownBlock) := Lib.hid (fun e => by have := (hR.ow.block_lt _ e.symm).2; omega)
            have hg7 : Hid (W2.heap.size ≤ wr.heap.size) := Lib.hid hR.same.size
            subst hA
            clear hab he
            go_upto_region 9 with fail
            clear e0 e1 cv cu hR
            generalize wr.alloc (.cells #[.int .i64 (u : Nat), .int .i64 (v : Nat)] 73) = w5 at *
            generalize wr.heap.size = g7 at *
            have s0 : w5.drew.cell? ⟨g7, 0, none⟩ = some (.int .i64 (u : Nat)) := by have := Blk.cell b5 0; simpa using this
            have s1 : w5.drew.cell? ⟨g7, 1, none⟩ = some (.int .i64 (v : Nat)) := by have := Blk.cell b5 1; simpa using this
            go_cut [8, 9] (fun t8 t9 wx => t8 = .bool (inn.testBit u) ∧ t9 = .bool (inn.testBit v) ∧ OuR W2 wx x gb n cc F vE vW vE vW CA Ek (List.replicate mo 1) Lk ∧ Blk wx g7 73 #[.int .i64 (u : Nat), .int .i64 (v : Nat)])
            case first =>
              have hfin : Hid (OuR W2 w5.drew x gb n cc F vE vW vE vW CA Ek (List.replicate mo 1) Lk ∧ Blk w5.drew g7 73 #[.int .i64 (u : Nat), .int .i64 (v : Nat)]) := Lib.hid ⟨R5.drew, b5.drew⟩
              clear R5 b5 hb0 hb1 hb2 hEo
              have z1 : ((pu : Int) != 0) = true := by simp; omega
              have z2 : ((pv : Int) != 0) = true := by simp; omega
              cases tu : inn.testBit u <;> cases tv : inn.testBit v
              all_goals
                rw [tu] at a1
                rw [tv] at a2
                simp only [if_true, if_false, Bool.false_eq_true] at a1 a2
                replace tu := Lib.hid tu
                replace tv := Lib.hid tv
                go_loud (go_region_held3 (fun w' => w'.cell? ⟨g7, 0, none⟩ = some (.int .i64 (u : Nat)) ∧ w'.cell? ⟨g7, 1, none⟩ = some (.int .i64 (v : Nat)))
                  ((first | (with_reducible exact ⟨s0, s1⟩) | fail))
                  ((first
                    | (go_at_call 97; (with_reducible refine (k1.out _).mono ?_); rintro e wx ⟨rfl, hq⟩; obtain rfl := hq)
                    | (go_at_call 97; (with_reducible refine (k2.out _).mono ?_); rintro e wx ⟨rfl, hq⟩; obtain rfl := hq)
                    | fail)))
                all_goals go_wp2_with fail
                all_goals go_meet
                all_goals exact ⟨by first | rfl | rw [tu.out], by first | rfl | rw [tv.out], hfin.out.1, hfin.out.2⟩
            case rest =>
              obtain ⟨rfl, rfl, R6, b6⟩ := hcut
              obtain ⟨w6, rfl⟩ : ∃ w6, w6 = wc := ⟨_, rfl⟩
              clear R5 b5 s0 s1 a1 a2 k1 k2 p1 p2
              have m0 := Blk.cell b6 0
              have m1 := Blk.cell b6 1
              simp at m0 m1
              have hcv : Hid (∀ w', OuR W2 w' x gb n cc F vE vW vE vW CA Ek (List.replicate mo 1) Lk → w'.cell? ⟨gb, v, none⟩ = some (.int .i64 (yv : Nat))) := Lib.hid (fun w' R => by rw [AI.cell R.ai (i := v) (by rw [hLn.out]; exact hvn), hLv.out])
              have hcu : Hid (∀ w', OuR W2 w' x gb n cc F vE vW vE vW CA Ek (List.replicate mo 1) Lk → w'.cell? ⟨gb, u, none⟩ = some (.int .i64 (yu : Nat))) := Lib.hid (fun w' R => by rw [AI.cell R.ai (i := u) (by rw [hLn.out]; exact hun), hLu.out])
              cases tu : inn.testBit u <;> cases tv : inn.testBit v
              · skip
                have hEE : Hid (outE (es.take (k + 1)) inn = Ek ++ [((u : Int), (v : Int))]) := Lib.hid (by rw [hEo, tu, tv]; simp)
                have hLL : Hid (nts (bsO n (es.take (k + 1)) inn) = Lk) := Lib.hid (hb0.out (by rw [tu, tv]))
                clear tu tv hEo hb0 hb1 hb2
                go_upto_region 15 with fail
                obtain ⟨SS, hSS⟩ : ∃ SS : World → Prop, ∀ w', SS w' ↔ (w'.cell? ⟨x, 0, none⟩ = some vE ∧ w'.cell? ⟨x, 1, none⟩ = some vW ∧ w'.cell? ⟨g7, 0, none⟩ = some (.int .i64 (u : Nat)) ∧ w'.cell? ⟨g7, 1, none⟩ = some (.int .i64 (v : Nat))) := ⟨fun w' => _, fun _ => Iff.rfl⟩
                have hsS : Hid (∀ w' vE' vW' LE LW, OuR W2 w' x gb n cc F vE vW vE' vW' CA LE LW Lk → Blk w' g7 73 #[.int .i64 (u : Nat), .int .i64 (v : Nat)] → SS w') := Lib.hid (fun w' vE' vW' LE LW R B => (hSS w').2 ⟨by have := Blk.cell R.p 0; simpa using this, by have := Blk.cell R.p 1; simpa using this, by have := Blk.cell B 0; simpa using this, by have := Blk.cell B 1; simpa using this⟩)
                replace hSS := Lib.hid hSS
                refine wp_region_TS (T := fun j w' => j ∈ ([0, 5, 9, 10, 11, 12] : List Nat) ∨ SS w') (by kernel_rfl) ?_
                intro QQ hQQ hQP
                have R8 := R6.drew
                have b8 := b6.drew
                have sX := hsS.out _ _ _ _ _ R8 b8
                clear R6 b6 m0 m1
                generalize w6.drew = X at *
                replace R8 := Lib.hid R8
                replace b8 := Lib.hid b8
                have hEb : Hid (∀ k, vE.ownBlock = some k → k < X.heap.size) := Lib.hid (fun k e => (R8.out.oe.block_lt k e).2)
                have hone : Hid (RI ((X.alloc (.cells #[.int .i64 (u : Nat), .int .i64 (v : Nat)] 73)).alloc (.cells #[.int .i64 1] 3)) (some ⟨X.heap.size + 1, 0, none⟩) 1 [1]) := Lib.hid (by have := RI.one (t := 3) (w := X.alloc (.cells #[.int .i64 (u : Nat), .int .i64 (v : Nat)] 73)) 1; rw [show (X.alloc (.cells #[.int .i64 (u : Nat), .int .i64 (v : Nat)] 73)).heap.size = X.heap.size + 1 by simp] at this; exact this)
                have hoe : Hid (RE ((X.alloc (.cells #[.int .i64 1] 3)).alloc (.cells #[.int .i64 (u : Nat), .int .i64 (v : Nat)] 73)) (some ⟨X.heap.size + 1, 0, none⟩) 1 [((u : Int), (v : Int))]) := Lib.hid (by have := news_edge (X.alloc (.cells #[.int .i64 1] 3)) 73 (u : Int) (v : Int); rw [show (X.alloc (.cells #[.int .i64 1] 3)).heap.size = X.heap.size + 1 by simp] at this; exact this)
                refine takeU (i := 0) (M := [0, 5, 9, 10, 11, 12]) (S := SS) (d := some 79) (v := .pointer (some ⟨x, 0, none⟩)) rfl rfl (by kernel_rfl) (by kernel_rfl) (by kernel_rfl) hQP.out (by decide) (Or.inl ⟨by rfl, fun w' _ => ?_⟩) ?_
                · go_simp
                (try simp only [Act.put, List.setIfInBounds_toArray, List.set_cons_zero, List.set_cons_succ])
                refine takeU (i := 5) (M := [0, 5, 9, 10, 11, 12]) (S := SS) (d := some 84) (v := .pointer (some ⟨x, 1, none⟩)) rfl rfl (by kernel_rfl) (by kernel_rfl) (by kernel_rfl) hQP.out (by decide) (Or.inl ⟨by rfl, fun w' _ => ?_⟩) ?_
                · go_simp
                (try simp only [Act.put, List.setIfInBounds_toArray, List.set_cons_zero, List.set_cons_succ])
                refine takeM (i := 1) (M := [0, 5, 9, 10, 11, 12]) (S := SS) (d := some 80) (v := vE) rfl rfl (by kernel_rfl) (by kernel_rfl) (by kernel_rfl) hQP.out (by kernel_rfl) (Or.inl ⟨by rfl, fun w' hS => ?_⟩) sX ?_
                · obtain ⟨y0, y1, y2, y3⟩ := (hSS.out _).1 hS
                  go_simp
                (try simp only [Act.put, List.setIfInBounds_toArray, List.set_cons_zero, List.set_cons_succ])
                refine takeM (i := 2) (M := [0, 5, 9, 10, 11, 12]) (S := SS) (d := some 81) (v := .agg #[.int .i64 (u : Nat), .int .i64 (v : Nat)]) rfl rfl (by kernel_rfl) (by kernel_rfl) (by kernel_rfl) hQP.out (by kernel_rfl) (Or.inl ⟨by rfl, fun w' hS => ?_⟩) sX ?_
                · obtain ⟨y0, y1, y2, y3⟩ := (hSS.out _).1 hS
                  go_simp
                (try simp only [Act.put, List.setIfInBounds_toArray, List.set_cons_zero, List.set_cons_succ])
                refine takeM (i := 6) (M := [0, 5, 9, 10, 11, 12]) (S := SS) (d := some 85) (v := vW) rfl rfl (by kernel_rfl) (by kernel_rfl) (by kernel_rfl) hQP.out (by kernel_rfl) (Or.inl ⟨by rfl, fun w' hS => ?_⟩) sX ?_
                · obtain ⟨y0, y1, y2, y3⟩ := (hSS.out _).1 hS
                  go_simp
                (try simp only [Act.put, List.setIfInBounds_toArray, List.set_cons_zero, List.set_cons_succ])
                refine wpAnyT_ready (rs := [3, 7]) (by kernel_rfl) (by simp) ?_
                intro j hj
                simp only [List.mem_cons, List.not_mem_nil, or_false] at hj
                rcases hj with rfl | rfl
                · skip
                  refine wpOpT_step (T := fun j w' => j ∈ ([0, 5, 9, 10, 11, 12] : List Nat) ∨ SS w') (by rfl) (fun K hK => ?_)
                  go_simp
                  have RE8 := Lib.hid (R8.out.alloc (.cells #[.int .i64 (u : Nat), .int .i64 (v : Nat)] 73))
                  have bE8 := Lib.hid (b8.out.alloc (.cells #[.int .i64 (u : Nat), .int .i64 (v : Nat)] 73))
                  refine hK.out _ _ ?_ ?_
                  · exact .inr (hsS.out _ _ _ _ _ RE8.out bE8.out)
                  clear hK K
                  (try simp only [Act.put, List.setIfInBounds_toArray, List.set_cons_zero, List.set_cons_succ])
                  refine wpAnyT_ready (rs := [4, 7]) (by kernel_rfl) (by simp) ?_
                  intro j hj
                  simp only [List.mem_cons, List.not_mem_nil, or_false] at hj
                  rcases hj with rfl | rfl
                  · skip
                    refine wpOpT_step (T := fun j w' => j ∈ ([0, 5, 9, 10, 11, 12] : List Nat) ∨ SS w') (by rfl) (fun K hK => ?_)
                    refine step_cateb (w := (X.alloc (.cells #[.int .i64 (u : Nat), .int .i64 (v : Nat)] 73))) (ys := Ek) (zs := [((u : Int), (v : Int))]) (B := W2.heap.size) (v := vE) (A := some ⟨X.heap.size, 0, none⟩) (m := 1) (c := 1) (by rfl) (.tmp 80) (.tmp 82) (by rfl) (by rfl) (by first | rfl | simp) RE8.out.oe (show RE (X.alloc (.cells #[.int .i64 (u : Nat), .int .i64 (v : Nat)] 73)) _ 1 _ from news_edge X 73 _ _) (by omega) RE8.out.same.size ?_
                    intro vE' w9 OE' gE' eE'
                    obtain ⟨EA', en', ec', rfl, -, -, -, -, -⟩ := OE'.form
                    have RP := Lib.hid (OuR.pushE RE8.out OE' gE' eE')
                    have bP := Lib.hid (Blk.grown bE8.out gE' n1.out)
                    have gEn := Lib.hid gE'
                    clear OE' gE' eE'
                    refine hK.out _ _ ?_ ?_
                    · exact .inr (hsS.out _ _ _ _ _ RP.out bP.out)
                    clear hK K
                    (try simp only [Act.put, List.setIfInBounds_toArray, List.set_cons_zero, List.set_cons_succ])
                    refine takeU (i := 9) (M := [0, 5, 9, 10, 11, 12]) (S := SS) (d := some 88) (v := .pointer (some ⟨x, 0, none⟩)) rfl rfl (by kernel_rfl) (by kernel_rfl) (by kernel_rfl) hQP.out (by decide) (Or.inl ⟨by rfl, fun w' _ => ?_⟩) ?_
                    · go_simp
                    (try simp only [Act.put, List.setIfInBounds_toArray, List.set_cons_zero, List.set_cons_succ])
                    refine wpAnyT_ready (rs := [7]) (by kernel_rfl) (by simp) ?_
                    intro j hj
                    rw [List.mem_singleton] at hj
                    subst hj
                    refine wpOpT_step (T := fun j w' => j ∈ ([0, 5, 9, 10, 11, 12] : List Nat) ∨ SS w') (by rfl) (fun K hK => ?_)
                    go_simp
                    have RWP := Lib.hid (RP.out.alloc (.cells #[.int .i64 1] 3))
                    have bWP := Lib.hid (bP.out.alloc (.cells #[.int .i64 1] 3))
                    refine hK.out _ _ ?_ ?_
                    · exact .inr (hsS.out _ _ _ _ _ RWP.out bWP.out)
                    clear hK K
                    (try simp only [Act.put, List.setIfInBounds_toArray, List.set_cons_zero, List.set_cons_succ])
                    refine wpAnyT_ready (rs := [8]) (by kernel_rfl) (by simp) ?_
                    intro j hj
                    rw [List.mem_singleton] at hj
                    subst hj
                    refine wpOpT_step (T := fun j w' => j ∈ ([0, 5, 9, 10, 11, 12] : List Nat) ∨ SS w') (by rfl) (fun K hK => ?_)
                    refine step_catib (w := (w9.alloc (.cells #[.int .i64 1] 3))) (ys := List.replicate mo 1) (zs := [1]) (B := W2.heap.size) (v := vW) (A := some ⟨w9.heap.size, 0, none⟩) (m := 1) (c := 1) (by rfl) (.tmp 85) (.tmp 86) (by rfl) (by rfl) (by first | rfl | simp) RWP.out.ow (RI.one 1) (by rw [List.length_replicate]; omega) RWP.out.same.size ?_
                    intro vW' w10 OW' gW' eW'
                    obtain ⟨WA', wn', wc', rfl, -, -, -, -⟩ := OW'.form
                    have RQ := Lib.hid (OuR.pushW RWP.out OW' gW' eW')
                    have bQ := Lib.hid (Blk.grown bWP.out gW' n2.out)
                    clear OW' gW' eW'
                    refine hK.out _ _ ?_ ?_
                    · exact .inr (hsS.out _ _ _ _ _ RQ.out bQ.out)
                    clear hK K
                    (try simp only [Act.put, List.setIfInBounds_toArray, List.set_cons_zero, List.set_cons_succ])
                    have y0 := Blk.cell RQ.out.p 0
                    have y1 := Blk.cell RQ.out.p 1
                    have f0 := Blk.frozen RQ.out.p 0
                    have f1 := Blk.frozen RQ.out.p 1
                    simp at y0 y1
                    have RS := Lib.hid (OuR.store RQ.out)
                    refine wpAnyT_ready (rs := [10]) (by kernel_rfl) (by simp) ?_
                    intro j hj
                    rw [List.mem_singleton] at hj
                    subst hj
                    refine wpOpT_step (T := fun j w' => j ∈ ([0, 5, 9, 10, 11, 12] : List Nat) ∨ SS w') (by rfl) (fun K hK => ?_)
                    go_simp
                    refine hK.out _ _ ?_ ?_
                    · exact .inl (by decide)
                    clear hK K
                    (try simp only [Act.put, List.setIfInBounds_toArray, List.set_cons_zero, List.set_cons_succ])
                    refine takeU (i := 11) (M := [0, 5, 9, 10, 11, 12]) (S := SS) (d := some 89) (v := .pointer (some ⟨x, 1, none⟩)) rfl rfl (by kernel_rfl) (by kernel_rfl) (by kernel_rfl) hQP.out (by decide) (Or.inl ⟨by rfl, fun w' _ => ?_⟩) ?_
                    · go_simp
                    (try simp only [Act.put, List.setIfInBounds_toArray, List.set_cons_zero, List.set_cons_succ])
                    refine wpAnyT_ready (rs := [12]) (by kernel_rfl) (by simp) ?_
                    intro j hj
                    rw [List.mem_singleton] at hj
                    subst hj
                    refine wpOpT_step (T := fun j w' => j ∈ ([0, 5, 9, 10, 11, 12] : List Nat) ∨ SS w') (by rfl) (fun K hK => ?_)
                    go_simp
                    refine hK.out _ _ ?_ ?_
                    · exact .inl (by decide)
                    clear hK K
                    (try simp only [Act.put, List.setIfInBounds_toArray, List.set_cons_zero, List.set_cons_succ])
                    refine wpAnyT_done (by kernel_rfl) (hQQ.out _ _ ?_) _
                    clear hQQ hQP QQ y0 y1 f0 f1
                    go_wp2_with fail
                    go_roundw
                    case rel => exact ⟨k + 1, mo + 1, _, _, by omega, by go_num, by rw [hEE.out, List.length_append, hmo]; rfl, by omega, by rw [hEE.out, hLL.out, List.replicate_succ']; exact RS.out⟩
                    case measure => simp [intOf]; omega
                  · skip
                    refine wpOpT_step (T := fun j w' => j ∈ ([0, 5, 9, 10, 11, 12] : List Nat) ∨ SS w') (by rfl) (fun K hK => ?_)
                    go_simp
                    have RWE8 := Lib.hid (RE8.out.alloc (.cells #[.int .i64 1] 3))
                    have bWE8 := Lib.hid (bE8.out.alloc (.cells #[.int .i64 1] 3))
                    refine hK.out _ _ ?_ ?_
                    · exact .inr (hsS.out _ _ _ _ _ RWE8.out bWE8.out)
                    clear hK K
                    (try simp only [Act.put, List.setIfInBounds_toArray, List.set_cons_zero, List.set_cons_succ])
                    refine wpAnyT_ready (rs := [4]) (by kernel_rfl) (by simp) ?_
                    intro j hj
                    rw [List.mem_singleton] at hj
                    subst hj
                    refine wpOpT_step (T := fun j w' => j ∈ ([0, 5, 9, 10, 11, 12] : List Nat) ∨ SS w') (by rfl) (fun K hK => ?_)
                    refine step_cateb (w := ((X.alloc (.cells #[.int .i64 (u : Nat), .int .i64 (v : Nat)] 73)).alloc (.cells #[.int .i64 1] 3))) (ys := Ek) (zs := [((u : Int), (v : Int))]) (B := W2.heap.size) (v := vE) (A := some ⟨X.heap.size, 0, none⟩) (m := 1) (c := 1) (by rfl) (.tmp 80) (.tmp 82) (by rfl) (by rfl) (by first | rfl | simp) RWE8.out.oe (RE.alloc (show RE (X.alloc (.cells #[.int .i64 (u : Nat), .int .i64 (v : Nat)] 73)) _ 1 _ from news_edge X 73 _ _) _) (by omega) RWE8.out.same.size ?_
                    intro vE' w9 OE' gE' eE'
                    obtain ⟨EA', en', ec', rfl, -, -, -, -, -⟩ := OE'.form
                    have RP := Lib.hid (OuR.pushE RWE8.out OE' gE' eE')
                    have bP := Lib.hid (Blk.grown bWE8.out gE' n1.out)
                    have gEn := Lib.hid gE'
                    clear OE' gE' eE'
                    refine hK.out _ _ ?_ ?_
                    · exact .inr (hsS.out _ _ _ _ _ RP.out bP.out)
                    clear hK K
                    (try simp only [Act.put, List.setIfInBounds_toArray, List.set_cons_zero, List.set_cons_succ])
                    refine takeU (i := 9) (M := [0, 5, 9, 10, 11, 12]) (S := SS) (d := some 88) (v := .pointer (some ⟨x, 0, none⟩)) rfl rfl (by kernel_rfl) (by kernel_rfl) (by kernel_rfl) hQP.out (by decide) (Or.inl ⟨by rfl, fun w' _ => ?_⟩) ?_
                    · go_simp
                    (try simp only [Act.put, List.setIfInBounds_toArray, List.set_cons_zero, List.set_cons_succ])
                    refine wpAnyT_ready (rs := [8]) (by kernel_rfl) (by simp) ?_
                    intro j hj
                    rw [List.mem_singleton] at hj
                    subst hj
                    refine wpOpT_step (T := fun j w' => j ∈ ([0, 5, 9, 10, 11, 12] : List Nat) ∨ SS w') (by rfl) (fun K hK => ?_)
                    refine step_catib (w := w9) (ys := List.replicate mo 1) (zs := [1]) (B := W2.heap.size) (v := vW) (A := some ⟨X.heap.size + 1, 0, none⟩) (m := 1) (c := 1) (by rfl) (.tmp 85) (.tmp 86) (by rfl) (by rfl) (by first | rfl | simp) RP.out.ow (RI.kept (row := vE.ownBlock) (show RI ((X.alloc (.cells #[.int .i64 (u : Nat), .int .i64 (v : Nat)] 73)).alloc (.cells #[.int .i64 1] 3)) (some ⟨X.heap.size + 1, 0, none⟩) 1 [1] from hone.out) gEn.out (fun ad e => by injection e with e; subst e; intro e; exact absurd (hEb.out (X.heap.size + 1) e.symm) (by omega))) (by rw [List.length_replicate]; omega) RP.out.same.size ?_
                    intro vW' w10 OW' gW' eW'
                    obtain ⟨WA', wn', wc', rfl, -, -, -, -⟩ := OW'.form
                    have RQ := Lib.hid (OuR.pushW RP.out OW' gW' eW')
                    have bQ := Lib.hid (Blk.grown bP.out gW' n2.out)
                    clear OW' gW' eW'
                    refine hK.out _ _ ?_ ?_
                    · exact .inr (hsS.out _ _ _ _ _ RQ.out bQ.out)
                    clear hK K
                    (try simp only [Act.put, List.setIfInBounds_toArray, List.set_cons_zero, List.set_cons_succ])
                    have y0 := Blk.cell RQ.out.p 0
                    have y1 := Blk.cell RQ.out.p 1
                    have f0 := Blk.frozen RQ.out.p 0
                    have f1 := Blk.frozen RQ.out.p 1
                    simp at y0 y1
                    have RS := Lib.hid (OuR.store RQ.out)
                    refine wpAnyT_ready (rs := [10]) (by kernel_rfl) (by simp) ?_
                    intro j hj
                    rw [List.mem_singleton] at hj
                    subst hj
                    refine wpOpT_step (T := fun j w' => j ∈ ([0, 5, 9, 10, 11, 12] : List Nat) ∨ SS w') (by rfl) (fun K hK => ?_)
                    go_simp
                    refine hK.out _ _ ?_ ?_
                    · exact .inl (by decide)
                    clear hK K
                    (try simp only [Act.put, List.setIfInBounds_toArray, List.set_cons_zero, List.set_cons_succ])
                    refine takeU (i := 11) (M := [0, 5, 9, 10, 11, 12]) (S := SS) (d := some 89) (v := .pointer (some ⟨x, 1, none⟩)) rfl rfl (by kernel_rfl) (by kernel_rfl) (by kernel_rfl) hQP.out (by decide) (Or.inl ⟨by rfl, fun w' _ => ?_⟩) ?_
                    · go_simp
                    (try simp only [Act.put, List.setIfInBounds_toArray, List.set_cons_zero, List.set_cons_succ])
                    refine wpAnyT_ready (rs := [12]) (by kernel_rfl) (by simp) ?_
                    intro j hj
                    rw [List.mem_singleton] at hj
                    subst hj
                    refine wpOpT_step (T := fun j w' => j ∈ ([0, 5, 9, 10, 11, 12] : List Nat) ∨ SS w') (by rfl) (fun K hK => ?_)
                    go_simp
                    refine hK.out _ _ ?_ ?_
                    · exact .inl (by decide)
                    clear hK K
                    (try simp only [Act.put, List.setIfInBounds_toArray, List.set_cons_zero, List.set_cons_succ])
                    refine wpAnyT_done (by kernel_rfl) (hQQ.out _ _ ?_) _
                    clear hQQ hQP QQ y0 y1 f0 f1
                    go_wp2_with fail
                    go_roundw
                    case rel => exact ⟨k + 1, mo + 1, _, _, by omega, by go_num, by rw [hEE.out, List.length_append, hmo]; rfl, by omega, by rw [hEE.out, hLL.out, List.replicate_succ']; exact RS.out⟩
                    case measure => simp [intOf]; omega
                · skip
                  refine wpOpT_step (T := fun j w' => j ∈ ([0, 5, 9, 10, 11, 12] : List Nat) ∨ SS w') (by rfl) (fun K hK => ?_)
                  go_simp
                  have RW8 := Lib.hid (R8.out.alloc (.cells #[.int .i64 1] 3))
                  have bW8 := Lib.hid (b8.out.alloc (.cells #[.int .i64 1] 3))
                  refine hK.out _ _ ?_ ?_
                  · exact .inr (hsS.out _ _ _ _ _ RW8.out bW8.out)
                  clear hK K
                  (try simp only [Act.put, List.setIfInBounds_toArray, List.set_cons_zero, List.set_cons_succ])
                  refine wpAnyT_ready (rs := [3]) (by kernel_rfl) (by simp) ?_
                  intro j hj
                  rw [List.mem_singleton] at hj
                  subst hj
                  refine wpOpT_step (T := fun j w' => j ∈ ([0, 5, 9, 10, 11, 12] : List Nat) ∨ SS w') (by rfl) (fun K hK => ?_)
                  go_simp
                  have REW8 := Lib.hid (RW8.out.alloc (.cells #[.int .i64 (u : Nat), .int .i64 (v : Nat)] 73))
                  have bEW8 := Lib.hid (bW8.out.alloc (.cells #[.int .i64 (u : Nat), .int .i64 (v : Nat)] 73))
                  refine hK.out _ _ ?_ ?_
                  · exact .inr (hsS.out _ _ _ _ _ REW8.out bEW8.out)
                  clear hK K
                  (try simp only [Act.put, List.setIfInBounds_toArray, List.set_cons_zero, List.set_cons_succ])
                  refine wpAnyT_ready (rs := [4]) (by kernel_rfl) (by simp) ?_
                  intro j hj
                  rw [List.mem_singleton] at hj
                  subst hj
                  refine wpOpT_step (T := fun j w' => j ∈ ([0, 5, 9, 10, 11, 12] : List Nat) ∨ SS w') (by rfl) (fun K hK => ?_)
                  refine step_cateb (w := ((X.alloc (.cells #[.int .i64 1] 3)).alloc (.cells #[.int .i64 (u : Nat), .int .i64 (v : Nat)] 73))) (ys := Ek) (zs := [((u : Int), (v : Int))]) (B := W2.heap.size) (v := vE) (A := some ⟨X.heap.size + 1, 0, none⟩) (m := 1) (c := 1) (by rfl) (.tmp 80) (.tmp 82) (by rfl) (by rfl) (by first | rfl | simp) REW8.out.oe hoe.out (by omega) REW8.out.same.size ?_
                  intro vE' w9 OE' gE' eE'
                  obtain ⟨EA', en', ec', rfl, -, -, -, -, -⟩ := OE'.form
                  have RP := Lib.hid (OuR.pushE REW8.out OE' gE' eE')
                  have bP := Lib.hid (Blk.grown bEW8.out gE' n1.out)
                  have gEn := Lib.hid gE'
                  clear OE' gE' eE'
                  refine hK.out _ _ ?_ ?_
                  · exact .inr (hsS.out _ _ _ _ _ RP.out bP.out)
                  clear hK K
                  (try simp only [Act.put, List.setIfInBounds_toArray, List.set_cons_zero, List.set_cons_succ])
                  refine takeU (i := 9) (M := [0, 5, 9, 10, 11, 12]) (S := SS) (d := some 88) (v := .pointer (some ⟨x, 0, none⟩)) rfl rfl (by kernel_rfl) (by kernel_rfl) (by kernel_rfl) hQP.out (by decide) (Or.inl ⟨by rfl, fun w' _ => ?_⟩) ?_
                  · go_simp
                  (try simp only [Act.put, List.setIfInBounds_toArray, List.set_cons_zero, List.set_cons_succ])
                  refine wpAnyT_ready (rs := [8]) (by kernel_rfl) (by simp) ?_
                  intro j hj
                  rw [List.mem_singleton] at hj
                  subst hj
                  refine wpOpT_step (T := fun j w' => j ∈ ([0, 5, 9, 10, 11, 12] : List Nat) ∨ SS w') (by rfl) (fun K hK => ?_)
                  refine step_catib (w := w9) (ys := List.replicate mo 1) (zs := [1]) (B := W2.heap.size) (v := vW) (A := some ⟨X.heap.size, 0, none⟩) (m := 1) (c := 1) (by rfl) (.tmp 85) (.tmp 86) (by rfl) (by rfl) (by first | rfl | simp) RP.out.ow (RI.kept (row := vE.ownBlock) (RI.alloc (RI.one (t := 3) (w := X) 1) _) gEn.out (fun ad e => by injection e with e; subst e; intro e; exact absurd (hEb.out X.heap.size e.symm) (by omega))) (by rw [List.length_replicate]; omega) RP.out.same.size ?_
                  intro vW' w10 OW' gW' eW'
                  obtain ⟨WA', wn', wc', rfl, -, -, -, -⟩ := OW'.form
                  have RQ := Lib.hid (OuR.pushW RP.out OW' gW' eW')
                  have bQ := Lib.hid (Blk.grown bP.out gW' n2.out)
                  clear OW' gW' eW'
                  refine hK.out _ _ ?_ ?_
                  · exact .inr (hsS.out _ _ _ _ _ RQ.out bQ.out)
                  clear hK K
                  (try simp only [Act.put, List.setIfInBounds_toArray, List.set_cons_zero, List.set_cons_succ])
                  have y0 := Blk.cell RQ.out.p 0
                  have y1 := Blk.cell RQ.out.p 1
                  have f0 := Blk.frozen RQ.out.p 0
                  have f1 := Blk.frozen RQ.out.p 1
                  simp at y0 y1
                  have RS := Lib.hid (OuR.store RQ.out)
                  refine wpAnyT_ready (rs := [10]) (by kernel_rfl) (by simp) ?_
                  intro j hj
                  rw [List.mem_singleton] at hj
                  subst hj
                  refine wpOpT_step (T := fun j w' => j ∈ ([0, 5, 9, 10, 11, 12] : List Nat) ∨ SS w') (by rfl) (fun K hK => ?_)
                  go_simp
                  refine hK.out _ _ ?_ ?_
                  · exact .inl (by decide)
                  clear hK K
                  (try simp only [Act.put, List.setIfInBounds_toArray, List.set_cons_zero, List.set_cons_succ])
                  refine takeU (i := 11) (M := [0, 5, 9, 10, 11, 12]) (S := SS) (d := some 89) (v := .pointer (some ⟨x, 1, none⟩)) rfl rfl (by kernel_rfl) (by kernel_rfl) (by kernel_rfl) hQP.out (by decide) (Or.inl ⟨by rfl, fun w' _ => ?_⟩) ?_
                  · go_simp
                  (try simp only [Act.put, List.setIfInBounds_toArray, List.set_cons_zero, List.set_cons_succ])
                  refine wpAnyT_ready (rs := [12]) (by kernel_rfl) (by simp) ?_
                  intro j hj
                  rw [List.mem_singleton] at hj
                  subst hj
                  refine wpOpT_step (T := fun j w' => j ∈ ([0, 5, 9, 10, 11, 12] : List Nat) ∨ SS w') (by rfl) (fun K hK => ?_)
                  go_simp
                  refine hK.out _ _ ?_ ?_
                  · exact .inl (by decide)
                  clear hK K
                  (try simp only [Act.put, List.setIfInBounds_toArray, List.set_cons_zero, List.set_cons_succ])
                  refine wpAnyT_done (by kernel_rfl) (hQQ.out _ _ ?_) _
                  clear hQQ hQP QQ y0 y1 f0 f1
                  go_wp2_with fail
                  go_roundw
                  case rel => exact ⟨k + 1, mo + 1, _, _, by omega, by go_num, by rw [hEE.out, List.length_append, hmo]; rfl, by omega, by rw [hEE.out, hLL.out, List.replicate_succ']; exact RS.out⟩
                  case measure => simp [intOf]; omega
              · skip
                have hEE : Hid (outE (es.take (k + 1)) inn = Ek) := Lib.hid (by rw [hEo, tu, tv]; simp)
                have hLL : Hid (nts (bsO n (es.take (k + 1)) inn) = Lk.set u ((yu : Nat) + 1)) := Lib.hid (hb2.out tu tv)
                have cy : w6.cell? ⟨gb, u, none⟩ = some (.int .i64 (yu : Nat)) := hcu.out _ R6
                have fy := AI.frozen R6.ai u
                have x2 := Blk.cell R6.p 2
                simp at x2
                have R7 := R6.bump u ((yu : Nat) + 1)
                have j0 : (0 : Int) ≤ (u : Int) := by omega
                have j1 : (u : Int) < (n : Int) := by omega
                clear tu tv hEo hb0 hb1 hb2 b6 R6
                go_wp2_with fail
                go_roundw
                case rel => exact ⟨k + 1, mo, vE, vW, by omega, by go_num, by rw [hEE.out]; exact hmo, by omega, by rw [hEE.out, hLL.out]; exact R7⟩
                case measure => simp [intOf]; omega
              · skip
                have hEE : Hid (outE (es.take (k + 1)) inn = Ek) := Lib.hid (by rw [hEo, tu, tv]; simp)
                have hLL : Hid (nts (bsO n (es.take (k + 1)) inn) = Lk.set v ((yv : Nat) + 1)) := Lib.hid (hb1.out tu tv)
                have cy : w6.cell? ⟨gb, v, none⟩ = some (.int .i64 (yv : Nat)) := hcv.out _ R6
                have fy := AI.frozen R6.ai v
                have x2 := Blk.cell R6.p 2
                simp at x2
                have R7 := R6.bump v ((yv : Nat) + 1)
                have j0 : (0 : Int) ≤ (v : Int) := by omega
                have j1 : (v : Int) < (n : Int) := by omega
                clear tu tv hEo hb0 hb1 hb2 b6 R6
                go_wp2_with fail
                go_roundw
                case rel => exact ⟨k + 1, mo, vE, vW, by omega, by go_num, by rw [hEE.out]; exact hmo, by omega, by rw [hEE.out, hLL.out]; exact R7⟩
                case measure => simp [intOf]; omega
              · skip
                have hEE : Hid (outE (es.take (k + 1)) inn = Ek) := Lib.hid (by rw [hEo, tu, tv]; simp)
                have hLL : Hid (nts (bsO n (es.take (k + 1)) inn) = Lk) := Lib.hid (hb0.out (by rw [tu, tv]))
                clear tu tv hEo hb0 hb1 hb2 b6
                go_wp2_with fail
                go_roundw
                case rel => exact ⟨k + 1, mo, vE, vW, by omega, by go_num, by rw [hEE.out]; exact hmo, by omega, by rw [hEE.out, hLL.out]; exact R6⟩
                case measure => simp [intOf]; omega
          · obtain rfl : m = k := by omega
            have i0 : ¬ (m : Int) < (m : Int) := by omega
            have hall : es.take m = es := List.take_of_length_le (by rw [hel.out]; exact Nat.le_refl _)
            rw [hall] at hmo hR
            obtain ⟨EA, k1, ec, rfl, hk1, hkc1, -, hrE, hfE⟩ := hR.oe.form
            obtain ⟨WA, k2, wc, rfl, hk2, hkc2, -, hrW⟩ := hR.ow.form
            have hfW := hR.ow.block_lt
            have hfE' := hR.oe.block_lt
            rw [List.length_replicate] at hk2
            obtain rfl : k1 = (outE es inn).length := hk1
            obtain rfl : k2 = (outE es inn).length := by omega
            obtain rfl : mo = (outE es inn).length := hmo.symm
            have hrC2 := hR.same.ri hrC (fun ad e _ hx => by have := hcW.out ad e; rcases hx with hx | hx <;> omega)
            have hrB : RI wr (some ⟨gb, 0, none⟩) n (nts (bsO n es inn)) := RI.ofB hR.ai (by rw [nts_length, bsO_len])
            have bR3 := hR.same.blk bR2 (fun e => by have := hlo.out; rcases e with e | e <;> omega)
            generalize hmz : (outE es inn).length = mo at *
            replace hmz := Lib.hid hmz
            have hgf : wr.grownBy ((((((wr.setCell ⟨w.heap.size + 1, 0, none⟩ (.slice EA mo ec)).setCell ⟨w.heap.size + 1, 1, none⟩ (.slice WA mo wc)).setCell ⟨w.heap.size + 1, 2, none⟩ (.slice (some ⟨gb, 0, none⟩) n n)).setCell ⟨w.heap.size + 1, 3, none⟩ (.slice CA n cc)).setCell ⟨w.heap.size + 1, 4, none⟩ (.int .u64 (F : Nat))).setCell ⟨w.heap.size + 1, 5, none⟩ (.int .u64 0)) (some (w.heap.size + 1)) := (grown_setO ((grown_setO ((grown_setO ((grown_setO ((grown_setO ((grown_setO (World.grownBy.refl wr (some (w.heap.size + 1))) 0 (.slice EA mo ec))) 1 (.slice WA mo wc))) 2 (.slice (some ⟨gb, 0, none⟩) n n))) 3 (.slice CA n cc))) 4 (.int .u64 (F : Nat)))) 5 (.int .u64 0))
            have RB := (Blk.set (Blk.set (Blk.set (Blk.set (Blk.set (Blk.set bR3 0 (.slice EA mo ec)) 1 (.slice WA mo wc)) 2 (.slice (some ⟨gb, 0, none⟩) n n)) 3 (.slice CA n cc)) 4 (.int .u64 (F : Nat))) 5 (.int .u64 0))
            simp at RB
            have e0 := Blk.cell hR.p 0
            have e1 := Blk.cell hR.p 1
            have e2 := Blk.cell hR.p 2
            have e3 := Blk.cell hR.p 3
            have e4 := Blk.cell hR.p 4
            have e5 := Blk.cell hR.p 5
            simp at e0 e1 e2 e3 e4 e5
            have g0 := Blk.cell RB 0
            have g1 := Blk.cell RB 1
            have g2 := Blk.cell RB 2
            have g3 := Blk.cell RB 3
            have g4 := Blk.cell RB 4
            have g5 := Blk.cell RB 5
            simp at g0 g1 g2 g3 g4 g5
            have d0 := Blk.cell bR3 0
            have d1 := Blk.cell bR3 1
            have d2 := Blk.cell bR3 2
            have d3 := Blk.cell bR3 3
            have d4 := Blk.cell bR3 4
            have d5 := Blk.cell bR3 5
            have f0 := Blk.frozen bR3 0
            have f1 := Blk.frozen bR3 1
            have f2 := Blk.frozen bR3 2
            have f3 := Blk.frozen bR3 3
            have f4 := Blk.frozen bR3 4
            have f5 := Blk.frozen bR3 5
            simp at d0 d1 d2 d3 d4 d5
            have h1 := Lib.hid (hrE.kept hgf (fun ad e => by subst e; intro e; have := (hfE' ad.block rfl).1; injection e with e; omega))
            have h2 := Lib.hid (RI.kept hrW hgf (fun ad e => by subst e; intro e; have := (hfW ad.block rfl).1; injection e with e; omega))
            have h3 := Lib.hid (RI.kept hrB hgf (fun ad e => by injection e with e; subst e; intro e; injection e with e; have := hlo.out; have e' : gb = w.heap.size + 1 := e; omega))
            have h4 := Lib.hid (RI.kept hrC2 hgf (fun ad e => by intro e2; injection e2 with e2; have := hcW.out ad e; omega))
            have h5 := Lib.hid (hbw.out.grown hgf hbw.out.size (fun q hq => by injection hq with hq; omega))
            replace g0 := Lib.hid g0
            replace g1 := Lib.hid g1
            replace g2 := Lib.hid g2
            replace g3 := Lib.hid g3
            replace g4 := Lib.hid g4
            replace g5 := Lib.hid g5
            clear RB bR3 bR2 hR hrE hrW hrB hrC2 hrC hgf hfW hfE' hfE hbw hB2
            go_wp2_with fail
            have g0' := g0.out
            have g1' := g1.out
            have g2' := g2.out
            have g3' := g3.out
            have g4' := g4.out
            have g5' := g5.out
            refine bodyPost_ret (v := .agg #[.slice EA mo ec, .slice WA mo wc, .slice (some ⟨gb, 0, none⟩) n n, .slice CA n cc, .int .u64 (F : Nat), .int .u64 0]) (by simp [results, Tryd.results121, go_sem, g0', g1', g2', g3', g4', g5']) rfl ?_
            obtain rfl := hmz.out
            exact ⟨EA, WA, _, CA, ⟨ec, wc, n, cc, rfl⟩, h1.out, h2.out, h3.out, h4.out, h5.out⟩
end Go.Proofs.YticekkjambkifaaDoor.Fl
