/- Chapter 22's sanity check. -/
import Derived.Test.YticekkjambkifaaDoorFrmL
set_option linter.unusedVariables false
set_option linter.unusedSimpArgs false
namespace Go.Proofs.YticekkjambkifaaDoor.Fl
open Go.RowKit Go.Proofs.YticekkjambkifaaDoor CoBit CoRat Rt

theorem reads_blk {w : World} {g : Nat} {t : TypeId} {cs : Array Value} {xs : List Value} {n size : Nat} (h : Blk w g t cs) (hx : cs.toList = xs) (hl : xs.length = n * size) : Reads w w.heap.size size (some ⟨g, 0, none⟩) n xs := by
  refine ⟨by first | exact hl | omega, fun _ => ⟨_, rfl, h.lt, fun j u hu => ?_⟩⟩
  have hc := Blk.cell h j
  have : ((⟨g, 0, none⟩ : Addr).add j) = ⟨g, j, none⟩ := by unfold Addr.add; split <;> simp_all
  rw [this, hc]
  subst hx
  simpa using hu
theorem mo_bset {x : Nat} (hx : x < 18446744073709551616) : mo (bset x) = x := (mo_spec (bset x)).uniq ⟨hx, fun v => by
  by_cases hv : v < 64
  · cases hc : x.testBit v with
    | true => exact (decide_eq_true ⟨hv, (bit_mem hv).2 hc⟩).symm
    | false => exact (decide_eq_false (fun h => by have := (bit_mem hv).1 h.2; rw [hc] at this; cases this)).symm
  · rw [decide_eq_false (fun h => hv h.1)]
    exact Nat.testBit_lt_two_pow (Nat.lt_of_lt_of_le hx (by rw [show (18446744073709551616 : Nat) = 2 ^ 64 by decide +kernel]; exact Nat.pow_le_pow_right (by omega) (by omega)))⟩
theorem Lvl.lt {n i x N D : Nat} {es : List (Int × Int)} (h : Lvl n es i x N D) (hn : n ≤ 64) : x < 18446744073709551616 := mask_lt (Nat.le_refl 64) fun v hv => Nat.lt_of_lt_of_le (h.off v hv).1 hn
theorem Lvl.vld {n i x N D : Nat} {es : List (Int × Int)} (h : Lvl n es i x N D) : Vld (bset x) n := ⟨fun y hy => by
    unfold bset nts at hy
    obtain ⟨k, hk, rfl⟩ := List.mem_map.1 hy
    have := (h.off k (mem_bl.1 hk).2).1
    omega, bset_sorted x⟩
theorem LvP.frm_true {n : Nat} {es : List (Int × Int)} (hn : n ≤ 64) : ∀ {ls : List (Nat × Nat × Nat)} {i : Nat}, LvP n es i ls → frm n i (ls.map givL) = true
  | [], i, h => decide_eq_true h
  | (x, N, D) :: ls, i, h => by
    have hx := h.2.1
    have hm := mo_bset (hx.lt hn)
    have hok : okD n i (givL (x, N, D)) := by
      refine ⟨?_, hx.vld, ?_, rfl, rfl⟩
      · show (bset x).length ≠ 0
        have h1 : (bset x).length = pop x := by unfold bset; rw [nts_length, pop_bl]
        have := hx.pos
        omega
      · show i &&& mo (bset x) = 0
        rw [hm]
        refine Nat.eq_of_testBit_eq fun v => ?_
        rw [Nat.testBit_and, Nat.zero_testBit]
        cases hc : x.testBit v with
        | false => rw [Bool.and_false]
        | true => rw [(hx.off v hc).2]; rfl
    show (if okD n i (givL (x, N, D)) then frm n (i ||| mo (bset x)) (ls.map givL) else false) = true
    rw [if_pos hok, hm]
    exact LvP.frm_true hn h.2.2
theorem LvP.chk_ok {n : Nat} {es : List (Int × Int)} (hn : n ≤ 64) {ls : List (Nat × Nat × Nat)} (h : LvP n es 0 ls) : lchk n ls (ls.map givL) = 0 := by
  unfold lchk
  rw [if_neg (by rw [h.frm_true hn]; decide), if_pos]
  rw [List.map_map]; rfl
theorem Lvl.small {n i x N D : Nat} {es : List (Int × Int)} (hxi : x &&& i = 0) (hx : x < 2 ^ n) (hp : 0 < pop x) (dN : (N : Int) = mkN (gn es i x : Nat) (pop x : Nat)) (dD : (D : Int) = mkD (gn es i x : Nat) (pop x : Nat)) (hD : 0 < D) (hl : N ≤ 266240 ∧ D ≤ 64) (he : D * gn es i x = N * pop x)
    (hm : ∀ y, y < 2 ^ n → y &&& i = 0 → D * gn es i y ≤ N * pop y) (hg : ∀ y, y < 2 ^ n → y &&& i = 0 → D * gn es i y = N * pop y → y ||| x = x) : Lvl n es i x N D := by
  have off : ∀ y, y < 2 ^ n → y &&& i = 0 → Off n i y := fun y h1 h2 v hv => by
    refine ⟨?_, ?_⟩
    · rcases Nat.lt_or_ge v n with h | h
      · exact h
      · rw [Nat.testBit_lt_two_pow (Nat.lt_of_lt_of_le h1 (Nat.pow_le_pow_right (by omega) h))] at hv; cases hv
    · have : (y &&& i).testBit v = false := by rw [h2]; exact Nat.zero_testBit v
      rw [Nat.testBit_and, hv, Bool.true_and] at this; exact this
  have back : ∀ y, Off n i y → y < 2 ^ n ∧ y &&& i = 0 := fun y h => ⟨mask_pow fun v hv => (h v hv).1, by
    refine Nat.eq_of_testBit_eq fun v => ?_
    rw [Nat.testBit_and, Nat.zero_testBit]
    cases hc : y.testBit v with
    | false => rfl
    | true => rw [(h v hc).2]; rfl⟩
  refine ⟨off x hx hxi, hp, dN, dD, hD, hl, he, fun y hy => hm y (back y hy).1 (back y hy).2, fun y hy e v hv => ?_⟩
  have := hg y (back y hy).1 (back y hy).2 e
  rw [← this, Nat.testBit_or, hv]; rfl
/-- Four nodes, each by each, with a node that hangs on them. -/
def kiteF : List (Int × Int) := [(0, 1), (0, 2), (0, 3), (1, 2), (1, 3), (2, 3), (3, 4)]
theorem kite_chk : chkG (5 : Nat) kiteF = 0 := by decide +kernel
theorem kite_lv : LvP 5 kiteF 0 [(15, 3, 2), (16, 1, 1)] := by
  refine ⟨by decide, ?_, ?_, ?_, (by decide : 0 ||| 15 ||| 16 = allM 5)⟩
  · exact Lvl.small (by decide) (by decide) (by decide +kernel) (by decide +kernel) (by decide +kernel) (by omega) (by omega) (by decide +kernel) (by decide +kernel) (by decide +kernel)
  · decide
  · exact Lvl.small (by decide) (by decide) (by decide +kernel) (by decide +kernel) (by decide +kernel) (by omega) (by omega) (by decide +kernel) (by decide +kernel) (by decide +kernel)
set_option maxRecDepth 100000 in
set_option maxHeartbeats 4000000 in
theorem awake22_any (w : World) (hT : Tab w) :
    Calls Tryd.prog 16 #[] w fun e w' => e = .returned (.bool true) ∧ Below w.heap.size w w' := by
  have kb : ∀ A w, RE w A 7 kiteF → Tab w → Calls Tryd.prog 17 #[.agg #[.int .i64 5, .slice A 7 7]] w (RetBuild w 5 kiteF) := fun A w h hT => lbuild_any A 7 7 5 kiteF w h hT (by omega) kite_chk (by omega)
  have hcz : lchk 5 [(15, 3, 2), (16, 1, 1)] (List.map givL [(15, 3, 2), (16, 1, 1)]) = 0 := kite_lv.chk_ok (by omega)
  have kc : ∀ A A' c' rs w, RE w A 7 kiteF → Tab w → RawL w A' 2 (List.map givL [(15, 3, 2), (16, 1, 1)]) rs → Calls Tryd.prog 28 #[.agg #[.int .i64 5, .slice A 7 7], .slice A' 2 c'] w fun e w' => e = .returned (.int .i64 0) ∧ Below w.heap.size w w' := fun A A' c' rs w h hT hR => by
    have := lcheck_any A 7 7 5 kiteF A' 2 c' (List.map givL [(15, 3, 2), (16, 1, 1)]) rs w h hT (by omega) kite_chk (by omega) hR (by omega) [(15, 3, 2), (16, 1, 1)] kite_lv
    rw [hcz] at this
    exact this
  replace kb := Lib.hid kb
  replace kc := Lib.hid kc
  clear hcz
  go_enter Tryd.func16, Tryd.ntmps16
  go_upto_region 2 with fail
  have hE0 : RE (w.alloc (.cells #[.int .i64 0, .int .i64 1, .int .i64 0, .int .i64 2, .int .i64 0, .int .i64 3, .int .i64 1, .int .i64 2, .int .i64 1, .int .i64 3, .int .i64 2, .int .i64 3, .int .i64 3, .int .i64 4] 73)) (some ⟨w.heap.size, 0, none⟩) 7 kiteF := reads_blk (Blk.new w 73 #[.int .i64 0, .int .i64 1, .int .i64 0, .int .i64 2, .int .i64 0, .int .i64 3, .int .i64 1, .int .i64 2, .int .i64 1, .int .i64 3, .int .i64 2, .int .i64 3, .int .i64 3, .int .i64 4]) rfl rfl
  have hE := hE0.alloc (.cells #[.int .i64 5, .slice (some ⟨w.heap.size, 0, none⟩) 7 7] 25)
  have G0 : Blk ((w.alloc (.cells #[.int .i64 0, .int .i64 1, .int .i64 0, .int .i64 2, .int .i64 0, .int .i64 3, .int .i64 1, .int .i64 2, .int .i64 1, .int .i64 3, .int .i64 2, .int .i64 3, .int .i64 3, .int .i64 4] 73)).alloc (.cells #[.int .i64 5, .slice (some ⟨w.heap.size, 0, none⟩) 7 7] 25)) (w.heap.size + 1) 25 #[.int .i64 5, .slice (some ⟨w.heap.size, 0, none⟩) 7 7] := Blk.new' _ _ _ (by simp)
  have B0 : Below w.heap.size w ((w.alloc (.cells #[.int .i64 0, .int .i64 1, .int .i64 0, .int .i64 2, .int .i64 0, .int .i64 3, .int .i64 1, .int .i64 2, .int .i64 1, .int .i64 3, .int .i64 2, .int .i64 3, .int .i64 3, .int .i64 4] 73)).alloc (.cells #[.int .i64 5, .slice (some ⟨w.heap.size, 0, none⟩) 7 7] 25)) := ((Below.refl _ w).alloc (Nat.le_refl _) _).alloc (by simp) _
  have T0 := hT.keep B0
  clear hT hE0
  generalize (w.alloc (.cells #[.int .i64 0, .int .i64 1, .int .i64 0, .int .i64 2, .int .i64 0, .int .i64 3, .int .i64 1, .int .i64 2, .int .i64 1, .int .i64 3, .int .i64 2, .int .i64 3, .int .i64 3, .int .i64 4] 73)).alloc (.cells #[.int .i64 5, .slice (some ⟨w.heap.size, 0, none⟩) 7 7] 25) = W at *
  obtain ⟨d0, d1⟩ := blkG G0
  go_upto_region 3 with (first | (go_at_call 17; (with_reducible refine (kb.out _ _ hE T0).mono ?_); intro e w3 hq; obtain ⟨A', k, c', ls, rs, rfl, hkc, hP, hR, hb3, hk64, hfA, hfr, h0⟩ := hq) | fail)
  have G3 := G0.below hb3 G0.lt
  have E3 := hE.below hb3 (Nat.le_refl _)
  have T3 := T0.keep hb3
  have B3 := B0.trans (hb3.mono B0.size)
  clear G0 hE T0 B0 hb3 d0 d1 kb
  obtain rfl := hP.unique kite_lv
  obtain rfl : 2 = k := hR.llen
  obtain ⟨d0, d1⟩ := blkG G3
  obtain ⟨ad, r, hA1, hbb, hr, y0, y1, y2, y3, y4⟩ := rs_get5 hR.rd (j := 0) (by omega)
  obtain ⟨ad', s, hA2, -, hs, z0, z1, z2, z3, z4⟩ := rs_get5 hR.rd (j := 1) (by omega)
  obtain rfl : ad = ad' := by rw [hA1] at hA2; injection hA2
  obtain ⟨rA, rn, rc, rN, rD, re, rP, rm, rk⟩ := r
  obtain ⟨sA, sn, sc, sN, sD, se, sP, sm, sk⟩ := s
  obtain ⟨a1, a2, -, -, -, -, a7, -⟩ := hR.el 0 _ _ hr.out rfl
  obtain ⟨b1, b2, -, -, -, -, b7, -⟩ := hR.el 1 _ _ hs.out rfl
  obtain ⟨gl, rfl⟩ := h0 _ hA1
  simp only at a1 a2 a7 b1 b2 b7 y0 y1 y2 y3 y4 z0 z1 z2 z3 z4
  subst a1; subst a2; subst b1; subst b2
  have hR3 := hR.raw
  subst hA1
  clear hr hs hfr hfA hP hkc hA2 a7
  have hb7 : bset 16 = [4] := by decide +kernel
  rw [hb7] at b7
  have hsn := b7.len
  simp at hsn
  subst hsn
  have hs0 := Go.Proofs.YticekkjambkifaaDoor.same_any sA (some ⟨w3.heap.size, 0, none⟩) 1 sc 1 1 [4] [4] (w3.alloc (.cells #[.int .i64 4] 3)) (b7.alloc _) (by omega) (RI.one 4) (by omega)
  rw [decide_eq_true rfl] at hs0
  replace hs0 := Lib.hid hs0
  have B4 := B3.alloc B3.size (.cells #[.int .i64 4] 3)
  have G4 := G3.alloc (.cells #[.int .i64 4] 3)
  have kd := Lib.hid (fun q => kc.out (some ⟨w.heap.size, 0, none⟩) (some ⟨gl, 0, none⟩) c' rs ((w3.alloc (.cells #[.int .i64 4] 3)).drewN q) ((E3.alloc _).drewN q) ((T3.alloc _).drewN q) (hR3.below (below_drewN ((Below.refl w3.heap.size w3).alloc (Nat.le_refl _) _) q)))
  obtain ⟨m0, m1⟩ := blkG G4
  have Y1 : w3.cell? ⟨gl, 1, none⟩ = some (.int .i64 3) := y1
  have Y2 : w3.cell? ⟨gl, 2, none⟩ = some (.int .i64 2) := y2
  have Z0 : w3.cell? ⟨gl, 5, none⟩ = some (.slice sA 1 sc) := z0
  have Z1 : w3.cell? ⟨gl, 6, none⟩ = some (.int .i64 1) := z1
  have Z2 : w3.cell? ⟨gl, 7, none⟩ = some (.int .i64 1) := z2
  have hbd : gl < w3.heap.size := hbb
  have v1 := (World.cell?_alloc_lt w3 (.cells #[.int .i64 4] 3) ⟨gl, 6, none⟩ hbd).trans Z1
  have v2 := (World.cell?_alloc_lt w3 (.cells #[.int .i64 4] 3) ⟨gl, 7, none⟩ hbd).trans Z2
  clear y0 y1 y2 y3 y4 z0 z1 z2 z3 z4
  clear G3 E3 T3 b7 hR hR3 kc
  go_wp2_with (first
    | (go_at_call 19; (with_reducible refine hs0.out.mono ?_); rintro e w4 ⟨rfl, q, rfl⟩)
    | (go_at_call 28; (with_reducible refine (kd.out q).mono ?_); rintro e w5 ⟨rfl, hb5⟩)
    | fail)
  go_ret
  exact ⟨rfl, (below_drewN B4 q).trans (hb5.mono (below_drewN B4 q).size)⟩
end Go.Proofs.YticekkjambkifaaDoor.Fl
