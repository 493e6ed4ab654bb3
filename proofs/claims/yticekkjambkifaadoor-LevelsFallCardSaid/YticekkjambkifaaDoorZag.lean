/- Printed by merge.py from FlwI, CloA, CloB. -/
import Derived.Test.YticekkjambkifaaDoorFlwF
import Derived.Test.YticekkjambkifaaDoorZaf
import Derived.Laws.BitsAllLaws
/- flow.Both: a greatest flow and the greatest set of a least cut. -/
set_option linter.unusedVariables false
set_option linter.unusedSimpArgs false
namespace Go.Proofs.YticekkjambkifaaDoor.Fl
open Go.RowKit Go.Proofs.YticekkjambkifaaDoor

def RetSol (w : World) (N : Nat) (ac : List Ar) (src sink : Nat) (e : Ending) (w' : World) : Prop := ∃ (p : NP) (outs : List (List Nat)) (L nx : List Nat) (lev : List Int) (val : Nat), e = .returned (.tuple #[.pointer (some ⟨p.x, 0, none⟩), .int .i64 (val : Nat)]) ∧ Net N ac outs ∧ NetM w' p N ac outs sink L lev nx ∧ Full N ac src sink L lev ∧ Below w.heap.size w w'
set_option maxRecDepth 100000 in
set_option maxHeartbeats 4000000 in
theorem solved_any (N : Nat) (ac : List Ar) (src sink : Nat) (A : Option Addr) (M c : Nat) (w : World) (hA : RS AE w A M ac) (hNm : N ≤ 1048576) (hM : M ≤ 1048576) (hen : ∀ a ∈ ac, a.1 < N ∧ a.2.1 < N) (hcap : CapB ac) (hsr : src < N) (hsk : sink < N) (hne : src ≠ sink) :
    Calls Tryd.prog 133 #[.agg #[.int .i64 (N : Nat), .int .i64 (src : Nat), .int .i64 (sink : Nat), .slice A M c]] w (RetSol w N ac src sink) := by
  have hMl := hA.len
  have b0 := Blk.new w 152 #[.int .i64 (N : Nat), .int .i64 (src : Nat), .int .i64 (sink : Nat), .slice A M c]
  have B0 : Below w.heap.size w (w.alloc (.cells #[.int .i64 (N : Nat), .int .i64 (src : Nat), .int .i64 (sink : Nat), .slice A M c] 152)) := (Below.refl _ w).alloc (Nat.le_refl _) _
  have hA1 := hA.alloc (.cells #[.int .i64 (N : Nat), .int .i64 (src : Nat), .int .i64 (sink : Nat), .slice A M c] 152)
  go_enter Tryd.func133, Tryd.ntmps133
  go_upto_region 1 with fail
  have hbl := b0.lt
  generalize w.alloc (.cells #[.int .i64 (N : Nat), .int .i64 (src : Nat), .int .i64 (sink : Nat), .slice A M c] 152) = W at *
  have ko := Lib.hid (open_any N ac src sink A M c W hA1 hNm hM hen)
  have c0 := Blk.cell b0 0
  have c1 := Blk.cell b0 1
  have c2 := Blk.cell b0 2
  have c3 := Blk.cell b0 3
  simp at c0 c1 c2 c3
  replace hMl := Lib.hid hMl
  replace hen := Lib.hid hen
  replace hcap := Lib.hid hcap
  clear hA1 hA
  go_wp2_with fail
  refine ko.out.mono ?_
  clear ko
  rintro e w1 ⟨p, outs, L, nx, lev, rfl, hnet, hnm, hll, hnl, hok, hz, hb1, hp1, hp2, hp3⟩
  have d1 := (hb1.cell (p := ⟨w.heap.size, 1, none⟩) hbl).trans c1
  have kg := Lib.hid (greatest_any p N ac outs sink src L nx lev hsr hsk hne w1 hnm hnet hll hnl hok (ex_zero hz) hcap.out hNm (by have := hMl.out; omega))
  clear c0 c1 c2 c3 hok hz hll hnl
  have hnm' := Lib.hid hnm
  clear hnm
  go_wp2_with fail
  refine kg.out.mono ?_
  clear kg
  rintro e w2 ⟨val, L2, lev2, nx2, rfl, hv, hfull, hnm2, hs2⟩
  have B1 := B0.trans (hb1.mono B0.size)
  have B2 : Below w.heap.size w w2 := B1.trans (hs2.below B1.size (fun k hk e => by have := B0.size; rcases e with e | e | e <;> omega))
  clear hnm' hs2 hb1 d1
  replace hv := Lib.hid hv
  go_wp2_with fail
  go_ret2
  exact ⟨p, outs, L2, nx2, lev2, val, rfl, hnet, hnm2, hfull, B2⟩

/-- The first k values are turned. -/
def flip (R : List Bool) (k : Nat) : List Bool := (R.take k).map (fun b => !b) ++ R.drop k
theorem flip_len (R : List Bool) (k : Nat) : (flip R k).length = R.length := by
  unfold flip
  rw [List.length_append, List.length_map, List.length_take, List.length_drop]; omega
theorem flip_get {R : List Bool} {k : Nat} (hk : k < R.length) : (flip R k).getD k false = R.getD k false := by
  unfold flip
  rw [List.getD_eq_getElem?_getD, List.getElem?_append_right (by rw [List.length_map, List.length_take]; omega), List.length_map, List.length_take, List.getElem?_drop, List.getD_eq_getElem?_getD, show k + (k - min k R.length) = k by omega]
theorem flip_step {R : List Bool} {k : Nat} (hk : k < R.length) : (flip R k).set k (!R.getD k false) = flip R (k + 1) := by
  have e1 : R.getD k false = R[k] := by rw [List.getD_eq_getElem?_getD, List.getElem?_eq_getElem hk]; rfl
  unfold flip
  have hl : ((R.take k).map fun b => !b).length = k := by rw [List.length_map, List.length_take]; omega
  rw [List.set_append_right _ _ (by omega), hl, Nat.sub_self, List.take_succ_eq_append_getElem hk, List.map_append, List.append_assoc, List.drop_eq_getElem_cons hk, List.set_cons_zero, e1]
  rfl
theorem flip_all (R : List Bool) : flip R R.length = R.map (fun b => !b) := by unfold flip; simp
def flws (ac : List Ar) (L : List Nat) : List Nat := (List.range ac.length).map (flw L)
def RetBoth (w : World) (N : Nat) (ac : List Ar) (src sink : Nat) (e : Ending) (w' : World) : Prop := ∃ (A1 : Option Addr) (M1 c1 g val : Nat) (L : List Nat) (R : List Bool), e = .returned (.tuple #[.slice A1 M1 c1, .int .i64 (val : Nat), .slice (some ⟨g, 0, none⟩) N N]) ∧ RI w' A1 M1 (nts (flws ac L)) ∧ AB w' g (R.map fun b => !b) ∧ R.length = N ∧ MinCut ac src sink L (fun u => !R.getD u false) ∧ Below w.heap.size w w'
set_option maxRecDepth 100000 in
set_option maxHeartbeats 4000000 in
theorem both_any (N : Nat) (ac : List Ar) (src sink : Nat) (A : Option Addr) (M c : Nat) (w : World) (hA : RS AE w A M ac) (hNm : N ≤ 1048576) (hM : M ≤ 1048576) (hen : ∀ a ∈ ac, a.1 < N ∧ a.2.1 < N) (hcap : CapB ac) (hsr : src < N) (hsk : sink < N) (hne : src ≠ sink) :
    Calls Tryd.prog 117 #[.agg #[.int .i64 (N : Nat), .int .i64 (src : Nat), .int .i64 (sink : Nat), .slice A M c]] w (RetBoth w N ac src sink) := by
  have hMl := hA.len
  have b0 := Blk.new w 152 #[.int .i64 (N : Nat), .int .i64 (src : Nat), .int .i64 (sink : Nat), .slice A M c]
  have B0 : Below w.heap.size w (w.alloc (.cells #[.int .i64 (N : Nat), .int .i64 (src : Nat), .int .i64 (sink : Nat), .slice A M c] 152)) := (Below.refl _ w).alloc (Nat.le_refl _) _
  have hA1 := hA.alloc (.cells #[.int .i64 (N : Nat), .int .i64 (src : Nat), .int .i64 (sink : Nat), .slice A M c] 152)
  go_enter Tryd.func117, Tryd.ntmps117
  go_upto_region 1 with fail
  have hbl := b0.lt
  generalize w.alloc (.cells #[.int .i64 (N : Nat), .int .i64 (src : Nat), .int .i64 (sink : Nat), .slice A M c] 152) = W at *
  have ks := Lib.hid (solved_any N ac src sink A M c W hA1 hNm hM hen hcap hsr hsk hne)
  have c0 := Blk.cell b0 0
  have c1 := Blk.cell b0 1
  have c2 := Blk.cell b0 2
  have c3 := Blk.cell b0 3
  simp at c0 c1 c2 c3
  replace hMl := Lib.hid (And.intro hMl True.intro)
  replace hen := Lib.hid hen
  replace hcap := Lib.hid hcap
  go_wp2_with fail
  refine ks.out.mono ?_
  clear ks
  rintro e w1 ⟨p, outs, L, nx, lev, val, rfl, hnet, hnm, hfull, hb1⟩
  have d2 := (hb1.cell (p := ⟨w.heap.size, 2, none⟩) hbl).trans c2
  have d3 := (hb1.cell (p := ⟨w.heap.size, 3, none⟩) hbl).trans c3
  have hA2 := hA1.below hb1 (Nat.le_refl _)
  have B1 := B0.trans (hb1.mono B0.size)
  have hs1 := hb1.size
  clear c0 c1 c2 c3 hA hA1 hb1 B0 b0
  replace hnet := Lib.hid hnet
  replace hfull := Lib.hid hfull
  have sx := hnm.net.lt
  go_wp2_with fail
  go_loopw [2, 17] (fun v i wr => ∃ (k : Nat) (vv : Value), vv = v ∧ k ≤ M ∧ i = .int .i64 (k : Nat) ∧ OI wr w1.heap.size vv (nts ((List.range k).map (flw L))) ∧ Below w1.heap.size w1 wr) (fun _ i _ => M - (intOf i).toNat)
  case atStart => exact ⟨0, _, rfl, Nat.zero_le _, rfl, OI.nil_, Below.refl _ _⟩
  case round =>
    obtain ⟨k, vv, rfl, hk, rfl, hO, hb⟩ := hrel
    by_cases hlt : k < M
    · have i0 : (k : Int) < (M : Int) := by omega
      have i1 : (0 : Int) ≤ (k : Int) := by omega
      obtain ⟨ad, a, rfl, hab, hak, hcs⟩ := (hA2.below hb (Nat.le_refl _)).get hlt
      have e0 := hcs 0 _ rfl
      have e1 := hcs 1 _ rfl
      have e2 := hcs 2 _ rfl
      simp only [show AE.size = 3 from rfl, Addr.add_zero', Addr.add_succ'] at e0 e1 e2
      obtain ⟨u, v, q⟩ := a
      simp only at e0 e1 e2
      have hcp := hfull.out.ok.cap (k := k) (by have := hMl.out.1; omega)
      have hq : cpA ac k = q := by unfold cpA; rw [List.getD_eq_getElem?_getD, hak.out]; rfl
      rw [hq] at hcp
      have hqb : q ≤ 1099511627776 := by
        have := hcap.out k (by have := hMl.out.1; omega)
        rw [← hq]; exact this
      obtain ⟨hA0, hH⟩ := hnm.half (by have := hMl.out.1; omega)
      have hh := (hH.get (i := 2 * k) (by have := hMl.out.1; omega)).2.2.2
      have x0 := hnm.cells.1
      rw [hA0] at x0
      have hgt := hH.lt
      have hst : (List.range (k + 1)).map (flw L) = (List.range k).map (flw L) ++ [flw L k] := by rw [List.range_succ, List.map_append]; rfl
      have hll : (nts ((List.range k).map (flw L))).length = k := by rw [nts_length, List.length_map, List.length_range]
      obtain ⟨M2, hM2⟩ : ∃ M2, M2 = 2 * ac.length := ⟨_, rfl⟩
      rw [← hM2] at x0
      obtain ⟨k2, hk2⟩ : ∃ k2, k2 = 2 * k := ⟨_, rfl⟩
      rw [← hk2] at hh hcp
      have hmul : IntKind.i64.wrap (2 * (k : Int)) = (k2 : Int) := by
        have : 2 * (k : Int) = (k2 : Int) := by omega
        rw [this]; simp [IntKind.wrap, IntKind.bits, IntKind.signed]; omega
      have j0 : (0 : Int) ≤ (k2 : Int) := by omega
      have j1 : (k2 : Int) < (M2 : Int) := by have := hMl.out.1; omega
      generalize L.getD k2 0 = lf at *
      have hfl : Hid (flw L k = q - lf) := Lib.hid (by omega)
      have hsub : IntKind.i64.wrap ((q : Int) - (lf : Int)) = ((q - lf : Nat) : Int) := by
        have : (q : Int) - (lf : Int) = ((q - lf : Nat) : Int) := by omega
        rw [this]; simp [IntKind.wrap, IntKind.bits, IntKind.signed]; omega
      rw [← hfl.out] at hsub
      generalize flw L k = f at *
      replace hst := Lib.hid hst
      replace hk2 := Lib.hid (And.intro hk2 True.intro)
      replace hM2 := Lib.hid (And.intro hM2 True.intro)
      replace hcp := Lib.hid hcp
      replace hll := Lib.hid (And.intro hll True.intro)
      clear hq hak hcs hA0
      go_upto_region 5 with fail
      have bA := Blk.new wr 154 #[.int .i64 (u : Nat), .int .i64 (v : Nat), .int .i64 (q : Nat)]
      have B2 := hb.alloc hb.size (.cells #[.int .i64 (u : Nat), .int .i64 (v : Nat), .int .i64 (q : Nat)] 154)
      have O2 := hO.alloc (.cells #[.int .i64 (u : Nat), .int .i64 (v : Nat), .int .i64 (q : Nat)] 154)
      have l2 := bA.lt
      have hsw := hb.size
      have hvo := hO.block_lt
      clear e0 e1 e2 hO hb
      generalize wr.alloc (.cells #[.int .i64 (u : Nat), .int .i64 (v : Nat), .int .i64 (q : Nat)] 154) = W1 at *
      generalize wr.heap.size = ab at *
      have y0 : W1.drew.cell? ⟨ab, 2, none⟩ = some (.int .i64 (q : Nat)) := by have := Blk.cell bA 2; simpa using this
      have y1 : W1.drew.cell? ⟨p.x, 0, none⟩ = some (.slice (some ⟨p.gh, 0, none⟩) M2 p.ch) := (B2.cell (p := ⟨p.x, 0, none⟩) sx).trans x0
      have y2 : W1.drew.cell? ⟨p.gh, k2 * 4 + 3, none⟩ = some (.int .i64 (lf : Nat)) := (B2.cell (p := ⟨p.gh, k2 * 4 + 3, none⟩) hgt).trans hh
      have Bd := B2.drew
      have Od := O2.drew
      clear bA B2 O2 x0 hh
      have z1 := kept_alloc y0 (.cells #[.int .i64 (f : Nat)] 3)
      have z2 := kept_alloc y1 (.cells #[.int .i64 (f : Nat)] 3)
      have z3 := kept_alloc y2 (.cells #[.int .i64 (f : Nat)] 3)
      have nab := fun k' hk' => (hvo k' hk').1
      have n1 : Hid (some ab ≠ vv.ownBlock) := Lib.hid fun e => by have := (hvo ab (Eq.symm e)).2; omega
      have n2 : Hid (some p.x ≠ vv.ownBlock) := Lib.hid fun e => by have := (hvo p.x (Eq.symm e)).1; omega
      have n3 : Hid (some p.gh ≠ vv.ownBlock) := Lib.hid fun e => by have := (hvo p.gh (Eq.symm e)).1; omega
      replace hvo := Lib.hid hvo
      (go_region_held3 (fun w' => w'.cell? ⟨ab, 2, none⟩ = some (.int .i64 (q : Nat)) ∧ w'.cell? ⟨p.x, 0, none⟩ = some (.slice (some ⟨p.gh, 0, none⟩) M2 p.ch) ∧ w'.cell? ⟨p.gh, k2 * 4 + 3, none⟩ = some (.int .i64 (lf : Nat)))
        ((first | (exact ⟨y0, y1, y2⟩) | (exact ⟨z1, z2, z3⟩) | (exact ⟨z4, z5, z6⟩) | fail))
        ((refine step_pushO (w := W1.drew) (y := (f : Int)) (T := 3) (H := W1.heap.size) (B := w1.heap.size) (v := vv) (by rfl) (.tmp 22) (.tmp 35) (by rfl) (by rfl) (by rfl) (by first | rfl | simp) Od (by have := hll.out.1; omega) (by simp; omega) ?_; intro v' w' O' g' e'; have b' : Below w1.heap.size w1 w' := Bd.grown g' Bd.size nab; have z4 := g'.cell y0 n1.out; have z5 := g'.cell y1 n2.out; have z6 := g'.cell y2 n3.out)))
      clear y0 y1 y2 z1 z2 z3 Od hvo
      go_wp2_with fail
      go_roundw
      case rel => exact ⟨k + 1, _, rfl, by omega, by go_num, by rw [hst.out, nts_append]; exact O', b'⟩
      case measure => simp [intOf]; omega
    · obtain rfl : k = M := by omega
      have i0 : ¬ (k : Int) < (k : Int) := by omega
      have hfl : (List.range k).map (flw L) = flws ac L := by unfold flws; rw [← hMl.out.1]
      rw [hfl] at hO
      obtain ⟨A1, n1, c1, rfl, hn1, hc1, -, hr1⟩ := hO.form
      have hnw := hnm.bel hb hnm.top_le
      have kr := Lib.hid (reached_any p N ac outs sink L nx lev sink hsk wr hnw hnet.out hNm (by have := hMl.out.1; omega))
      have e2 := (hb.cell (p := ⟨w.heap.size, 2, none⟩) (show w.heap.size < w1.heap.size by omega)).trans d2
      have Bw := B1.trans (hb.mono B1.size)
      replace hn1 := Lib.hid hn1
      clear hO hnw hb hfl
      obtain ⟨w5, rfl⟩ : ∃ w5, w5 = wr := ⟨_, rfl⟩
      go_wp2_with fail
      refine kr.out.mono ?_
      clear kr
      rintro e w6 ⟨g, R, rfl, hg, hAB, hreach, hb6⟩
      have hR := hreach.len
      have hcut := Lib.hid (min_cut hen.out hsr hfull.out hreach)
      have hr6 := hr1.below hb6 (Nat.le_refl _)
      have B6 := Bw.trans (hb6.mono Bw.size)
      have z5 := hr1
      have hw56 := hb6.size
      have hBg : w.heap.size ≤ g := by have := Bw.size; omega
      have hr7 : ∀ A1 n1, RI w5 A1 n1 (nts (flws ac L)) → ∀ wx, Below w5.heap.size w5 wx → RI wx A1 n1 (nts (flws ac L)) := fun A1 n1 h wx hb => h.below hb (Nat.le_refl _)
      replace hr7 := Lib.hid (hr7 A1 n1 hr1)
      have hg6 := hAB.lt
      clear hr1 hr6 z5 hreach e2 d2 d3
      replace hR := Lib.hid hR
      have hN64 : N ≤ 1048576 := hNm
      go_wp2_with fail
      go_loopw [44] (fun i wr => ∃ (k : Nat), k ≤ N ∧ i = .int .i64 (k : Nat) ∧ AB wr g (flip R k) ∧ Below w5.heap.size w5 wr) (fun i _ => N - (intOf i).toNat)
      case atStart => exact ⟨0, Nat.zero_le _, rfl, hAB, hb6⟩
      case round =>
        obtain ⟨k, hk, rfl, hA, hb⟩ := hrel
        by_cases hlt : k < N
        · have i0 : (k : Int) < (N : Int) := by omega
          have i1 : (0 : Int) ≤ (k : Int) := by omega
          have p0 := hA.cell (i := k) (by rw [flip_len, hR.out]; exact hlt)
          have p1 := hA.frozen k
          rw [flip_get (by rw [hR.out]; exact hlt)] at p0
          have hA' := hA.set k (!R.getD k false)
          rw [flip_step (by rw [hR.out]; exact hlt)] at hA'
          have hb' := hb.setCell (p := ⟨g, k, none⟩) (show w5.heap.size ≤ g by omega) (.bool (!R.getD k false))
          generalize R.getD k false = rb at *
          clear hA hb hAB hb6
          go_wp2_with fail
          go_roundw
          case rel => exact ⟨k + 1, by omega, by go_num, hA', hb'⟩
          case measure => simp [intOf]; omega
        · obtain rfl : k = N := by omega
          have i0 : ¬ (k : Int) < (k : Int) := by omega
          have hA2 : AB wr g (R.map fun b => !b) := by
            have := hA
            rw [← hR.out, flip_all] at this; exact this
          have hfin := Lib.hid (And.intro (hr7.out _ hb) (And.intro hA2 (Bw.trans (hb.mono Bw.size))))
          clear hA hb hA2 hAB hb6
          go_wp2_with fail
          go_ret3
          exact ⟨A1, n1, c1, g, val, L, R, rfl, hfin.out.1, hfin.out.2.1, hR.out, hcut.out, hfin.out.2.2⟩
theorem both_at (N : Nat) (ac : List Ar) (src sink : Nat) (A : Option Addr) (M c : Nat) (w : World) (hA : RS AE w A M ac) (hNm : N ≤ 1048576) (hM : M ≤ 1048576) (hen : ∀ a ∈ ac, a.1 < N ∧ a.2.1 < N) (hcap : CapB ac) (hsr : src < N) (hsk : sink < N) (hne : src ≠ sink) (NI sI tI : Int) (h1 : NI = (N : Nat)) (h2 : sI = (src : Nat)) (h3 : tI = (sink : Nat)) :
    Calls Tryd.prog 117 #[.agg #[.int .i64 NI, .int .i64 sI, .int .i64 tI, .slice A M c]] w (RetBoth w N ac src sink) := by
  subst h1; subst h2; subst h3
  exact both_any N ac src sink A M c w hA hNm hM hen hcap hsr hsk hne
end Go.Proofs.YticekkjambkifaaDoor.Fl

/- Package closure: Gain, the closure that adds an arc, part. -/
set_option linter.unusedVariables false
set_option linter.unusedSimpArgs false
namespace Go.Proofs.YticekkjambkifaaDoor.Fl
open Go.RowKit Go.Proofs.YticekkjambkifaaDoor CoBit

theorem and_pow (x v : Nat) : x &&& 2 ^ v = if x.testBit v = true then 2 ^ v else 0 := by
  refine Nat.eq_of_testBit_eq fun i => ?_
  rw [Nat.testBit_and, Nat.testBit_two_pow]
  by_cases h : v = i
  · subst h
    cases hx : x.testBit v
    · simp
    · simp
  · rw [decide_eq_false h, Bool.and_false]
    split
    · rw [Nat.testBit_two_pow, decide_eq_false h]
    · rw [Nat.zero_testBit]
theorem u64_bit {x v : Nat} (hx : x < 18446744073709551616) (hv : v < 64) : bits .and .u64 (x : Int) ((bitN v : Nat) : Int) = ((if x.testBit v = true then 2 ^ v else 0 : Nat) : Int) := by
  rw [← and_pow]
  exact u64_and_nat x (2 ^ v) hx (two_pow_lt hv)
theorem u64_bit' {x v : Nat} (hx : x < 18446744073709551616) (hv : v < 64) : bits .and .u64 ((bitN v : Nat) : Int) (x : Int) = ((if x.testBit v = true then 2 ^ v else 0 : Nat) : Int) := by
  rw [← and_pow, Nat.and_comm]
  exact u64_and_nat (2 ^ v) x (two_pow_lt hv) hx
theorem mask_lt {x C : Nat} (hC : C ≤ 64) (hx : ∀ v, x.testBit v = true → v < C) : x < 18446744073709551616 := by
  have h : x < 2 ^ C := Nat.lt_pow_two_of_testBit x fun i hi => by
    cases h : x.testBit i with
    | false => rfl
    | true => have := hx i h; omega
  exact Nat.lt_of_lt_of_le h (by have := Nat.pow_le_pow_right (n := 2) (by omega) hC; simpa using this)
theorem sum_take_le {l : List Nat} {b : Nat} (h : ∀ x ∈ l, x ≤ b) (k : Nat) : (l.take k).sum ≤ l.length * b := by
  induction l generalizing k with
  | nil => simp
  | cons a l ih =>
    cases k with
    | zero => simp
    | succ k =>
      rw [List.take_succ_cons, List.sum_cons, List.length_cons, Nat.succ_mul]
      have := ih (fun x hx => h x (List.mem_cons_of_mem _ hx)) k
      have := h a (List.mem_cons_self ..)
      omega
/-- The bonus of the first k nodes of a set. -/
def bonK (bs : List Nat) (x k : Nat) : Nat := (((bl x).map fun v => bs.getD v 0).take k).sum
theorem bonK_step {bs : List Nat} {x k v : Nat} (h : (bl x)[k]? = some v) : bonK bs x (k + 1) = bonK bs x k + bs.getD v 0 := by
  unfold bonK
  refine sum_take ?_
  rw [List.getElem?_map, h]; rfl
theorem bonK_all {bs : List Nat} {x k : Nat} (h : (bl x).length ≤ k) : bonK bs x k = bonus bs x := by
  unfold bonK bonus
  rw [List.take_of_length_le (by rw [List.length_map]; exact h)]
theorem bonK_le {bs : List Nat} (hb : ∀ b ∈ bs, b ≤ 4096) (x k : Nat) : bonK bs x k ≤ 262144 := by
  unfold bonK
  have h1 := sum_take_le (l := (bl x).map fun v => bs.getD v 0) (b := 4096) (fun y hy => by
    obtain ⟨v, _, rfl⟩ := List.mem_map.1 hy
    rw [List.getD_eq_getElem?_getD]
    cases h : bs[v]? with
    | none => exact Nat.zero_le _
    | some b => exact hb b (List.mem_of_getElem? h)) k
  have h2 := bl_length x
  rw [List.length_map] at h1
  have h3 : (bl x).length * 4096 ≤ 64 * 4096 := Nat.mul_le_mul_right _ h2
  omega
theorem insE_takeN {es : List (Int × Int)} {k u v C : Nat} {x : Nat} (hC : C ≤ 64) (h : es[k]? = some ((u : Int), (v : Int))) (hu : u < C) (hv : v < C) : insE (es.take (k + 1)) (bset x) = insE (es.take k) (bset x) + (if x.testBit u = true ∧ x.testBit v = true then 1 else 0) := by
  rw [show es.take (k + 1) = es.take k ++ [((u : Int), (v : Int))] from by
    obtain ⟨hk, he⟩ := List.getElem?_eq_some_iff.1 h
    rw [← he]; exact List.take_succ_eq_append_getElem hk]
  unfold insE
  rw [List.filter_append, List.length_append]
  congr 1
  have h1 := mem_bs (x := x) hu hC
  have h2 := mem_bs (x := x) hv hC
  by_cases hh : x.testBit u = true ∧ x.testBit v = true
  · rw [if_pos hh, List.filter_cons, if_pos (by simp only [decide_eq_true_eq]; exact ⟨h1.2 hh.1, h2.2 hh.2⟩)]; rfl
  · rw [if_neg hh, List.filter_cons, if_neg (by simp only [decide_eq_true_eq]; exact fun h => hh ⟨h1.1 h.1, h2.1 h.2⟩)]; rfl
theorem nts_nat {us : List Nat} {j : Nat} {y : Int} (h : (nts us)[j]? = some y) : ∃ u : Nat, y = (u : Int) ∧ us[j]? = some u := by
  unfold nts at h
  rw [List.getElem?_map] at h
  cases hu : us[j]? with
  | none => rw [hu] at h; cases h
  | some u => rw [hu] at h; injection h with h; exact ⟨u, h.symm, rfl⟩
theorem nts_of {us : List Nat} {j u : Nat} (h : us[j]? = some u) : (nts us)[j]? = some (u : Int) := by
  unfold nts
  rw [List.getElem?_map, h]; rfl
theorem getD_nat {us : List Nat} {j u : Nat} (h : us[j]? = some u) : us.getD j 0 = u := by rw [List.getD_eq_getElem?_getD, h]; rfl
set_option maxRecDepth 100000 in
set_option maxHeartbeats 4000000 in
theorem gain_any (EA WA BA CA : Option Addr) (ec wc bc cc m C F x : Nat) (es : List (Int × Int)) (bs : List Nat) (hp : Prb es bs C F) (hx : ∀ v, x.testBit v = true → v < C) (w : World) (hE : RE w EA m es) (hW : RI w WA m (List.replicate m 1)) (hB : RI w BA C (nts bs)) (hC : RI w CA C (List.replicate C 1)) (hT : Tab w) :
    Calls Tryd.prog 92 #[.agg #[.slice EA m ec, .slice WA m wc, .slice BA C bc, .slice CA C cc, .int .u64 (F : Nat), .int .u64 0], .int .u64 (x : Nat)] w fun e w' => e = .returned (.tuple #[.int .i64 (wtI es bs x : Nat), .int .i64 (pop x : Nat)]) ∧ Below w.heap.size w w' := by
  have hxl := mask_lt hp.small hx
  have hm : m ≤ 4096 := by rw [← hE.len]; exact hp.elen
  have hC64 := hp.small
  have b0 := Blk.new w 114 #[.slice EA m ec, .slice WA m wc, .slice BA C bc, .slice CA C cc, .int .u64 (F : Nat), .int .u64 0]
  have B0 : Below w.heap.size w (w.alloc (.cells #[.slice EA m ec, .slice WA m wc, .slice BA C bc, .slice CA C cc, .int .u64 (F : Nat), .int .u64 0] 114)) := (Below.refl _ w).alloc (Nat.le_refl _) _
  have hE1 := hE.alloc (.cells #[.slice EA m ec, .slice WA m wc, .slice BA C bc, .slice CA C cc, .int .u64 (F : Nat), .int .u64 0] 114)
  have hW1 := hW.alloc (.cells #[.slice EA m ec, .slice WA m wc, .slice BA C bc, .slice CA C cc, .int .u64 (F : Nat), .int .u64 0] 114)
  have hB1 := hB.alloc (.cells #[.slice EA m ec, .slice WA m wc, .slice BA C bc, .slice CA C cc, .int .u64 (F : Nat), .int .u64 0] 114)
  have hC1 := hC.alloc (.cells #[.slice EA m ec, .slice WA m wc, .slice BA C bc, .slice CA C cc, .int .u64 (F : Nat), .int .u64 0] 114)
  have hT1 := hT.alloc (.cells #[.slice EA m ec, .slice WA m wc, .slice BA C bc, .slice CA C cc, .int .u64 (F : Nat), .int .u64 0] 114)
  go_enter Tryd.func92, Tryd.ntmps92
  go_upto_region 1 with fail
  have hbl := b0.lt
  generalize w.alloc (.cells #[.slice EA m ec, .slice WA m wc, .slice BA C bc, .slice CA C cc, .int .u64 (F : Nat), .int .u64 0] 114) = W at *
  have c0 := Blk.cell b0 0
  have c1 := Blk.cell b0 1
  have c2 := Blk.cell b0 2
  have c3 := Blk.cell b0 3
  simp at c0 c1 c2 c3
  replace hp := Lib.hid hp
  replace hx := Lib.hid hx
  clear hE hW hB hC hT b0
  go_upto_region 2 with fail
  go_loopw [4, 13] (fun s i wr => ∃ (k : Nat), k ≤ m ∧ i = .int .i64 (k : Nat) ∧ s = .int .i64 (insE (es.take k) (bset x) : Nat) ∧ Below W.heap.size W wr) (fun _ i _ => m - (intOf i).toNat)
  case atStart => exact ⟨0, Nat.zero_le _, rfl, rfl, Below.refl _ _⟩
  case round =>
    obtain ⟨k, hk, rfl, rfl, hb⟩ := hrel
    by_cases hlt : k < m
    · have i0 : (k : Int) < (m : Int) := by omega
      have i1 : (0 : Int) ≤ (k : Int) := by omega
      obtain ⟨ad, a, b, rfl, hab, he, e0, e1⟩ := (RE.below hE1 hb (Nat.le_refl _)).get hlt
      obtain ⟨u, v, huv, h2, h3, h4, h5⟩ := hp.out.at_ (i := k) (by rw [hE1.len]; exact hlt)
      have hek : es.getD k (0, 0) = (a, b) := by rw [List.getD_eq_getElem?_getD, he.out]; rfl
      rw [hek] at huv
      injection huv with hu hv
      subst hu; subst hv
      have hst := insE_takeN (x := x) hC64 he.out (show u < C by omega) h3
      have hsl : insE (es.take k) (bset x) ≤ 4096 := Nat.le_trans (insE_le _ _) (by rw [List.length_take]; omega)
      obtain ⟨wd, y, rfl, hy, hcy⟩ := (RI.below hW1 hb (Nat.le_refl _)).get hlt
      obtain rfl : y = 1 := by
        have := hy.out
        rw [List.getElem?_replicate, if_pos hlt] at this
        injection this with this; exact this.symm
      have f0 := (hb.cell (p := ⟨w.heap.size, 1, none⟩) hbl).trans c1
      have a1 := u64_bit hxl (show u < 64 by omega)
      have a2 := u64_bit hxl (show v < 64 by omega)
      have k1 := Lib.hid (fun w => bit_any u (show u < 64 by omega) w)
      have k2 := Lib.hid (fun w => bit_any v (show v < 64 by omega) w)
      have hwdb : wd.block < W.heap.size := by
        obtain ⟨ad', hA', hb'⟩ := hW1.2 (by omega)
        injection hA' with hA'; rw [hA']; exact hb'.1
      have p1 : (0 : Nat) < 2 ^ u := Nat.two_pow_pos u
      have p2 : (0 : Nat) < 2 ^ v := Nat.two_pow_pos v
      generalize bitN u = bu at *
      generalize bitN v = bv at *
      generalize (2 : Nat) ^ u = pu at *
      generalize (2 : Nat) ^ v = pv at *
      have hst2 : insE (es.take k) (bset x) + 1 ≤ 4097 := by omega
      generalize hS : insE (es.take k) (bset x) = sk at *
      replace hst := Lib.hid hst
      replace hy := Lib.hid True.intro
      clear hS he hek hbl
      have bE := Blk.new wr 73 #[.int .i64 (u : Nat), .int .i64 (v : Nat)]
      have B2 := hb.alloc hb.size (.cells #[.int .i64 (u : Nat), .int .i64 (v : Nat)] 73)
      cases tu : x.testBit u
      · rw [tu] at a1 hst
        have hst3 := hst.out
        rw [if_neg (by simp)] at hst3 a1
        replace hst3 := Lib.hid hst3
        clear hst tu a2 k2
        go_wp2_with (first | (go_at_call 97; (with_reducible refine (k1.out _).mono ?_); rintro e wx ⟨rfl, hq⟩; obtain rfl := hq) | fail)
        go_roundw
        case rel => exact ⟨k + 1, by omega, by go_num, by rw [hst3.out]; rfl, B2⟩
        case measure => simp [intOf]; omega
      · cases tv : x.testBit v
        · rw [tu, tv] at hst
          rw [tu] at a1
          rw [tv] at a2
          have hst3 := hst.out
          rw [if_neg (by simp)] at hst3 a2
          rw [if_pos rfl] at a1
          replace hst3 := Lib.hid hst3
          have q1 : ((pu : Int) != 0) = true := by simp; omega
          clear hst tu tv
          go_wp2_with (first | (go_at_call 97; (with_reducible refine (k1.out _).mono ?_); rintro e wx ⟨rfl, hq⟩; obtain rfl := hq) | (go_at_call 97; (with_reducible refine (k2.out _).mono ?_); rintro e wx ⟨rfl, hq⟩; obtain rfl := hq) | fail)
          go_roundw
          case rel => exact ⟨k + 1, by omega, by go_num, by rw [hst3.out]; rfl, B2⟩
          case measure => simp [intOf]; omega
        · rw [tu, tv] at hst
          rw [tu] at a1
          rw [tv] at a2
          have hst3 := hst.out
          rw [if_pos ⟨rfl, rfl⟩] at hst3
          rw [if_pos rfl] at a1 a2
          replace hst3 := Lib.hid hst3
          have q1 : ((pu : Int) != 0) = true := by simp; omega
          have q2 : ((pv : Int) != 0) = true := by simp; omega
          have g0 := kept_alloc f0 (.cells #[.int .i64 (u : Nat), .int .i64 (v : Nat)] 73)
          have g1 := (World.cell?_alloc_lt wr (.cells #[.int .i64 (u : Nat), .int .i64 (v : Nat)] 73) _ (World.block_lt_of_cell? wr _ hcy)).trans hcy
          clear hst tu tv
          go_wp2_with (first | (go_at_call 97; (with_reducible refine (k1.out _).mono ?_); rintro e wx ⟨rfl, hq⟩; obtain rfl := hq) | (go_at_call 97; (with_reducible refine (k2.out _).mono ?_); rintro e wx ⟨rfl, hq⟩; obtain rfl := hq) | fail)
          go_roundw
          case rel => exact ⟨k + 1, by omega, by go_num, by rw [hst3.out]; rfl, B2⟩
          case measure => simp [intOf]; omega
    · obtain rfl : k = m := by omega
      have i0 : ¬ (k : Int) < (k : Int) := by omega
      have hal : es.take k = es := List.take_of_length_le (by rw [hE1.len]; exact Nat.le_refl _)
      rw [hal]
      have hsl : insE es (bset x) ≤ 4096 := Nat.le_trans (insE_le _ _) hp.out.elen
      have hwt : Hid (wtI es bs x = insE es (bset x) + bonus bs x) := Lib.hid rfl
      have kl := Lib.hid (list_any x hxl wr (hT1.keep hb))
      have hbw := B0.trans (hb.mono B0.size)
      have sw0 := hb.size
      have d2 := (hb.cell (p := ⟨w.heap.size, 2, none⟩) hbl).trans c2
      have d3 := (hb.cell (p := ⟨w.heap.size, 3, none⟩) hbl).trans c3
      have hB2 := RI.below hB1 hb (Nat.le_refl _)
      have hC2 := RI.below hC1 hb (Nat.le_refl _)
      generalize insE es (bset x) = sE at *
      obtain ⟨w2, rfl⟩ : ∃ w2, w2 = wr := ⟨_, rfl⟩
      clear hE1 hW1 hB1 hC1 hT1 hal c0 c1 c2 c3 hb
      go_wp2_with fail
      refine kl.out.mono ?_
      clear kl
      rintro e w3 ⟨A3, n3, c3, rfl, hn3, hr3, hb3, hf3⟩
      have hl3 := hr3.len
      rw [nts_length] at hl3
      have hn64 : n3 ≤ 64 := by have := bl_length x; omega
      have e2 := (hb3.cell (p := ⟨w.heap.size, 2, none⟩) (show w.heap.size < w2.heap.size by omega)).trans d2
      have e3 := (hb3.cell (p := ⟨w.heap.size, 3, none⟩) (show w.heap.size < w2.heap.size by omega)).trans d3
      have hB3 := RI.below hB2 hb3 (Nat.le_refl _)
      have hC3 := RI.below hC2 hb3 (Nat.le_refl _)
      have B3 := hbw.trans (hb3.mono hbw.size)
      have sw3 := hb3.size
      replace hl3 := Lib.hid (And.intro hl3 True.intro)
      clear hB2 hC2 d2 d3 hb3 hf3
      go_wp2_with fail
      go_loopw [4, 5, 43] (fun s t i wr => ∃ (k : Nat), k ≤ n3 ∧ i = .int .i64 (k : Nat) ∧ s = .int .i64 ((sE : Int) + (bonK bs x k : Nat)) ∧ t = .int .i64 (k : Nat) ∧ wr = w3) (fun _ _ i _ => n3 - (intOf i).toNat)
      case atStart => exact ⟨0, Nat.zero_le _, rfl, by simp [bonK], rfl, rfl⟩
      case round =>
        obtain ⟨k, hk, rfl, rfl, rfl, hw⟩ := hrel
        by_cases hlt : k < n3
        · have i1 : (k : Int) < (n3 : Int) := by omega
          have i2 : (0 : Int) ≤ (k : Int) := by omega
          obtain ⟨ad, y, rfl, hy, hcy⟩ := hr3.get hlt
          obtain ⟨v, rfl, hv⟩ := nts_nat hy.out
          have hvm := List.mem_of_getElem? hv
          have hvC := hx.out v (mem_bl.1 hvm).2
          obtain ⟨bd, yb, rfl, hyb, hcb⟩ := hB3.get hvC
          obtain ⟨b, rfl, hbb⟩ := nts_nat hyb.out
          obtain ⟨cd, yc, rfl, hyc, hcc⟩ := hC3.get hvC
          obtain rfl : yc = 1 := by
            have := hyc.out
            rw [List.getElem?_replicate, if_pos hvC] at this
            injection this with this; exact this.symm
          have hst := bonK_step (bs := bs) hv
          rw [getD_nat hbb] at hst
          have hbl1 := bonK_le hp.out.bsm x k
          have hbl2 := hp.out.bsm b (List.mem_of_getElem? hbb)
          have i3 : (0 : Int) ≤ (v : Int) := by omega
          have i4 : (v : Int) < (C : Int) := by omega
          generalize bonK bs x k = bk at *
          have hsum : (sE : Int) + (bk : Int) + (b : Int) = (sE : Int) + ((bk + b : Nat) : Int) := by omega
          have w1 : -9223372036854775808 ≤ (sE : Int) + (bk : Int) + (b : Int) := by omega
          have w4 : (sE : Int) + (bk : Int) + (b : Int) ≤ 9223372036854775807 := by omega
          replace hst := Lib.hid hst
          subst hw
          clear hy hv hvm hyb hyc hbb
          replace hsum := Lib.hid hsum
          go_wp2_with fail
          go_roundw
          case rel => exact ⟨k + 1, by omega, by go_num, by rw [hst.out]; rw [hsum.out], by go_num, by first | rfl | trivial⟩
          case measure => simp [intOf]; omega
        · obtain rfl : k = n3 := by omega
          have i1 : ¬ (k : Int) < (k : Int) := by omega
          have hpop : Hid (pop x = k) := Lib.hid (by rw [pop_bl]; exact hl3.out.1)
          rw [bonK_all (by have := hl3.out.1; omega)]
          subst hw
          generalize bonus bs x = bb at *
          go_wp2_with fail
          go_ret2
          refine ⟨?_, B3⟩
          rw [hwt.out, hpop.out]; rfl
end Go.Proofs.YticekkjambkifaaDoor.Fl

/- Package closure: the closure that adds an arc, and part. -/
set_option linter.unusedVariables false
set_option linter.unusedSimpArgs false
namespace Go.Proofs.YticekkjambkifaaDoor.Fl
open Go.RowKit Go.Proofs.YticekkjambkifaaDoor CoBit

theorem bit_same (v : Nat) (hv : v < 64) (w : World) :
    Calls Tryd.prog 97 #[.int .i64 v] w fun e w' => e = .returned (.int .u64 (CoBit.bitN v : Nat)) ∧ w' = w :=
  (bit_any v hv w).mono (fun _ _ h => ⟨h.1, h.2.symm⟩)
theorem u64_orB {x b : Nat} (hx : x < 18446744073709551616) (hb : b < 64) : bits .or .u64 (x : Int) ((bitN b : Nat) : Int) = ((x ||| 2 ^ b : Nat) : Int) := bits_or_u64_nat x (2 ^ b) hx (two_pow_lt hb)
/-- The nodes below k that are free and lie on the source's side. -/
def MK (F : Nat) (S : Nat → Bool) (k x : Nat) : Prop := ∀ v, x.testBit v = (decide (v < k) && (F.testBit v && S (2 + v)))
theorem MK.zero (F : Nat) (S : Nat → Bool) : MK F S 0 0 := fun v => by simp
theorem MK.no {F k x : Nat} {S : Nat → Bool} (h : MK F S k x) (hf : (F.testBit k && S (2 + k)) = false) : MK F S (k + 1) x := fun v => by
  rw [h v]
  by_cases e : v = k
  · subst e; rw [hf]; simp
  · by_cases h1 : v < k
    · rw [decide_eq_true h1, decide_eq_true (show v < k + 1 by omega)]
    · rw [decide_eq_false h1, decide_eq_false (show ¬ v < k + 1 by omega)]
theorem MK.yes {F k x : Nat} {S : Nat → Bool} (h : MK F S k x) (hf : (F.testBit k && S (2 + k)) = true) : MK F S (k + 1) (x ||| 2 ^ k) := fun v => by
  rw [Nat.testBit_or, Nat.testBit_two_pow, h v]
  by_cases e : v = k
  · subst e; rw [hf]; simp
  · rw [decide_eq_false (show ¬ k = v by omega), Bool.or_false]
    by_cases h1 : v < k
    · rw [decide_eq_true h1, decide_eq_true (show v < k + 1 by omega)]
    · rw [decide_eq_false h1, decide_eq_false (show ¬ v < k + 1 by omega)]
theorem MK.lt {F k x : Nat} {S : Nat → Bool} (h : MK F S k x) (hk : k ≤ 64) : x < 18446744073709551616 := mask_lt hk fun v hv => by
  rw [h v, Bool.and_eq_true, decide_eq_true_eq] at hv; exact hv.1
theorem map_not_get {R : List Bool} {i : Nat} (hi : i < R.length) : (R.map fun b => !b).getD i false = !R.getD i false := by
  rw [List.getD_eq_getElem?_getD, List.getElem?_map, List.getD_eq_getElem?_getD, List.getElem?_eq_getElem hi]; rfl
theorem u64_and0 (z : Nat) (hz : z < 18446744073709551616) : bits .andNot .u64 (z : Int) 0 = (z : Int) := by
  have := u64_andNot_nat z 0 hz (by omega)
  rw [show (18446744073709551615 - 0 : Nat) = 2 ^ 64 - 1 by decide, Nat.and_two_pow_sub_one_of_lt_two_pow (by simpa using hz)] at this
  exact this
theorem kpB {w w' : World} (h : Below w.heap.size w w') {b o : Nat} {v : Value} (hv : w.cell? ⟨b, o, none⟩ = some v) : w'.cell? ⟨b, o, none⟩ = some v := (h.cell (p := ⟨b, o, none⟩) (World.block_lt_of_cell? w _ hv)).trans hv
theorem tyAE : Ty AE 150 154 24 := ⟨Tryd.underlying150, .agg #[.int .i64 0, .int .i64 0, .int .i64 0], by kernel_rfl, rfl⟩
/-- append of one arc, and where the row lies then. -/
theorem wpList_pushA {ops : Array Oper} {rest : List Oper} {o : Oper} {a : Act} {Q : Exit → Act → World → Prop} {w : World} {T B H : Nat} {v : Value} {ys : List Ar} {y : Ar} {cs : Array Value}
    (hgd : o.guard = none) (s x : Operand) (ho : o.op = .call { callee := .builtin .append, args := #[s, x], argTypes := #[150, 150] })
    (hs : a.eval s = v) (hx : a.eval x = .slice (some ⟨H, 0, none⟩) 1 1) (hH : H = w.heap.size) (hcs : cs = (AE.all [y]).toArray) (hown : OS AE 154 w B v ys) (hn : ys.length ≤ 1099511627776) (hB : B ≤ w.heap.size)
    (h : ∀ P n c w', OS AE 154 w' B (.slice P n c) (ys ++ [y]) → w.grownBy w' v.ownBlock → (Value.ownBlock (.slice P n c) = v.ownBlock ∨ ∃ k, Value.ownBlock (.slice P n c) = some k ∧ w.heap.size ≤ k) → wpList Tryd.prog ops Q rest (a.put o.dst (.slice P n c)) w') :
    wpList Tryd.prog ops Q (o :: rest) a (w.alloc (.cells cs T)) := by
  obtain ⟨z, hi, hzs⟩ := tyAE.info
  obtain ⟨i0, hi0, hz0, hz1, hz2⟩ := info_parts hi
  subst hH
  refine wpList_append_any _ hgd s x _ ho B 154 i0 _ 3 24 Tryd.underlying150 hi0 hz0 hz1 hz2 hzs (by omega) v ys.length (AE.all ys) hs (World.ownsRow.alloc hown _) _ _ 1 1 (AE.all [y]) hx (RS.blk (Blk.new _ _ _) hcs rfl) (AE.all_one _) (by unfold maxLen; omega) (by omega) (by simp; omega) ?_
  intro v' w' h1 h2 h3
  obtain ⟨P, c, rfl, -, -⟩ := own_form h1
  refine h P _ c w' ?_ (grown_pre h2) ?_
  · unfold OS
    rw [List.length_append, AE.all_append]; exact h1
  · rcases h3 with h3 | h3
    · exact .inl h3
    · exact .inr ⟨_, h3, by simp⟩
set_option maxRecDepth 100000 in
set_option maxHeartbeats 1000000 in
theorem arc_any (g B f t q N : Nat) (v : Value) (xs : List Ar) (w : World) (hg : Blk w g 152 #[.int .i64 (N : Nat), .int .i64 0, .int .i64 1, v]) (hO : OS AE 154 w B v xs) (hgB : g < B) (hB : B ≤ w.heap.size) (hx : xs.length ≤ 1048576) :
    Calls Tryd.prog 116 #[.int .i64 (f : Nat), .int .i64 (t : Nat), .int .i64 (q : Nat), .pointer (some ⟨g, 0, none⟩)] w fun e w' => ∃ v', e = .returned (.int .i64 (xs.length : Nat)) ∧ Blk w' g 152 #[.int .i64 (N : Nat), .int .i64 0, .int .i64 1, v'] ∧ OS AE 154 w' B v' (xs ++ [(f, t, q)]) ∧ Same (fun k => k = g ∨ v.ownBlock = some k) w w' ∧ (v'.ownBlock = v.ownBlock ∨ ∃ k, v'.ownBlock = some k ∧ w.heap.size ≤ k) := by
  obtain ⟨A, n, c, rfl, hn, hc, -, -, -⟩ := hO.form
  have c3 := Blk.cell hg 3
  simp at c3
  have f3 := Blk.frozen hg 3
  have hgw := hg.lt
  have hbk := hO.block_lt
  have hne : Hid (some g ≠ (Value.slice A n c).ownBlock) := Lib.hid fun e => by have := (hbk g e.symm).1; omega
  replace hn := Lib.hid hn
  have hbk' := Lib.hid hbk
  clear hbk
  go_enter Tryd.func116, Tryd.ntmps116
  go_upto_region 1 with fail
  go_upto_region 2 with (at_builtin; refine wpList_pushA (y := (f, t, q)) rfl _ _ rfl rfl rfl (by first | rfl | simp) rfl hO (by omega) hB ?_; intro A' n' c' w' O' g' e'; have hnn := O'.form; obtain ⟨A2, n2, c2, hv2, hn2, hc2, -, -, -⟩ := hnn; injection hv2 with hv2 hv3 hv4; subst hv3; have d3 := g'.cell c3 hne.out; have h3 := (World.frozen?_of_block (g'.block g hgw hne.out)).trans f3; have hgr := Lib.hid g'; have hO' := Lib.hid O'; have hee := Lib.hid e'; replace hn2 := Lib.hid hn2; clear O' g' e' hv2 hv4 hc2)
  have hsz := hgr.out.size
  have bg := (hg.grown hgr.out hne.out).set 3 (.slice A' n' c')
  simp at bg
  have O2 := OS.set_far hO'.out (p := ⟨g, 3, none⟩) hgB (.slice A' n' c')
  have S2 : Same (fun k => k = g ∨ (Value.slice A n c).ownBlock = some k) w (w'.setCell ⟨g, 3, none⟩ (.slice A' n' c')) :=
    ((Same.of_grown hgr.out).mono (fun k _ e => .inr e)).trans (Same.set w' g 3 _) (fun k _ e => .inl e)
  have d4 := Blk.cell bg 3
  simp at d4
  have hln : Hid (n' = xs.length + 1) := Lib.hid (by rw [hn2.out, List.length_append]; rfl)
  have hnb : n' ≤ 1048577 := by have := hln.out; omega
  replace bg := Lib.hid bg
  replace O2 := Lib.hid O2
  replace S2 := Lib.hid S2
  have j0 : -9223372036854775808 ≤ (n' : Int) - 1 := by omega
  have j1 : (n' : Int) - 1 ≤ 9223372036854775807 := by omega
  generalize w'.setCell ⟨g, 3, none⟩ (.slice A' n' c') = w2 at *
  clear hgr hO' hsz d3 h3 hO hbk' hg c3 f3 hne
  go_wp2_with fail
  go_ret
  refine ⟨_, retInt ?_, bg.out, O2.out, S2.out, hee.out⟩
  have := hln.out
  omega
theorem arc_at (g B f t q N : Nat) (v : Value) (xs : List Ar) (w : World) (hg : Blk w g 152 #[.int .i64 (N : Nat), .int .i64 0, .int .i64 1, v]) (hO : OS AE 154 w B v xs) (hgB : g < B) (hB : B ≤ w.heap.size) (hx : xs.length ≤ 1048576) (fI tI qI : Int) (h1 : fI = (f : Nat)) (h2 : tI = (t : Nat)) (h3 : qI = (q : Nat)) :
    Calls Tryd.prog 116 #[.int .i64 fI, .int .i64 tI, .int .i64 qI, .pointer (some ⟨g, 0, none⟩)] w fun e w' => ∃ v', e = .returned (.int .i64 (xs.length : Nat)) ∧ Blk w' g 152 #[.int .i64 (N : Nat), .int .i64 0, .int .i64 1, v'] ∧ OS AE 154 w' B v' (xs ++ [(f, t, q)]) ∧ Same (fun k => k = g ∨ v.ownBlock = some k) w w' ∧ (v'.ownBlock = v.ownBlock ∨ ∃ k, v'.ownBlock = some k ∧ w.heap.size ≤ k) := by
  subst h1; subst h2; subst h3
  exact arc_any g B f t q N v xs w hg hO hgB hB hx
theorem pair_info : (Tryd.prog.info? 157).map (fun i => (i.zero, i.size, i.bytes)) = some (some (.agg #[.int .i64 0, .int .i64 0]), 2, 16) := by kernel_rfl
/-- make of a slice of pairs. -/
theorem wpList_makeP {ops : Array Oper} {rest : List Oper} {o : Oper} {a : Act} {Q : Exit → Act → World → Prop} {w : World} {L C : Int} {n : Nat}
    (hg : o.guard = none) (l c : Operand) (hop : o.op = Op.makeSlice 156 l c) (hl : a.eval l = .int .i64 L) (hc : a.eval c = .int .i64 C) (hL : L = (n : Int)) (hC : C = (n : Int)) (hn : n ≤ 1099511627776)
    (h : ∀ w' cs, Blk w' w.heap.size 157 cs → cs.size = n * 2 → w.grownBy w' none → wpList Tryd.prog ops Q rest (a.put o.dst (.slice (some ⟨w.heap.size, 0, none⟩) n n)) w') :
    wpList Tryd.prog ops Q (o :: rest) a w := by
  obtain ⟨i0, hi0, hz0, hz1, hz2⟩ := info_parts pair_info
  refine wpList_make_full w hg l c 156 hop w.heap.size 157 i0 _ 2 Tryd.underlying156 hi0 hz0 hz1 _ _ L C n hl hc hL hC (by rw [hz2]; omega) (by unfold maxLen; omega) (Nat.le_refl _) ?_
  intro w' h1 h2
  rcases h1.2 with ⟨hv, _⟩ | ⟨g, cap, cur, hv, _, hh, _, _, hsz, _⟩
  · cases hv
  · injection hv with e1 e2 e3
    injection e1 with e1
    injection e1 with e1 _ _
    subst e1; subst e3
    exact h w' cur hh hsz h2
/-- What stays when an arc is added. -/
theorem arc_keep {W w w' : World} {b3 g1 : Nat} {v v' : Value} {t : TypeId} {cs : Array Value} (hs : Same (fun k => k = b3) W w) (s : Same (fun k => k = b3 ∨ v.ownBlock = some k) w w') (hvb : ∀ k, v.ownBlock = some k → W.heap.size ≤ k) (hg : Blk w g1 t cs) (hg3 : g1 ≠ b3) (hn : ∀ k, v.ownBlock = some k → k ≠ g1) (ho : v'.ownBlock = v.ownBlock ∨ ∃ k, v'.ownBlock = some k ∧ w.heap.size ≤ k) :
    Same (fun k => k = b3) W w' ∧ Blk w' g1 t cs ∧ ∀ k, v'.ownBlock = some k → k ≠ g1 := by
  refine ⟨hs.trans s (fun k hk e => ?_), s.blk hg (fun e => ?_), fun k hk => ?_⟩
  · rcases e with e | e
    · exact e
    · have := hvb k e; omega
  · rcases e with e | e
    · exact hg3 e
    · exact hn g1 e rfl
  · rcases ho with ho | ⟨k', ho, h2⟩
    · exact hn k (by rw [← ho]; exact hk)
    · rw [ho] at hk; injection hk with hk; have := hg.lt; omega
/-- The first k pairs of the edges' arcs. -/
def FS (cs : Array Value) (o k : Nat) : Prop := ∀ j, j < k → cs[j * 2]? = some (.int .i64 ((o + 3 * j + 1 : Nat) : Int)) ∧ cs[j * 2 + 1]? = some (.int .i64 ((o + 3 * j + 2 : Nat) : Int))
theorem FS.set {cs : Array Value} {o k i : Nat} (h : FS cs o k) (hi : k * 2 ≤ i) (v : Value) : FS (cs.setIfInBounds i v) o k := fun j hj => by
  rw [Array.getElem?_setIfInBounds, if_neg (by omega), Array.getElem?_setIfInBounds, if_neg (by omega)]
  exact h j hj
theorem FS.next {cs : Array Value} {o k : Nat} (h : FS cs o k) (h0 : cs[k * 2]? = some (.int .i64 ((o + 3 * k + 1 : Nat) : Int))) (h1 : cs[k * 2 + 1]? = some (.int .i64 ((o + 3 * k + 2 : Nat) : Int))) : FS cs o (k + 1) := fun j hj => by
  rcases Nat.lt_or_ge j k with hlt | hge
  · exact h j hlt
  · obtain rfl : j = k := by omega
    exact ⟨h0, h1⟩
/-- What stays when a pair's cell is set. -/
theorem cell_keep {W w : World} {b3 g1 B : Nat} {v : Value} {t tn : TypeId} {cs cn : Array Value} {xs : List Ar} (hs : Same (fun k => k = b3) W w) (hN : Blk w b3 tn cn) (hO : OS AE 154 w B v xs) (hg : Blk w g1 t cs) (hW : W.heap.size ≤ g1) (hg3 : g1 ≠ b3) (hn : ∀ k, v.ownBlock = some k → k ≠ g1) (i : Nat) (u : Value) :
    Same (fun k => k = b3) W (w.setCell ⟨g1, i, none⟩ u) ∧ Blk (w.setCell ⟨g1, i, none⟩ u) b3 tn cn ∧ OS AE 154 (w.setCell ⟨g1, i, none⟩ u) B v xs ∧ Blk (w.setCell ⟨g1, i, none⟩ u) g1 t (cs.setIfInBounds i u) :=
  ⟨hs.trans (Same.set w g1 i u) (fun k hk e => by have e' : k = g1 := e; omega), hN.far (p := ⟨g1, i, none⟩) (fun e => hg3 e.symm) u, hO.kept (grown_setB (World.grownBy.refl w (some g1)) i u) (.inr fun e => hn g1 e rfl), hg.set i u⟩
set_option maxRecDepth 100000 in
set_option maxHeartbeats 1000000 in
/-- What an edge gives to its first end: what does not go to its second one. -/
theorem part_any (EA WA BA CA : Option Addr) (ec wc bc cc m C F : Nat) (i : Int) (a0 a1 f0 f1 D : Nat) (FA : Option Addr) (fm fc : Nat) (fl : List Nat) (w : World) (hF : RI w FA fm (nts fl)) (h0 : fl[a0]? = some f0) (h1 : fl[a1]? = some f1) (hb0 : f0 ≤ 1099511627776) (hb1 : f1 ≤ 1099511627776) (hD : D ≤ 1099511627776) (hfm : fm ≤ 1048576) :
    Calls Tryd.prog 118 #[.agg #[.slice EA m ec, .slice WA m wc, .slice BA C bc, .slice CA C cc, .int .u64 (F : Nat), .int .u64 0], .int .i64 i, .agg #[.int .i64 (a0 : Nat), .int .i64 (a1 : Nat)], .slice FA fm fc, .int .i64 (D : Nat)] w fun e w' => e = .returned (.int .i64 ((D : Int) - (f1 : Nat))) ∧ Below w.heap.size w w' := by
  have hlf := hF.len
  rw [nts_length] at hlf
  have l0 : a0 < fm := by have := (List.getElem?_eq_some_iff.1 h0).1; omega
  have l1 : a1 < fm := by have := (List.getElem?_eq_some_iff.1 h1).1; omega
  obtain ⟨ad, y0, rfl, hy0, hc0⟩ := hF.get l0
  obtain ⟨ad', y1, hA', hy1, hc1⟩ := hF.get l1
  injection hA' with hA'
  subst hA'
  obtain rfl : y0 = (f0 : Nat) := by
    have := hy0.out
    rw [nts_of h0] at this
    injection this with this; exact this.symm
  obtain rfl : y1 = (f1 : Nat) := by
    have := hy1.out
    rw [nts_of h1] at this
    injection this with this; exact this.symm
  have j0 : (0 : Int) ≤ (a0 : Int) := by omega
  have j1 : (0 : Int) ≤ (a1 : Int) := by omega
  have j2 : (a0 : Int) < (fm : Int) := by omega
  have j3 : (a1 : Int) < (fm : Int) := by omega
  have hfb : ad.block < w.heap.size := by
    obtain ⟨ad', hA', hb'⟩ := hF.2 (by omega)
    injection hA' with hA'; rw [hA']; exact hb'.1
  have hres : (f0 : Int) + ((D : Int) - (f0 : Int) - (f1 : Int)) = (D : Int) - (f1 : Int) := by omega
  have w0 : -9223372036854775808 ≤ (D : Int) - (f0 : Int) := by omega
  have w1 : (D : Int) - (f0 : Int) ≤ 9223372036854775807 := by omega
  have w2 : -9223372036854775808 ≤ (D : Int) - (f0 : Int) - (f1 : Int) := by omega
  have w3 : (D : Int) - (f0 : Int) - (f1 : Int) ≤ 9223372036854775807 := by omega
  have w4 : -9223372036854775808 ≤ (f0 : Int) + ((D : Int) - (f0 : Int) - (f1 : Int)) := by omega
  have w5 : (f0 : Int) + ((D : Int) - (f0 : Int) - (f1 : Int)) ≤ 9223372036854775807 := by omega
  have hge0 : ¬ (a0 : Int) < 0 := by omega
  have hge1 : ¬ (a1 : Int) < 0 := by omega
  replace hres := Lib.hid hres
  clear h0 h1 hF hlf hy0 hy1 l0 l1
  go_enter Tryd.func118, Tryd.ntmps118
  have o1 : Value := .bool true
  have bF : Blk (((w.alloc (.cells #[.slice EA m ec, .slice WA m wc, .slice BA C bc, .slice CA C cc, .int .u64 (F : Nat), .int .u64 0] 114)).alloc (.cells #[.int .i64 (a0 : Nat), .int .i64 (a1 : Nat)] 157)).alloc (.cells #[.int .i64 0, .int .i64 0] 157)) (w.heap.size + 1) 157 #[.int .i64 (a0 : Nat), .int .i64 (a1 : Nat)] := Blk.alloc (Blk.new' _ _ _ (by simp)) _
  have bS : Blk (((w.alloc (.cells #[.slice EA m ec, .slice WA m wc, .slice BA C bc, .slice CA C cc, .int .u64 (F : Nat), .int .u64 0] 114)).alloc (.cells #[.int .i64 (a0 : Nat), .int .i64 (a1 : Nat)] 157)).alloc (.cells #[.int .i64 0, .int .i64 0] 157)) (w.heap.size + 2) 157 #[.int .i64 0, .int .i64 0] := Blk.new' _ _ _ (by simp)
  have BB : Below w.heap.size w (((w.alloc (.cells #[.slice EA m ec, .slice WA m wc, .slice BA C bc, .slice CA C cc, .int .u64 (F : Nat), .int .u64 0] 114)).alloc (.cells #[.int .i64 (a0 : Nat), .int .i64 (a1 : Nat)] 157)).alloc (.cells #[.int .i64 0, .int .i64 0] 157)) := (((Below.refl _ w).alloc (Nat.le_refl _) _).alloc (by simp) _).alloc (by simp; omega) _
  clear o1
  have x0 : ∀ w, (Instr.index 157 (.agg #[.int .i64 (a0 : Nat), .int .i64 (a1 : Nat)]) (.int .i64 0)).run Tryd.prog w = .ok (.int .i64 (a0 : Nat)) w := fun _ => by kernel_rfl
  have x1 : ∀ w, (Instr.index 157 (.agg #[.int .i64 (a0 : Nat), .int .i64 (a1 : Nat)]) (.int .i64 1)).run Tryd.prog w = .ok (.int .i64 (a1 : Nat)) w := fun _ => by kernel_rfl
  go_upto_region 2 with fail
  generalize (((w.alloc (.cells #[.slice EA m ec, .slice WA m wc, .slice BA C bc, .slice CA C cc, .int .u64 (F : Nat), .int .u64 0] 114)).alloc (.cells #[.int .i64 (a0 : Nat), .int .i64 (a1 : Nat)] 157)).alloc (.cells #[.int .i64 0, .int .i64 0] 157)) = W at *
  have q0 := Blk.cell bF 0
  have q1 := Blk.cell bF 1
  simp at q0 q1
  have hWs := bS.lt
  have d0 := (BB.cell (p := ad.add a0) (by rw [block_of_add]; exact hfb)).trans hc0
  have d1 := (BB.cell (p := ad.add a1) (by rw [block_of_add]; exact hfb)).trans hc1
  clear hc0 hc1
  go_upto_region 3 with fail
  go_loopw [16] (fun i wr => ((i = .int .i64 0 ∧ Blk wr (w.heap.size + 2) 157 #[.int .i64 0, .int .i64 0]) ∨ (i = .int .i64 1 ∧ Blk wr (w.heap.size + 2) 157 #[.int .i64 (f0 : Nat), .int .i64 0]) ∨ (i = .int .i64 2 ∧ Blk wr (w.heap.size + 2) 157 #[.int .i64 (f0 : Nat), .int .i64 (f1 : Nat)])) ∧ Same (fun k => k = w.heap.size + 2) W wr) (fun i _ => 2 - (intOf i).toNat)
  case atStart => exact ⟨.inl ⟨rfl, bS⟩, Same.refl _ _⟩
  case round =>
    obtain ⟨hS, hs⟩ := hrel
    have e0 := (hs.cell (p := ad.add a0) (by rw [block_of_add]; omega) (by rw [block_of_add]; omega)).trans d0
    have e1 := (hs.cell (p := ad.add a1) (by rw [block_of_add]; omega) (by rw [block_of_add]; omega)).trans d1
    have r0 := (hs.cell (p := ⟨w.heap.size + 1, 0, none⟩) (show w.heap.size + 1 < W.heap.size by omega) (show ¬ w.heap.size + 1 = w.heap.size + 2 by omega)).trans q0
    have r1 := (hs.cell (p := ⟨w.heap.size + 1, 1, none⟩) (show w.heap.size + 1 < W.heap.size by omega) (show ¬ w.heap.size + 1 = w.heap.size + 2 by omega)).trans q1
    rcases hS with ⟨rfl, hS⟩ | ⟨rfl, hS⟩ | ⟨rfl, hS⟩
    · have t0 := Blk.cell hS 0
      have t1 := Blk.frozen hS 0
      have hS1 := hS.set 0 (.int .i64 (f0 : Nat))
      have hs1 := hs.trans (Same.set wr (w.heap.size + 2) 0 (.int .i64 (f0 : Nat))) (fun k _ e => e)
      simp at t0 hS1
      clear hS hs
      go_wp2_with fail
      go_roundw
      case rel => exact ⟨.inr (.inl ⟨by go_num, hS1⟩), hs1⟩
      case measure => simp [intOf]
    · have t0 := Blk.cell hS 1
      have t1 := Blk.frozen hS 1
      have hS1 := hS.set 1 (.int .i64 (f1 : Nat))
      have hs1 := hs.trans (Same.set wr (w.heap.size + 2) 1 (.int .i64 (f1 : Nat))) (fun k _ e => e)
      simp at t0 hS1
      clear hS hs
      go_wp2_with fail
      go_roundw
      case rel => exact ⟨.inr (.inr ⟨by go_num, hS1⟩), hs1⟩
      case measure => simp [intOf]
    · have t0 := Blk.cell hS 0
      have t1 := Blk.cell hS 1
      simp at t0 t1
      have hfin := BB.trans (hs.below BB.size (fun k hk => by omega))
      clear hS hs
      go_wp2_with fail
      go_ret
      exact ⟨retInt hres.out, hfin⟩
end Go.Proofs.YticekkjambkifaaDoor.Fl
