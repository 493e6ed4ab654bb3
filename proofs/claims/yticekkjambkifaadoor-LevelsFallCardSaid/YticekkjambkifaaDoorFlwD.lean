/- The layers. -/
import Derived.Test.YticekkjambkifaaDoorFlwC
set_option linter.unusedVariables false
set_option linter.unusedSimpArgs false
namespace Go.Proofs.YticekkjambkifaaDoor.Fl
open Go.RowKit Go.Proofs.YticekkjambkifaaDoor
theorem set_rep {α : Type} (l : List α) (k : Nat) (x : α) (hk : k < l.length) : (List.replicate k x ++ l.drop k).set k x = List.replicate (k + 1) x ++ l.drop (k + 1) := by
  rw [List.set_append_right _ _ (by rw [List.length_replicate]; exact Nat.le_refl _), List.length_replicate, Nat.sub_self, List.drop_eq_getElem_cons hk, List.set_cons_zero, List.replicate_succ', List.append_assoc]; rfl
attribute [local irreducible] wpQuiet in
set_option maxRecDepth 100000 in
set_option maxHeartbeats 8000000 in
theorem layers_any (p : NP) (N : Nat) (ac : List Ar) (outs : List (List Nat)) (sink : Nat) (L nx : List Nat) (lev : List Int) (src : Nat) (hv : src < N) (hsk : sink < N) (w : World) (h : NetM w p N ac outs sink L lev nx) (hN : Net N ac outs) (hll : lev.length = N) (hnl : nx.length = N) (hNm : N ≤ 1048576) (hM : ac.length ≤ 1048576) :
    Calls Tryd.prog 145 #[.pointer (some ⟨p.x, 0, none⟩), .int .i64 (src : Nat)] w fun e w' => ∃ lev', e = .returned (.bool (decide (0 ≤ lev'.getD sink 0))) ∧ Lay N ac src L lev' ∧ NetM w' p N ac outs sink L lev' (List.replicate N 0) ∧ Same (fun k => k = p.gl ∨ k = p.gn) w w' := by
  obtain ⟨x0, x1, x2, x3, x4⟩ := h.cells
  obtain ⟨d1, d2, d3, d4, d5, d6, d7, d8, d9⟩ := h.dis
  have hxl := h.net.lt
  have hgl := h.lev.lt
  have hgn := h.nxt.lt
  have hgo := h.golt
  have htop := h.top_le
  go_enter Tryd.func145, Tryd.ntmps145
  go_wp2_with fail
  clear x0 x1 x2 x3 x4
  go_loopw [15] (fun i wr => ∃ k : Nat, k ≤ N ∧ i = .int .i64 k ∧ NetM wr p N ac outs sink L (List.replicate k (-1) ++ lev.drop k) (List.replicate k 0 ++ nx.drop k) ∧ Same (fun k => k = p.gl ∨ k = p.gn) w wr) (fun i _ => N - (intOf i).toNat)
  case atStart => exact ⟨0, Nat.zero_le _, rfl, h, Same.refl _ _⟩
  case round =>
    obtain ⟨k, hk, rfl, hMw, hsm⟩ := hrel
    by_cases hlt : k < N
    · have i0 : (k : Int) < (N : Int) := by omega
      have i1 : (0 : Int) ≤ (k : Int) := by omega
      obtain ⟨x0, x1, x2, x3, x4⟩ := hMw.cells
      have e0 := hMw.lev.cell (i := k) (by simp; omega)
      have e1 := hMw.lev.frozen k
      have n0 := hMw.nxt.cell (i := k) (by rw [nts_length]; simp; omega)
      have n1 := hMw.nxt.frozen k
      have hM2 := (hMw.setlev k (-1)).setnx k 0
      rw [set_rep lev k (-1) (by omega), set_rep nx k 0 (by omega)] at hM2
      have hs2 := (hsm.trans (Same.set wr p.gl k (.int .i64 (-1))) (fun _ _ e => .inl e)).trans (Same.set _ p.gn k (.int .i64 ((0 : Nat) : Int))) (fun _ _ e => .inr e)
      replace hM2 := Lib.hid hM2
      replace hs2 := Lib.hid hs2
      have d9' : ¬ p.gn = p.gl := fun e => d9 e.symm
      clear hMw hsm
      generalize (List.replicate k (-1) ++ List.drop k lev).getD k 0 = ov at *
      generalize (nts (List.replicate k 0 ++ List.drop k nx)).getD k 0 = on at *
      go_wp2_with fail
      go_region
      go_wp2_with fail
      go_roundw
      case rel => exact ⟨k + 1, by omega, by go_num, hM2.out.drew, hs2.out.drew⟩
      case measure => simp [intOf]; omega
    · obtain rfl : k = N := by omega
      have i0 : ¬ (k : Int) < (k : Int) := by omega
      have hr1 : List.replicate k (-1) ++ lev.drop k = List.replicate k (-1) := by rw [List.drop_of_length_le (by omega), List.append_nil]
      have hr2 : List.replicate k 0 ++ nx.drop k = List.replicate k 0 := by rw [List.drop_of_length_le (by omega), List.append_nil]
      rw [hr1, hr2] at hMw
      clear hr1 hr2 hll hnl
      have p0 := hMw.lev.cell (i := src) (by simp; omega)
      have p1 := hMw.lev.frozen src
      have j0 : (0 : Int) ≤ (src : Int) := by omega
      have j1 : (src : Int) < (k : Int) := by omega
      obtain ⟨x0, x1, x2, x3, x4⟩ := hMw.cells
      generalize (List.replicate k (-1)).getD src 0 = ov at *
      go_upto_region 7 with fail
      have M3 := hMw.setlev src 0
      have s3 := hsm.trans (Same.set wr p.gl src (.int .i64 0)) (fun _ _ e => .inl e)
      clear hMw hsm p0 p1 x0 x1 x2 x3 x4
      generalize wr.setCell ⟨p.gl, src, none⟩ (.int .i64 0) = w3 at *
      have M4 := M3.alloc (.cells #[.int .i64 (src : Nat)] 3)
      have s4 := s3.alloc (.cells #[.int .i64 (src : Nat)] 3)
      have sz3 := s3.size
      have Q4 := OQ.new w3 (src : Nat) (B := w.heap.size) (by omega)
      have hst := Lib.hid (LO.start (outs := outs) (ac := ac) (L := L) hv)
      have hct : cntB (fun x : Int => decide (x < 0)) ((List.replicate k (-1 : Int)).set src 0) + 1 ≤ k + 1 := by have := cntB_le (fun x : Int => decide (x < 0)) ((List.replicate k (-1 : Int)).set src 0); rw [List.length_set, List.length_replicate] at this; omega
      clear M3 s3
      go_wp2_with fail
      go_loopg [6] (k + 1) (fun g vq wr => ∃ (lev' : List Int) (qs : List Nat), NetM wr p k ac outs sink L lev' (List.replicate k 0) ∧ OQ wr w.heap.size vq (nts qs) ∧ Hid (LO k ac outs L src lev' qs) ∧ Same (fun k => k = p.gl ∨ k = p.gn) w wr ∧ cntB (fun x : Int => decide (x < 0)) lev' + qs.length ≤ g ∧ g ≤ k + 1)
      case atStart => exact ⟨_, [src], M4, Q4, hst, s4, hct, Nat.le_refl _⟩
      case round =>
        clear M4 s4 Q4 hst hct
        obtain ⟨lev', qs, hMw, hQ, hlo, hsm, hc, hgN⟩ := hrel
        obtain ⟨G, hG⟩ : ∃ G, G = gk := ⟨_, rfl⟩
        rw [← hG] at hc hgN
        replace hG := Lib.hid (And.intro hG True.intro)
        cases qs with
        | nil =>
          obtain ⟨gq, off, cap, rfl, hq1, hq2, hq3, hqr⟩ := hQ.form
          obtain ⟨x0, x1, x2, x3, x4⟩ := hMw.cells
          have hly := hlo.out.lay hN
          have p0 := hMw.lev.cell (i := sink) (by rw [hly.len]; exact hsk)
          have j2 : (0 : Int) ≤ (sink : Int) := by omega
          have j3 : (sink : Int) < (k : Int) := by omega
          obtain ⟨LV, hLV⟩ : ∃ LV, LV = lev'.getD sink 0 := ⟨_, rfl⟩
          rw [← hLV] at p0
          replace hLV := Lib.hid (And.intro hLV True.intro)
          replace hly := Lib.hid hly
          go_wp2_with fail
          go_quiet (fail)
          go_wp2_with fail
          go_ret
          exact ⟨lev', by rw [← hLV.out.1]; rfl, hly.out, hMw.drewN nq, hsm.drewN nq⟩
        | cons y tl =>
          obtain ⟨gq, off, cap, hvq, hq1, hq2, hq3, hqr⟩ := hQ.form
          have hy := (hlo.out.q y (List.mem_cons_self ..)).1
          have hin := Lib.hid hlo.out.inner
          have hlq : (nts (y :: tl)).length = tl.length + 1 := by rw [nts_length]; rfl
          obtain ⟨lq, hlq'⟩ : ∃ lq, lq = (nts (y :: tl)).length := ⟨_, rfl⟩
          have i0' : decide (0 < lq) = true := decide_eq_true (by omega)
          have i0i : (0 : Int) < (lq : Int) := by omega
          have c0 : wr.cell? ⟨gq, off, none⟩ = some (.int .i64 (y : Nat)) := by
            obtain ⟨ad, hA0, hc0⟩ := hqr.at_ (k := 0) (by omega)
            injection hA0 with hA0
            subst hA0
            exact hc0
          rw [← hlq'] at hvq
          subst hvq
          obtain ⟨x0, x1, x2, x3, x4⟩ := hMw.cells
          obtain ⟨Ar, m, c, r0', hri, hrne⟩ := h.rows y hy
          have r0 := (hsm.cell (p := ⟨p.go, y, none⟩) hgo (fun e => by rcases e with e | e; exact d5 e; exact d6 e)).trans r0'
          obtain rfl : (outs.getD y []).length = m := by have := hri.len; rw [nts_length] at this; exact this
          obtain ⟨m, hm⟩ : ∃ m, m = (outs.getD y []).length := ⟨_, rfl⟩
          rw [← hm] at r0 hri hrne
          have hrne' : ∀ ad, Ar = some ad → 0 < m → ¬ (ad.block = p.gl ∨ ad.block = p.gn) := fun ad e hp h' => by
            have := hrne ad e hp
            rcases h' with h' | h'
            · exact this.2.1 h'
            · exact this.2.2.1 h'
          have j2 : (0 : Int) ≤ (y : Int) := by omega
          have j3 : (y : Int) < (k : Int) := by omega
          have hmb : m ≤ 2097152 := by have := hN.small y; omega
          replace hm := Lib.hid (And.intro hm True.intro)
          replace hlq' := Lib.hid (And.intro hlq' hlq)
          clear hlq hqr r0' hrne
          go_wp2_with fail
          go_quiet (fail)
          have M1 := hMw.drewN nq
          have Q1 := hQ.kept ((Same.refl (fun _ => False) wr).drewN nq) (fun _ _ e => e)
          have s1 := hsm.drewN nq
          clear hMw hQ hsm x0 x1 x2 x3 x4 c0 r0 hlo
          generalize wr.drewN nq = W1 at *
          go_wp2_with fail
          go_loopg [6, 54] m (fun g' vq i wr => ∃ (j : Nat) (lev' : List Int) (qs' : List Nat), j + g' = m ∧ i = .int .i64 j ∧ NetM wr p k ac outs sink L lev' (List.replicate k 0) ∧ OQ wr w.heap.size vq (nts qs') ∧ Hid (LI k ac outs L src lev' qs' y j) ∧ Same (fun k => k = p.gl ∨ k = p.gn) w wr ∧ cntB (fun x : Int => decide (x < 0)) lev' + qs'.length ≤ G)
          case atStart => exact ⟨0, lev', _, by omega, rfl, M1, Q1, hin, s1, hc⟩
          case round =>
            clear M1 Q1 hin s1 hc W1
            obtain ⟨j, lv, qs', hk', rfl, hMw, hQ, hli, hsm, hc⟩ := hrel
            have hsz := hsm.size
            by_cases hlt2 : j < m
            · have i1 : (j : Int) < (m : Int) := by omega
              have i2 : (0 : Int) ≤ (j : Int) := by omega
              obtain ⟨ad, yv, rfl, hyv, hcy⟩ := (hsm.ri hri hrne').get hlt2
              obtain ⟨i, rfl, hi⟩ : ∃ i : Nat, yv = (i : Nat) ∧ (outs.getD y [])[j]? = some i := by
                have := hyv.out
                unfold nts at this
                rw [List.getElem?_map] at this
                cases hh : (outs.getD y [])[j]? with
                | none => rw [hh] at this; cases this
                | some i => rw [hh] at this; injection this with this; exact ⟨i, this.symm, rfl⟩
              have hi2 := hN.out_mem y i (List.mem_of_getElem? hi)
              obtain ⟨hA0, hH⟩ := hMw.half (by omega)
              obtain ⟨f0, f1, ⟨fc, f2⟩, f3⟩ := hH.get hi2.1
              obtain ⟨x0, x1, x2, x3, x4⟩ := hMw.cells
              rw [hA0] at x0
              obtain ⟨M2, hM2⟩ : ∃ M2, M2 = 2 * ac.length := ⟨_, rfl⟩
              rw [← hM2] at x0
              have j4 : (0 : Int) ≤ (i : Int) := by omega
              have j5 : (i : Int) < (M2 : Int) := by omega
              replace hM2 := Lib.hid (And.intro hM2 True.intro)
              have hhd := (hN.fr_lt hi2.1).2
              have hno := fun h => hli.out.no hi h
              have hadd := fun h h' => hli.out.add hN hi h h'
              have hql : qs'.length ≤ 1048577 := by omega
              have hlv := hli.out.lo.len
              have hyq := hli.out.lo.q y (by obtain ⟨tl', e⟩ := hli.out.fst; rw [e]; exact List.mem_cons_self ..)
              have hyu := hli.out.lo.up y hyq.1
              generalize hFR : fr ac i = ff at *
              generalize hHD : hd ac i = hh at *
              generalize L.getD i 0 = lm at *
              replace hno := Lib.hid hno
              replace hadd := Lib.hid hadd
              replace hi2 := Lib.hid (And.intro hi2 (And.intro hFR hHD))
              clear hyv hH hi hFR hHD
              go_upto_region 14 with fail
              have bH := Blk.new wr 176 #[.int .i64 (ff : Nat), .int .i64 (hh : Nat), .int .i64 fc, .int .i64 (lm : Nat)]
              have M2' := hMw.alloc (.cells #[.int .i64 (ff : Nat), .int .i64 (hh : Nat), .int .i64 fc, .int .i64 (lm : Nat)] 176)
              have Q2 := hQ.kept ((Same.refl (fun _ => False) wr).alloc (.cells #[.int .i64 (ff : Nat), .int .i64 (hh : Nat), .int .i64 fc, .int .i64 (lm : Nat)] 176)) (fun _ _ e => e)
              have s2 := hsm.alloc (.cells #[.int .i64 (ff : Nat), .int .i64 (hh : Nat), .int .i64 fc, .int .i64 (lm : Nat)] 176)
              have hbl := bH.lt
              clear hMw hQ hsm f0 f1 f2 f3 x0 x1 x2 x3 x4 hcy hA0
              generalize wr.alloc (.cells #[.int .i64 (ff : Nat), .int .i64 (hh : Nat), .int .i64 fc, .int .i64 (lm : Nat)] 176) = wa at *
              have hgbw : w.heap.size ≤ wr.heap.size := hsz
              generalize wr.heap.size = gb at *
              have t1 := Blk.cell bH 1
              have t3 := Blk.cell bH 3
              simp at t1 t3
              clear bH
              obtain ⟨x0, x1, x2, x3, x4⟩ := M2'.cells
              have p0 := M2'.lev.cell (i := hh) (by rw [hlv]; exact hhd)
              have j8 : (0 : Int) ≤ (hh : Int) := by omega
              have j9 : (hh : Int) < (k : Int) := by omega
              rcases Nat.eq_zero_or_pos lm with hl0 | hl0
              · have q0 : decide (0 < lm) = false := decide_eq_false (by omega)
                have hno' := Lib.hid (hno.out (.inl hl0))
                clear hl0 hno hadd p0
                go_quiet (fail)
                have M3 := M2'.drewN nq
                have Q3 := Q2.kept ((Same.refl (fun _ => False) wa).drewN nq) (fun _ _ e => e)
                have s3 := s2.drewN nq
                clear M2' Q2 s2
                go_wp2_with fail
                go_roundg (m - (j + 1))
                case rel => exact ⟨j + 1, lv, qs', by omega, by go_num, M3, Q3, hno', s3, hc⟩
                case measure => omega
              · have q0 : decide (0 < lm) = true := decide_eq_true (by omega)
                rcases Int.lt_or_le (lv.getD hh 0) 0 with hl1 | hl1
                · have q1 : decide (lv.getD hh 0 < 0) = true := decide_eq_true hl1
                  obtain ⟨hadd1, hadd2⟩ := hadd.out hl0 hl1
                  replace hadd1 := Lib.hid hadd1
                  have p1 := M2'.lev.frozen hh
                  have p2 := M2'.lev.cell (i := y) (by rw [hlv]; exact hyq.1)
                  obtain ⟨tlx, htlx⟩ := hli.out.fst
                  obtain ⟨gq2, off2, cap2, hvq2, hq4, hq5, hq6, hqr2⟩ := Q2.form
                  have hlq3 : (nts qs').length = qs'.length := nts_length _
                  have hlq4 : 0 < qs'.length := by rw [htlx]; simp
                  have c2 : wa.cell? ⟨gq2, off2, none⟩ = some (.int .i64 (y : Nat)) := by
                    obtain ⟨ad2, hA2, hc2⟩ := hqr2.at_ (k := 0) (by omega)
                    injection hA2 with hA2
                    subst hA2
                    rw [htlx] at hc2
                    exact hc2
                  rw [hlq3] at hvq2
                  obtain ⟨l3, hl3⟩ : ∃ l3, l3 = qs'.length := ⟨_, rfl⟩
                  rw [← hl3] at hvq2
                  have j10 : (0 : Int) < (l3 : Int) := by omega
                  subst hvq2
                  have hM3 := fun q => (M2'.drewN q).setlev hh (lv.getD y 0 + 1)
                  have hs3 := fun q => (s2.drewN q).trans (Same.set (wa.drewN q) p.gl hh (.int .i64 (lv.getD y 0 + 1))) (fun _ _ e => .inl e)
                  have Q3 := fun q => (Q2.kept ((Same.refl (fun _ => False) wa).drewN q) (fun _ _ e => e)).kept (Same.set (wa.drewN q) p.gl hh (.int .i64 (lv.getD y 0 + 1))) (fun k' hk' e => by omega)
                  have T1 := fun q => ((Same.set (wa.drewN q) p.gl hh (.int .i64 (lv.getD y 0 + 1))).cell (p := ⟨gb, 1, none⟩) hbl (by simp; omega)).trans t1
                  have hyq2 := hyq.2
                  have hlql : qs'.length ≤ 2199023255552 := by omega
                  replace hl3 := Lib.hid (And.intro hl3 True.intro)
                  generalize lv.set hh (lv.getD y 0 + 1) = lv3 at *
                  generalize lv.getD hh 0 = lvh at *
                  generalize hLY : lv.getD y 0 = lvy at *
                  have w0 : -9223372036854775808 ≤ lvy + 1 := by omega
                  have w1 : lvy + 1 ≤ 9223372036854775807 := by omega
                  replace hM3 := Lib.hid hM3
                  replace hs3 := Lib.hid hs3
                  replace Q3 := Lib.hid Q3
                  replace T1 := Lib.hid T1
                  clear hl0 hl1 hno hadd hli hqr2 Q2 htlx hlq3 hlq4 s2 M2' hLY hyq hyu
                  go_quiet (fail)
                  go_wp2_with fail
                  go_region
                  have M4 := hM3.out (nq + 1)
                  have s4 := hs3.out (nq + 1)
                  have Q4 := Q3.out (nq + 1)
                  have u1 := T1.out (nq + 1)
                  clear hM3 hs3 Q3 T1 t1 t3 p0 p1 p2 c2 x0 x1 x2 x3 x4
                  generalize (wa.drewN (nq + 1)).setCell ⟨p.gl, hh, none⟩ (.int .i64 (lvy + 1)) = W3 at *
                  have sz4 := s4.size
                  go_wp2_with (at_builtin; refine wpList_pushQ rfl _ _ rfl rfl rfl (by first | rfl | simp) Q4 (by rw [nts_length]; exact hlql) (by omega) ?_; intro v7 wd Q7 hb7)
                  have M7 := M4.bel hb7 htop
                  have s7 := s4.bel hb7 (Nat.le_refl _)
                  go_roundg (m - (j + 1))
                  case rel => exact ⟨j + 1, lv3, qs' ++ [hh], by omega, by go_num, M7, by rw [nts_append]; exact Q7, hadd1, s7, by rw [List.length_append, List.length_singleton]; omega⟩
                  case measure => omega
                · have q1 : decide (lv.getD hh 0 < 0) = false := decide_eq_false (by omega)
                  have hno' := Lib.hid (hno.out (.inr hl1))
                  generalize lv.getD hh 0 = lvh at *
                  clear hl0 hl1 hno hadd
                  go_quiet (fail)
                  have M3 := M2'.drewN nq
                  have Q3 := Q2.kept ((Same.refl (fun _ => False) wa).drewN nq) (fun _ _ e => e)
                  have s3 := s2.drewN nq
                  clear M2' Q2 s2
                  go_wp2_with fail
                  go_roundg (m - (j + 1))
                  case rel => exact ⟨j + 1, lv, qs', by omega, by go_num, M3, Q3, hno', s3, hc⟩
                  case measure => omega
            · obtain rfl : j = m := by omega
              have i1 : ¬ (j : Int) < (j : Int) := by omega
              obtain ⟨tl', htl⟩ := hli.out.fst
              subst htl
              have hfin := Lib.hid (by
                have h1 := hli.out
                rw [hm.out.1] at h1
                exact h1.fin)
              obtain ⟨gq', off', cap', hv', hq1', hq2', hq3', hqr'⟩ := hQ.form
              have hlq2 : (nts (y :: tl')).length = (nts tl').length + 1 := by rw [nts_length, nts_length]; rfl
              rw [hlq2] at hv' hq3'
              subst hv'
              have Q5 := hQ.cut (xs := nts tl')
              have hcl : cntB (fun x : Int => decide (x < 0)) lv + tl'.length + 1 ≤ G := by rw [List.length_cons] at hc; omega
              generalize hl2 : (nts tl').length = l2 at *
              replace hl2 := Lib.hid (And.intro hl2 True.intro)
              clear hqr' hQ hli hc
              by_cases hc1 : cap' = 1
              · subst hc1
                obtain rfl : l2 = 0 := by omega
                rw [if_pos rfl] at Q5
                go_wp2_with fail
                go_roundg (cntB (fun x : Int => decide (x < 0)) lv + tl'.length)
                case rel => exact ⟨lv, tl', hMw, Q5, hfin, hsm, Nat.le_refl _, by omega⟩
                case measure => have := hG.out.1; omega
              · rw [if_neg hc1] at Q5
                go_wp2_with fail
                go_roundg (cntB (fun x : Int => decide (x < 0)) lv + tl'.length)
                case rel => exact ⟨lv, tl', hMw, Q5, hfin, hsm, Nat.le_refl _, by omega⟩
                case measure => have := hG.out.1; omega
end Go.Proofs.YticekkjambkifaaDoor.Fl
