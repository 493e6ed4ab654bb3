/- Pushing. -/
import Derived.Test.YticekkjambkifaaDoorFlwC
set_option linter.unusedVariables false
set_option linter.unusedSimpArgs false
namespace Go.Proofs.YticekkjambkifaaDoor.Fl
open Go.RowKit Go.Proofs.YticekkjambkifaaDoor
/-- The most of each arc. -/
def CapB (ac : List Ar) : Prop := ∀ k, k < ac.length → (ac.getD k (0, 0, 0)).2.2 ≤ 1099511627776
theorem cap_L {ac : List Ar} {L : List Nat} (hc : CapB ac) (h : OkL ac L) {i : Nat} (hi : i < 2 * ac.length) : L.getD i 0 + L.getD (mt i) 0 ≤ 1099511627776 := by
  rw [h.le hi]; exact hc _ (by omega)
attribute [local irreducible] wpQuiet in
set_option maxRecDepth 100000 in
set_option maxHeartbeats 8000000 in
theorem push_any (p : NP) (N : Nat) (ac : List Ar) (outs : List (List Nat)) (sink : Nat) (lev : List Int) (hN : Net N ac outs) (hcap : CapB ac) (hll : lev.length = N) (hsk : sink < N) (hlow : ∀ u, u < N → -1 ≤ lev.getD u 0) (hup : ∀ u, u < N → lev.getD u 0 < N) (hNm : N ≤ 1048576) (hM : ac.length ≤ 1048576) :
    ∀ (fuel v most : Nat) (L nx : List Nat) (w : World), NetM w p N ac outs sink L lev nx → OkL ac L → nx.length = N → (∀ u, nx.getD u 0 ≤ (outs.getD u []).length) → v < N → 1 ≤ most → most ≤ 4611686018427387904 → 0 ≤ lev.getD v 0 → (N : Int) ≤ lev.getD v 0 + fuel →
    Calls Tryd.prog 146 #[.pointer (some ⟨p.x, 0, none⟩), .int .i64 (v : Nat), .int .i64 (most : Nat)] w fun e w' => ∃ r L' nx', e = .returned (.int .i64 (r : Nat)) ∧ Push N ac outs sink lev v most L nx r L' nx' ∧ NetM w' p N ac outs sink L' lev nx' ∧ Same (fun k => k = p.gh ∨ k = p.gn) w w' := by
  intro fuel
  induction fuel with
  | zero => intro v most L nx w h hok hnl hnx hv hm1 hm2 hl0 hfu; exfalso; have := hup v hv; omega
  | succ fuel ih =>
    intro v most L nx w h hok hnl hnx hv hm1 hm2 hl0 hfu
    obtain ⟨x0, x1, x2, x3, x4⟩ := h.cells
    obtain ⟨d1, d2, d3, d4, d5, d6, d7, d8, d9⟩ := h.dis
    have hxl := h.net.lt
    have hgo := h.golt
    have htop := h.top_le
    by_cases hvs : v = sink
    · subst hvs
      have hp := Push.sink_ (N := N) (ac := ac) (outs := outs) (lev := lev) (sink := v) (most := most) hok hnl hnx hm1
      replace hp := Lib.hid hp
      go_enter Tryd.func146, Tryd.ntmps146
      go_wp2_with fail
      go_ret
      exact ⟨most, L, nx, rfl, hp.out, h, Same.refl _ _⟩
    · have hvs' : ((v : Int) == (sink : Int)) = false := by rw [beq_eq_false_iff_ne]; omega
      have hst := Lib.hid (Loop.start (N := N) (ac := ac) (outs := outs) (sink := sink) (lev := lev) (v := v) (most := most) hok hnl hnx)
      obtain ⟨m, hm⟩ : ∃ m, m = (outs.getD v []).length := ⟨_, rfl⟩
      have hmb : m ≤ 2097152 := by have := hN.small v; omega
      have hvs2 := Lib.hid hvs
      clear hvs
      go_enter Tryd.func146, Tryd.ntmps146
      go_wp2_with fail
      clear x0 x1 x2 x3 x4 hvs'
      obtain ⟨Ar, m', c, r0', hri, hrne⟩ := h.rows v hv
      obtain rfl : m = m' := by have := hri.len; rw [nts_length] at this; omega
      have hrne' : ∀ ad, Ar = some ad → 0 < m → ¬ (ad.block = p.gh ∨ ad.block = p.gn) := fun ad e hp h' => by
        have := hrne ad e hp
        rcases h' with h' | h'
        · exact this.1 h'
        · exact this.2.2.1 h'
      have hgo2 : ¬ (p.go = p.gh ∨ p.go = p.gn) := fun e => by
        rcases e with e | e
        · exact d4 e
        · exact d6 e
      replace hm := Lib.hid (And.intro hm True.intro)
      clear hrne
      go_loopg [7] m (fun g s wr => ∃ (s' : Nat) (L1 nx1 : List Nat), s = .int .i64 (s' : Nat) ∧ Hid (Loop N ac outs sink lev v most L nx s' L1 nx1) ∧ NetM wr p N ac outs sink L1 lev nx1 ∧ Same (fun k => k = p.gh ∨ k = p.gn) w wr ∧ m - nx1.getD v 0 ≤ g)
      case atStart => exact ⟨0, L, nx, rfl, hst, h, Same.refl _ _, by omega⟩
      case round =>
        obtain ⟨s', L1, nx1, rfl, hlp, hMw, hsm, hg⟩ := hrel
        have r0 := (hsm.cell (p := ⟨p.go, v, none⟩) hgo hgo2).trans r0'
        have n0 := hMw.nxt.cell (i := v) (by rw [nts_length, hlp.out.nlen]; exact hv)
        rw [nts_getD] at n0
        have hcm : nx1.getD v 0 ≤ m := by have := hlp.out.nle v; rw [← hm.out.1] at this; exact this
        have hse := hlp.out.le
        have hsz := hsm.size
        generalize hcc : nx1.getD v 0 = cc at *
        replace hcc := Lib.hid (And.intro hcc True.intro)
        obtain ⟨x0, x1, x2, x3, x4⟩ := hMw.cells
        have j0 : (0 : Int) ≤ (v : Int) := by omega
        have j1 : (v : Int) < (N : Int) := by omega
        by_cases hc1 : cc < m
        · have q0 : decide (cc < m) = true := decide_eq_true hc1
          by_cases hc2 : s' < most
          · have q1 : decide (s' < most) = true := decide_eq_true hc2
            go_wp2_with fail
            go_quiet (fail)
            have M1 := hMw.drewN nq
            have s1 := hsm.drewN nq
            clear hMw hsm r0 n0 x0 x1 x2 x3 x4
            generalize wr.drewN nq = W1 at *
            clear hsz wr
            have hsz := s1.size
            have r0 := (s1.cell (p := ⟨p.go, v, none⟩) hgo hgo2).trans r0'
            have n0 := M1.nxt.cell (i := v) (by rw [nts_length, hlp.out.nlen]; exact hv)
            rw [nts_getD, hcc.out.1] at n0
            obtain ⟨ad, yv, rfl, hyv, hcy⟩ := (s1.ri hri hrne').get hc1
            obtain ⟨i, rfl, hi⟩ : ∃ i : Nat, yv = (i : Nat) ∧ (outs.getD v [])[cc]? = some i := by
              have := hyv.out
              unfold nts at this
              rw [List.getElem?_map] at this
              cases hh : (outs.getD v [])[cc]? with
              | none => rw [hh] at this; cases this
              | some i => rw [hh] at this; injection this with this; exact ⟨i, this.symm, rfl⟩
            have hi2 := hN.out_mem v i (List.mem_of_getElem? hi)
            obtain ⟨hA0, hH⟩ := M1.half (by omega)
            obtain ⟨f0, f1, ⟨fc, f2⟩, f3⟩ := hH.get hi2.1
            obtain ⟨x0, x1, x2, x3, x4⟩ := M1.cells
            rw [hA0] at x0
            obtain ⟨M2, hM2⟩ : ∃ M2, M2 = 2 * ac.length := ⟨_, rfl⟩
            rw [← hM2] at x0
            have j4 : (0 : Int) ≤ (i : Int) := by omega
            have j5 : (i : Int) < (M2 : Int) := by omega
            have j6 : (0 : Int) ≤ (cc : Int) := by omega
            have j7 : (cc : Int) < (m : Int) := by omega
            have hhd := (hN.fr_lt hi2.1).2
            have hlb := cap_L hcap hlp.out.ok hi2.1
            generalize hFR : fr ac i = ff at *
            generalize hHD : hd ac i = hh at *
            generalize hLM : L1.getD i 0 = lm at *
            replace hM2 := Lib.hid (And.intro hM2 True.intro)
            replace hi := Lib.hid (And.intro hi (And.intro hi2 (And.intro hFR (And.intro hHD hLM))))
            clear hyv hH hFR hHD hLM hi2
            go_wp2_with fail
            go_quiet (fail)
            have M3 := M1.drewN nq
            have s3 := s1.drewN nq
            have f0' : (W1.drewN nq).cell? ⟨p.gh, i * 4, none⟩ = some (.int .i64 (ff : Nat)) := f0
            have f1' : (W1.drewN nq).cell? ⟨p.gh, i * 4 + 1, none⟩ = some (.int .i64 (hh : Nat)) := f1
            have f2' : (W1.drewN nq).cell? ⟨p.gh, i * 4 + 2, none⟩ = some (.int .i64 fc) := f2
            have f3' : (W1.drewN nq).cell? ⟨p.gh, i * 4 + 3, none⟩ = some (.int .i64 (lm : Nat)) := f3
            have x0' : (W1.drewN nq).cell? ⟨p.x, 0, none⟩ = some (.slice (some ⟨p.gh, 0, none⟩) M2 p.ch) := x0
            clear f0 f1 f2 f3 x0 x1 x2 x3 x4 n0 r0 hcy M1 s1 hA0
            generalize W1.drewN nq = W3 at *
            clear hsz
            have hsz := s3.size
            go_upto_region 8 with fail
            have bH := Blk.new W3 176 #[.int .i64 (ff : Nat), .int .i64 (hh : Nat), .int .i64 fc, .int .i64 (lm : Nat)]
            have M4 := M3.alloc (.cells #[.int .i64 (ff : Nat), .int .i64 (hh : Nat), .int .i64 fc, .int .i64 (lm : Nat)] 176)
            have s4 := s3.alloc (.cells #[.int .i64 (ff : Nat), .int .i64 (hh : Nat), .int .i64 fc, .int .i64 (lm : Nat)] 176)
            have hbl := bH.lt
            clear M3 s3 f0' f1' f2' f3' x0'
            generalize W3.alloc (.cells #[.int .i64 (ff : Nat), .int .i64 (hh : Nat), .int .i64 fc, .int .i64 (lm : Nat)] 176) = W4 at *
            generalize W3.heap.size = gb at *
            have t1 := Blk.cell bH 1
            have t3 := Blk.cell bH 3
            simp at t1 t3
            obtain ⟨x0, x1, x2, x3, x4⟩ := M4.cells
            have p0 := M4.lev.cell (i := hh) (by rw [hll]; exact hhd)
            have p2 := M4.lev.cell (i := v) (by rw [hll]; exact hv)
            have n0 := M4.nxt.cell (i := v) (by rw [nts_length, hlp.out.nlen]; exact hv)
            have n1 := M4.nxt.frozen v
            rw [nts_getD, hcc.out.1] at n0
            have j8 : (0 : Int) ≤ (hh : Int) := by omega
            have j9 : (hh : Int) < (N : Int) := by omega
            have hlv2 := hup v hv
            have hcc1 : ((cc + 1 : Nat) : Int) = (cc : Int) + 1 := by omega
            -- the arc is passed by
            have hskip : (lm = 0 ∨ lev.getD hh 0 ≠ lev.getD v 0 + 1) → Hid (Loop N ac outs sink lev v most L nx s' L1 (nx1.set v (cc + 1))) := fun hs => by
              obtain ⟨e1, e2, e3, e4, e5⟩ := hi.out
              have := hlp.out.skip hv (i := i) (by rw [hcc.out.1]; exact e1) (by rw [e5, e4]; exact hs)
              rw [hcc.out.1] at this
              exact Lib.hid this
            replace hskip := Lib.hid hskip
            have hgs : (nx1.set v (cc + 1)).getD v 0 = cc + 1 := by rw [getD_set_nat _ _ _ _ (by rw [hlp.out.nlen]; exact hv), if_pos rfl]
            have w0 : -9223372036854775808 ≤ lev.getD v 0 + 1 := by omega
            have w1 : lev.getD v 0 + 1 ≤ 9223372036854775807 := by omega
            rcases Nat.eq_zero_or_pos lm with h0 | h0
            · subst h0
              have hsk2 := hskip.out (.inl rfl)
              clear hskip p0 p2 hlb
              have M5 := fun q => (M4.drewN q).setnx v (cc + 1)
              have s5 := fun q => (s4.drewN q).trans (Same.set (W4.drewN q) p.gn v (.int .i64 ((cc + 1 : Nat) : Int))) (fun _ _ e => .inr e)
              rw [hcc1] at M5 s5
              replace M5 := Lib.hid M5
              replace s5 := Lib.hid s5
              clear M4 s4
              go_quiet (fail)
              go_wp2_with fail
              go_roundg (m - (cc + 1))
              case rel => exact ⟨s', L1, nx1.set v (cc + 1), rfl, hsk2, M5.out _, s5.out _, by rw [hgs]; exact Nat.le_refl _⟩
              case measure => omega

            · have q3 : ((lm : Int) == 0) = false := by rw [beq_eq_false_iff_ne]; omega
              have q4 : ¬ lm = 0 := by omega
              by_cases hne : lev.getD hh 0 = lev.getD v 0 + 1
              · have q5 : (lev.getD hh 0 != lev.getD v 0 + 1) = false := by rw [hne]; simp
                have hfu2 : (N : Int) ≤ lev.getD hh 0 + fuel := by omega
                have hl2 : 0 ≤ lev.getD hh 0 := by omega
                obtain ⟨rm, hrm⟩ : ∃ rm, rm = most - s' := ⟨_, rfl⟩
                have hrs : (most : Int) - (s' : Int) = (rm : Int) := by omega
                have hrb : rm ≤ 4611686018427387904 := by omega
                have hr1 : 1 ≤ rm := by omega
                replace hrm := Lib.hid (And.intro hrm True.intro)
                replace hne := Lib.hid (And.intro hne True.intro)
                clear hskip
                by_cases hml : lm < rm
                · obtain ⟨LH, hLH⟩ : ∃ x, x = lev.getD hh 0 := ⟨_, rfl⟩
                  obtain ⟨LV, hLV⟩ : ∃ x, x = lev.getD v 0 := ⟨_, rfl⟩
                  rw [← hLH] at p0 q5
                  rw [← hLV] at p2 q5 w0 w1
                  replace hLH := Lib.hid (And.intro hLH hLV)
                  clear hLV
                  go_quiet (fail)
                  have M5 := M4.drewN nq
                  have s5 := s4.drewN nq
                  have t1' : (W4.drewN nq).cell? ⟨gb, 1, none⟩ = some (.int .i64 (hh : Nat)) := t1
                  have t3' : (W4.drewN nq).cell? ⟨gb, 3, none⟩ = some (.int .i64 (lm : Nat)) := t3
                  clear M4 s4 t1 t3 x0 x1 x2 x3 x4 p0 p2 n0 n1 bH
                  generalize W4.drewN nq = W5 at *
                  have kih := Lib.hid (ih hh lm L1 nx1 W5 M5 hlp.out.ok hlp.out.nlen hlp.out.nle hhd (by omega) (by omega) (by omega) (by omega))
                  clear M5
                  go_wp2_with fail
                  refine kih.out.mono ?_
                  rintro e W6 ⟨r, L2, nx2, rfl, hp, M6, s6⟩
                  go_upto_region 10 with fail
                  obtain ⟨e1, e2, e3, e4, e5⟩ := hi.out
                  have hsent := hlp.out.sent hN hv (i := i) (by rw [hcc.out.1]; exact e1) (by rw [e4]; exact hne.out.1) (m := lm) (by have := hrm.out.1; omega) (by rw [e5]; omega) (by rw [e4]; exact hp)
                  rw [hcc.out.1, e5] at hsent
                  obtain ⟨hl5, hnv, hLi, hLm⟩ := hsent
                  have hrle : r ≤ lm := by have := hp.le; omega
                  have hrr : r ≤ rm := by have := hp.le; omega
                  have hdn := Lib.hid hp.done
                  have hlen2 := hp.ok.1
                  have hcp2 := cap_L hcap hp.ok e2.1
                  obtain ⟨hA6, hH6⟩ := M6.half (by omega)
                  obtain ⟨f0, f1, ⟨fc6, f2⟩, f3⟩ := hH6.get e2.1
                  have f4 := hH6.frozen (i * 4 + 3)
                  obtain ⟨x0, x1, x2, x3, x4⟩ := M6.cells
                  rw [hA6] at x0
                  rw [← hM2.out.1] at x0
                  rw [hLi] at f3
                  have hsub : ((lm - r : Nat) : Int) = (lm : Int) - (r : Int) := by omega
                  have w2 : -9223372036854775808 ≤ (lm : Int) - (r : Int) := by omega
                  have w3 : (lm : Int) - (r : Int) ≤ 9223372036854775807 := by omega
                  have M7 := M6.setL hlen2 e2.1 (lm - r)
                  rw [hsub] at M7
                  have s7 := (s5.trans s6 (fun _ _ e => e)).trans (Same.set W6 p.gh (i * 4 + 3) (.int .i64 ((lm : Int) - (r : Int)))) (fun _ _ e => .inl e)
                  have hxr := i64_xor1 i (by omega)
                  have j12 : (0 : Int) ≤ (mt i : Int) := by omega
                  have j13 : (mt i : Int) < (M2 : Int) := by have h1 := mt_lt e2.1; have h2 := hM2.out.1; omega
                  clear hLm
                  generalize hlx : L2.getD (mt i) 0 = lx at *
                  replace hlx := Lib.hid (And.intro hlx True.intro)
                  have hlxb : lx ≤ 1099511627776 := by omega
                  replace hp := Lib.hid hp
                  replace hl5 := Lib.hid hl5
                  replace M7 := Lib.hid M7
                  replace s7 := Lib.hid s7
                  clear s5 s6 M6 hH6 hA6 kih t1' t3'
                  go_upto_region 11 with fail
                  replace M7 := M7.out
                  replace s7 := s7.out
                  generalize W6.setCell ⟨p.gh, i * 4 + 3, none⟩ (.int .i64 ((lm : Int) - (r : Int))) = W7 at *
                  clear f0 f1 f2 f3 f4 x0 x1 x2 x3 x4
                  obtain ⟨hA7, hH7⟩ := M7.half (by omega)
                  obtain ⟨f0, f1, ⟨fc7, f2⟩, f3⟩ := hH7.get (mt_lt e2.1)
                  have f4 := hH7.frozen (mt i * 4 + 3)
                  obtain ⟨x0, x1, x2, x3, x4⟩ := M7.cells
                  rw [hA7] at x0
                  rw [← hM2.out.1] at x0
                  rw [getD_set_ne _ _ _ _ (mt_ne i), hlx.out.1] at f3
                  have hadd : ((lx + r : Nat) : Int) = (lx : Int) + (r : Int) := by omega
                  have w4 : -9223372036854775808 ≤ (lx : Int) + (r : Int) := by omega
                  have w5 : (lx : Int) + (r : Int) ≤ 9223372036854775807 := by omega
                  have M8 := M7.setL (by rw [List.length_set]; exact hlen2) (mt_lt e2.1) (lx + r)
                  rw [hadd] at M8
                  have hsnd : (L2.set i (lm - r)).set (mt i) (lx + r) = snd L2 i r := by unfold snd; rw [hLi, hlx.out.1]
                  rw [hsnd] at M8
                  have s8 := s7.trans (Same.set W7 p.gh (mt i * 4 + 3) (.int .i64 ((lx : Int) + (r : Int)))) (fun _ _ e => .inl e)
                  replace M8 := Lib.hid M8
                  replace s8 := Lib.hid s8
                  clear M7 s7 hH7 hA7
                  go_upto_region 12 with fail
                  replace M8 := M8.out
                  replace s8 := s8.out
                  generalize W7.setCell ⟨p.gh, mt i * 4 + 3, none⟩ (.int .i64 ((lx : Int) + (r : Int))) = W8 at *
                  clear f0 f1 f2 f3 f4 x0 x1 x2 x3 x4 hxr
                  have hsum : ((s' + r : Nat) : Int) = (s' : Int) + (r : Int) := by omega
                  have w6 : -9223372036854775808 ≤ (s' : Int) + (r : Int) := by omega
                  have w7 : (s' : Int) + (r : Int) ≤ 9223372036854775807 := by omega
                  have hrm1 := hrm.out.1
                  by_cases hfull : s' + r = most
                  · have q6 : ((s' : Int) + (r : Int) == (most : Int)) = true := by rw [beq_iff_eq]; omega
                    have hpz := Lib.hid (hl5.out.push hvs2.out (fun h0 => by omega))
                    clear hdn
                    go_wp2_with fail
                    go_ret
                    exact ⟨s' + r, snd L2 i r, nx2, retInt hsum.symm, hpz.out, M8, s8⟩
                  · have q6 : ((s' : Int) + (r : Int) == (most : Int)) = false := by rw [beq_eq_false_iff_ne]; omega
                    have hnx9 := hl5.out.next hv (i := i) (by rw [hnv]; exact e1) (fun h0 => by
                      obtain ⟨z1, z2⟩ := hdn.out (by omega)
                      exact ⟨by rw [e4]; exact z1, by rw [e4]; intro e; have := hne.out.1; rw [e] at this; omega, by rw [e4]; exact z2⟩)
                    rw [hnv] at hnx9
                    have hlen9 := hl5.out.nlen
                    have n0 := M8.nxt.cell (i := v) (by rw [nts_length, hlen9]; exact hv)
                    have n1 := M8.nxt.frozen v
                    rw [nts_getD, hnv] at n0
                    have M9 := M8.setnx v (cc + 1)
                    have s9 := s8.trans (Same.set W8 p.gn v (.int .i64 ((cc + 1 : Nat) : Int))) (fun _ _ e => .inr e)
                    rw [hcc1] at M9 s9
                    have hgs2 : (nx2.set v (cc + 1)).getD v 0 = cc + 1 := by rw [getD_set_nat _ _ _ _ (by rw [hlen9]; exact hv), if_pos rfl]
                    obtain ⟨x0, x1, x2, x3, x4⟩ := M8.cells
                    replace M9 := Lib.hid M9
                    replace s9 := Lib.hid s9
                    replace hnx9 := Lib.hid hnx9
                    clear hdn M8 s8
                    go_wp2_with fail
                    go_roundg (m - (cc + 1))
                    case rel => exact ⟨s' + r, snd L2 i r, nx2.set v (cc + 1), by rw [hsum], hnx9, M9.out, s9.out, by rw [hgs2]; exact Nat.le_refl _⟩
                    case measure => omega
                · obtain ⟨LH, hLH⟩ : ∃ x, x = lev.getD hh 0 := ⟨_, rfl⟩
                  obtain ⟨LV, hLV⟩ : ∃ x, x = lev.getD v 0 := ⟨_, rfl⟩
                  rw [← hLH] at p0 q5
                  rw [← hLV] at p2 q5 w0 w1
                  replace hLH := Lib.hid (And.intro hLH hLV)
                  clear hLV
                  go_quiet (fail)
                  have M5 := M4.drewN nq
                  have s5 := s4.drewN nq
                  have t1' : (W4.drewN nq).cell? ⟨gb, 1, none⟩ = some (.int .i64 (hh : Nat)) := t1
                  have t3' : (W4.drewN nq).cell? ⟨gb, 3, none⟩ = some (.int .i64 (lm : Nat)) := t3
                  clear M4 s4 t1 t3 x0 x1 x2 x3 x4 p0 p2 n0 n1 bH
                  generalize W4.drewN nq = W5 at *
                  have kih := Lib.hid (ih hh rm L1 nx1 W5 M5 hlp.out.ok hlp.out.nlen hlp.out.nle hhd (by omega) (by omega) (by omega) (by omega))
                  clear M5
                  go_wp2_with fail
                  refine kih.out.mono ?_
                  rintro e W6 ⟨r, L2, nx2, rfl, hp, M6, s6⟩
                  go_upto_region 10 with fail
                  obtain ⟨e1, e2, e3, e4, e5⟩ := hi.out
                  have hsent := hlp.out.sent hN hv (i := i) (by rw [hcc.out.1]; exact e1) (by rw [e4]; exact hne.out.1) (m := rm) (by have := hrm.out.1; omega) (by rw [e5]; omega) (by rw [e4]; exact hp)
                  rw [hcc.out.1, e5] at hsent
                  obtain ⟨hl5, hnv, hLi, hLm⟩ := hsent
                  have hrle : r ≤ lm := by have := hp.le; omega
                  have hrr : r ≤ rm := by have := hp.le; omega
                  have hdn := Lib.hid hp.done
                  have hlen2 := hp.ok.1
                  have hcp2 := cap_L hcap hp.ok e2.1
                  obtain ⟨hA6, hH6⟩ := M6.half (by omega)
                  obtain ⟨f0, f1, ⟨fc6, f2⟩, f3⟩ := hH6.get e2.1
                  have f4 := hH6.frozen (i * 4 + 3)
                  obtain ⟨x0, x1, x2, x3, x4⟩ := M6.cells
                  rw [hA6] at x0
                  rw [← hM2.out.1] at x0
                  rw [hLi] at f3
                  have hsub : ((lm - r : Nat) : Int) = (lm : Int) - (r : Int) := by omega
                  have w2 : -9223372036854775808 ≤ (lm : Int) - (r : Int) := by omega
                  have w3 : (lm : Int) - (r : Int) ≤ 9223372036854775807 := by omega
                  have M7 := M6.setL hlen2 e2.1 (lm - r)
                  rw [hsub] at M7
                  have s7 := (s5.trans s6 (fun _ _ e => e)).trans (Same.set W6 p.gh (i * 4 + 3) (.int .i64 ((lm : Int) - (r : Int)))) (fun _ _ e => .inl e)
                  have hxr := i64_xor1 i (by omega)
                  have j12 : (0 : Int) ≤ (mt i : Int) := by omega
                  have j13 : (mt i : Int) < (M2 : Int) := by have h1 := mt_lt e2.1; have h2 := hM2.out.1; omega
                  clear hLm
                  generalize hlx : L2.getD (mt i) 0 = lx at *
                  replace hlx := Lib.hid (And.intro hlx True.intro)
                  have hlxb : lx ≤ 1099511627776 := by omega
                  replace hp := Lib.hid hp
                  replace hl5 := Lib.hid hl5
                  replace M7 := Lib.hid M7
                  replace s7 := Lib.hid s7
                  clear s5 s6 M6 hH6 hA6 kih t1' t3'
                  go_upto_region 11 with fail
                  replace M7 := M7.out
                  replace s7 := s7.out
                  generalize W6.setCell ⟨p.gh, i * 4 + 3, none⟩ (.int .i64 ((lm : Int) - (r : Int))) = W7 at *
                  clear f0 f1 f2 f3 f4 x0 x1 x2 x3 x4
                  obtain ⟨hA7, hH7⟩ := M7.half (by omega)
                  obtain ⟨f0, f1, ⟨fc7, f2⟩, f3⟩ := hH7.get (mt_lt e2.1)
                  have f4 := hH7.frozen (mt i * 4 + 3)
                  obtain ⟨x0, x1, x2, x3, x4⟩ := M7.cells
                  rw [hA7] at x0
                  rw [← hM2.out.1] at x0
                  rw [getD_set_ne _ _ _ _ (mt_ne i), hlx.out.1] at f3
                  have hadd : ((lx + r : Nat) : Int) = (lx : Int) + (r : Int) := by omega
                  have w4 : -9223372036854775808 ≤ (lx : Int) + (r : Int) := by omega
                  have w5 : (lx : Int) + (r : Int) ≤ 9223372036854775807 := by omega
                  have M8 := M7.setL (by rw [List.length_set]; exact hlen2) (mt_lt e2.1) (lx + r)
                  rw [hadd] at M8
                  have hsnd : (L2.set i (lm - r)).set (mt i) (lx + r) = snd L2 i r := by unfold snd; rw [hLi, hlx.out.1]
                  rw [hsnd] at M8
                  have s8 := s7.trans (Same.set W7 p.gh (mt i * 4 + 3) (.int .i64 ((lx : Int) + (r : Int)))) (fun _ _ e => .inl e)
                  replace M8 := Lib.hid M8
                  replace s8 := Lib.hid s8
                  clear M7 s7 hH7 hA7
                  go_upto_region 12 with fail
                  replace M8 := M8.out
                  replace s8 := s8.out
                  generalize W7.setCell ⟨p.gh, mt i * 4 + 3, none⟩ (.int .i64 ((lx : Int) + (r : Int))) = W8 at *
                  clear f0 f1 f2 f3 f4 x0 x1 x2 x3 x4 hxr
                  have hsum : ((s' + r : Nat) : Int) = (s' : Int) + (r : Int) := by omega
                  have w6 : -9223372036854775808 ≤ (s' : Int) + (r : Int) := by omega
                  have w7 : (s' : Int) + (r : Int) ≤ 9223372036854775807 := by omega
                  have hrm1 := hrm.out.1
                  by_cases hfull : s' + r = most
                  · have q6 : ((s' : Int) + (r : Int) == (most : Int)) = true := by rw [beq_iff_eq]; omega
                    have hpz := Lib.hid (hl5.out.push hvs2.out (fun h0 => by omega))
                    clear hdn
                    go_wp2_with fail
                    go_ret
                    exact ⟨s' + r, snd L2 i r, nx2, retInt hsum.symm, hpz.out, M8, s8⟩
                  · have q6 : ((s' : Int) + (r : Int) == (most : Int)) = false := by rw [beq_eq_false_iff_ne]; omega
                    have hnx9 := hl5.out.next hv (i := i) (by rw [hnv]; exact e1) (fun h0 => by
                      obtain ⟨z1, z2⟩ := hdn.out (by omega)
                      exact ⟨by rw [e4]; exact z1, by rw [e4]; intro e; have := hne.out.1; rw [e] at this; omega, by rw [e4]; exact z2⟩)
                    rw [hnv] at hnx9
                    have hlen9 := hl5.out.nlen
                    have n0 := M8.nxt.cell (i := v) (by rw [nts_length, hlen9]; exact hv)
                    have n1 := M8.nxt.frozen v
                    rw [nts_getD, hnv] at n0
                    have M9 := M8.setnx v (cc + 1)
                    have s9 := s8.trans (Same.set W8 p.gn v (.int .i64 ((cc + 1 : Nat) : Int))) (fun _ _ e => .inr e)
                    rw [hcc1] at M9 s9
                    have hgs2 : (nx2.set v (cc + 1)).getD v 0 = cc + 1 := by rw [getD_set_nat _ _ _ _ (by rw [hlen9]; exact hv), if_pos rfl]
                    obtain ⟨x0, x1, x2, x3, x4⟩ := M8.cells
                    replace M9 := Lib.hid M9
                    replace s9 := Lib.hid s9
                    replace hnx9 := Lib.hid hnx9
                    clear hdn M8 s8
                    go_wp2_with fail
                    go_roundg (m - (cc + 1))
                    case rel => exact ⟨s' + r, snd L2 i r, nx2.set v (cc + 1), by rw [hsum], hnx9, M9.out, s9.out, by rw [hgs2]; exact Nat.le_refl _⟩
                    case measure => omega
              · have q5 : (lev.getD hh 0 != lev.getD v 0 + 1) = true := by rw [bne_iff_ne]; exact hne
                have hsk2 := hskip.out (.inr hne)
                clear hskip hlb hne
                generalize lev.getD hh 0 = LH at *
                generalize lev.getD v 0 = LV at *
                have M5 := fun q => (M4.drewN q).setnx v (cc + 1)
                have s5 := fun q => (s4.drewN q).trans (Same.set (W4.drewN q) p.gn v (.int .i64 ((cc + 1 : Nat) : Int))) (fun _ _ e => .inr e)
                rw [hcc1] at M5 s5
                replace M5 := Lib.hid M5
                replace s5 := Lib.hid s5
                clear M4 s4
                go_quiet (fail)
                go_wp2_with fail
                go_roundg (m - (cc + 1))
                case rel => exact ⟨s', L1, nx1.set v (cc + 1), rfl, hsk2, M5.out _, s5.out _, by rw [hgs]; exact Nat.le_refl _⟩
                case measure => omega
          · have q1 : decide (s' < most) = false := decide_eq_false hc2
            have hp := Lib.hid (hlp.out.push hvs2.out (fun h0 => by omega))
            go_wp2_with fail
            go_quiet (fail)
            have M1 := hMw.drewN nq
            have s1 := hsm.drewN nq
            go_wp2_with fail
            go_ret
            exact ⟨s', L1, nx1, rfl, hp.out, M1, s1⟩
        · have q0 : decide (cc < m) = false := decide_eq_false hc1
          have hp := Lib.hid (hlp.out.push hvs2.out (fun h0 => by rw [hcc.out.1, ← hm.out.1]; omega))
          go_wp2_with fail
          go_quiet (fail)
          have M1 := hMw.drewN nq
          have s1 := hsm.drewN nq
          go_wp2_with fail
          go_ret
          exact ⟨s', L1, nx1, rfl, hp.out, M1, s1⟩
end Go.Proofs.YticekkjambkifaaDoor.Fl
