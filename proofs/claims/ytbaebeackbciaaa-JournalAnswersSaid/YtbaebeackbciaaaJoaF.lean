/- The law JournalAnswers. -/
import Derived.Test.YtbaebeackbciaaaJoaE
import Derived.Test.YtbaebeackbciaaaJouS
import Derived.Test.YtbaebeackbciaaaJouV
import Derived.Test.YtbaebeackbciaaaEveL
set_option linter.unusedVariables false
set_option linter.unusedSimpArgs false
namespace Go.Proofs.Ytbaebeackbciaaa
open Go.RowKit CoEv

set_option maxRecDepth 100000 in
set_option maxHeartbeats 16000000 in
theorem lawAnswers35_any (A0 : Option Addr) (n0 c0 : Nat) (xs0 : List Int) (A1 : Option Addr) (n1 c1 : Nat) (bs1 : List Nat) (A2 : Option Addr) (n2 c2 : Nat) (evs : List Ev) (sz : Int) (w : World)
    (h0 : RI w A0 n0 xs0) (hc0 : n0 ≤ c0) (hn0 : n0 ≤ 17592186044416) (h1 : RS BE w A1 n1 bs1) (hB1 : Byt bs1) (hc1 : n1 ≤ c1) (h2 : RS EE w A2 n2 evs) (hc2 : n2 ≤ c2) :
    Calls Try.prog 7 #[.slice A0 n0 c0, .slice A1 n1 c1, .slice A2 n2 c2, .int .i64 sz] w fun e w' => e = .returned (.bool true) ∧ Below w.heap.size w w' := by
  have kaw := Lib.hid fun w => awake35_any w
  have kf := fun w => few_any A0 n0 c0 w
  by_cases hfew : n0 ≤ 500
  · rw [decide_eq_true hfew] at kf
    replace kf := Lib.hid kf
    by_cases hbig : 3000 < n1
    · go_enter Try.func7, Try.ntmps7
      go_wp2_with fail
      (with_reducible refine (kf.out _).mono ?_); rintro e wf ⟨rfl, hQ⟩; obtain rfl := hQ
      go_wp2_with fail
      (with_reducible refine (kaw.out _).mono ?_); rintro e w1 ⟨rfl, hb1⟩
      go_wp2_with fail
      go_ret
      exact ⟨rfl, hb1⟩
    · by_cases hbig2 : 300 < n2
      · go_enter Try.func7, Try.ntmps7
        go_wp2_with fail
        (with_reducible refine (kf.out _).mono ?_); rintro e wf ⟨rfl, hQ⟩; obtain rfl := hQ
        go_wp2_with fail
        (with_reducible refine (kaw.out _).mono ?_); rintro e w1 ⟨rfl, hb1⟩
        go_wp2_with fail
        go_ret
        exact ⟨rfl, hb1⟩
      · have kn := Lib.hid fun w h => new_any A0 n0 c0 xs0 w h hc0 (by omega)
        have km := Lib.hid fun g w h => made35_any g w h
        go_enter Try.func7, Try.ntmps7
        go_wp2_with fail
        (with_reducible refine (kf.out _).mono ?_); rintro e wf ⟨rfl, hQ⟩; obtain rfl := hQ
        go_wp2_with fail
        (with_reducible refine (kn.out _ h0).mono ?_)
        rintro e w1 ⟨rfl, hD1, hb1, hs1⟩
        go_wp2_with fail
        (with_reducible refine (km.out _ _ hD1).mono ?_)
        rintro e w2 ⟨A, n, c, B, m, d, L, rfl, hnc, hr, hmd, hrL, hrt, hL3, hl5, hD2, hg2, hfA, hfB⟩
        have BW : Below w.heap.size w w2 := hb1.trans (below_of_grown hg2 (Nat.le_refl _) (by omega))
        have hnl := hr.len
        have hjl := joi_len hl5
        have hn168 : n ≤ 168 := by omega
        have hbj := Lib.hid (joi_byt L)
        replace hnl := Lib.hid hnl
        generalize joi L = js at *
        have hs2 := hg2.size
        generalize hgd : w.heap.size = gd at *
        replace hgd := Lib.hid hgd
        have hfj : ∀ ad, A = some ad → 0 < n → ad.block ≠ gd := fun ad e _ => by have := hfA ad e; omega
        replace hfj := Lib.hid hfj
        have kx1 := Lib.hid fun w h => next_any gd (n : Int) w h (by omega)
        have kx2 := Lib.hid fun w h => next_any gd 255 w h (by omega)
        have kx3 := Lib.hid fun w h => next_any gd ((n : Int) + 1) w h (by omega)
        clear hb1 hD1 hg2 kn km h0 hjl hrL hrt hl5 hL3 hmd hfB hfA
        go_upto_if 62 with (at_builtin; refine wpList_catG tyB rfl _ _ rfl rfl rfl (OS.nil_ (E := BE) (B := w2.heap.size)) hr (by unfold maxLen; simp; omega) (by simp; omega) (Nat.le_refl _) ?_; intro v3 w3 ho3 hb3 hg3; rw [List.nil_append] at ho3; obtain ⟨A3, n3, c3, rfl, hn3, hc3, _, _, _⟩ := ho3.form; have hn4 := hn3.trans hnl.out; clear hn3; subst hn4)
        have hr3 := hr.below hb3 (Nat.le_refl _)
        have hr2 := hr
        have hD3 := hD2.below hb3 (by have := hD2.lt; omega)
        have hgl2 := hD2.lt
        have BW3 := BW.trans (hb3.mono (by omega))
        have hs3 := hb3.size
        clear hb3 hg3 hr hD2 BW
        go_cut [12] (fun p wx => ∃ (A3 : Option Addr) (c3 : Nat) (bs : List Nat), p = .slice A3 n3 c3 ∧ OS BE 5 wx w2.heap.size (.slice A3 n3 c3) bs ∧ Hid (bs.length = n3) ∧ Hid (Byt bs) ∧ Dk wx gd ∧ RS BE wx A n3 js ∧ Below gd w wx ∧ w2.heap.size ≤ wx.heap.size)
        case first =>
          -- B1
          by_cases hj0 : n3 = 0
          · have q3 : decide (0 < (n3 : Int)) = false := by simp; omega
            have q3' : ¬ 0 < n3 := by omega
            replace hj0 := Lib.hid hj0
            go_wp2_with fail
            go_meet
            case rel => exact ⟨A3, c3, js, rfl, ho3, hnl, hbj, hD3, hr3, BW3, by omega⟩
          · have q3 : decide (0 < (n3 : Int)) = true := by simp; omega
            have q3' : 0 < n3 := by omega
            obtain ⟨g', cap, hv3, hcap, hmx, hgB, hgl, hfz, hcl, hst⟩ := ho3.bytes (by have := hnl.out; omega)
            simp only [Value.slice.injEq] at hv3
            obtain ⟨rfl, -, rfl⟩ := hv3
            have hK : Hid (∀ w', w3.grownBy w' (some gd) → (∀ (i x : Nat), js[i]? = some x → w'.cell? ⟨g', i, none⟩ = some (.int .u8 (x : Int))) ∧ (∀ i, w'.frozen? ⟨g', i, none⟩ = false) ∧
                (∀ i (y : Nat), OS BE 5 (w'.setCell ⟨g', i, none⟩ (.int .u8 (y : Int))) w2.heap.size (.slice (some ⟨g', 0, none⟩) n3 c3) (js.set i y)) ∧ RS BE w' A n3 js ∧ Below gd w w') := Lib.hid fun w' hg => by
              have ho' := ho3.kept hg (.inr (fun e => by simp only [Value.ownBlock, Option.map_some] at e; injection e with e; omega))
              obtain ⟨g2, cap2, hv2, _, _, _, _, hfz2, hcl2, hst2⟩ := ho'.bytes (by have := hnl.out; omega)
              simp only [Value.slice.injEq, Option.some.injEq, Addr.mk.injEq] at hv2
              obtain ⟨⟨rfl, -⟩, -, -⟩ := hv2
              exact ⟨hcl2, hfz2, hst2, hr3.kept0 hg (fun ad e hk e' => by injection e' with e'; exact hfj.out ad e hk e'), BW3.trans (below_of_grown hg (Nat.le_refl _) (by omega))⟩
            have hAd : Hid (∀ ad, A = some ad → ad.block < w2.heap.size) := Lib.hid fun ad e => by
              obtain ⟨ad', e', hlt⟩ := hr2.block_lt (by omega)
              rw [e] at e'; injection e' with e'; rw [e']; exact hlt
            have hgd3 := hD3.lt
            clear hcl hst hfz ho3 hr3 hr2 BW3
            go_wp2_with fail
            (go_region_with ((first
                | (go_at_call 15; (with_reducible refine (kx1.out _ (by first | exact hD3.drew | exact hD3)).mono ?_); rintro e w4 ⟨x1, rfl, hx0, hx1, -, hD4, hg4⟩; obtain ⟨i1, rfl⟩ := Int.eq_ofNat_of_zero_le hx0; have hi1 : (i1 : Int) < (n3 : Int) := hx1 (by omega); clear hx1; obtain ⟨y1, hy1⟩ : ∃ y, js[i1]? = some y := ⟨_, List.getElem?_eq_getElem (by have := hnl.out; omega)⟩; have hg34 : w3.grownBy w4 (some gd) := ⟨hg4.os, hg4.tape, hg4.output, hg4.size, hg4.block⟩; have hc4 := (hK.out _ hg34).1 i1 y1 hy1; replace hy1 := Lib.hid hy1; have hfz4 := (hK.out _ hg34).2.1 i1)
                | (go_at_call 15; (with_reducible refine (kx2.out _ (by first | exact hD4.drew | exact hD4 | exact hD4.drewN _)).mono ?_); rintro e w5 ⟨x2, rfl, hx20, hx2, -, hD5, hg5⟩; obtain ⟨i2, rfl⟩ := Int.eq_ofNat_of_zero_le hx20; have hi2 : (i2 : Int) < 255 := hx2 (by omega); clear hx2; have hg35 : w3.grownBy w5 (some gd) := grown_trans hg34 ⟨hg5.os, hg5.tape, hg5.output, hg5.size, hg5.block⟩; have hc5 := (hK.out _ hg35).1 i1 y1 hy1.out; have hfz5 := (hK.out _ hg35).2.1 i1; have q6 := u8_xor_nat y1 (1 + i2) (hbj.out.at_ hy1.out) (by omega); have q7 : IntKind.i64.wrap (1 + (i2 : Int)) = ((1 + i2 : Nat) : Int) := (by rw [IntKind.wrap_i64]; omega); have q8 : IntKind.u8.wrap ((1 + i2 : Nat) : Int) = ((1 + i2 : Nat) : Int) := (by rw [IntKind.wrap_u8']; omega)))))
            all_goals
              go_wp2_with fail
              go_meet
              case rel =>
                obtain ⟨f1, f2, f3, f4, f5⟩ := hK.out _ hg35
                rw [show IntKind.u8.wrap (1 + (i2 : Int)) = ((1 + i2 : Nat) : Int) from by rw [IntKind.wrap_u8']; omega, q6]
                have hgl5 : g' < w5.heap.size := Nat.lt_of_lt_of_le hgl hg35.size
                have hgg : gd < g' := by omega
                refine ⟨_, _, js.set i1 (y1 ^^^ (1 + i2)), rfl, f3 i1 _, Lib.hid (by rw [List.length_set]; exact hnl.out), Lib.hid (set_byt hbj.out (Nat.xor_lt_two_pow (n := 8) (hbj.out.at_ hy1.out) (by omega))), ?_, ?_, ?_, ?_⟩
                · exact hD5.below ((Below.refl (gd + 1) w5).setCell (p := ⟨g', i1, none⟩) hgg _) (Nat.lt_succ_self _)
                · exact f4.far (p := ⟨g', i1, none⟩) (fun ad e => by have := hAd.out ad e; show ad.block ≠ g'; omega) _
                · exact f5.setCell (p := ⟨g', i1, none⟩) (Nat.le_of_lt hgg) _
                · have := hg35.size; simp; omega
          -- E1
        case rest =>
          obtain ⟨A5, c5, bs, rfl, ho5, hbl, hbb, hD, hr, hb, hs⟩ := hcut
          obtain ⟨A5', n5', c5', hv5, hn5, hc5, _, hr5, hf5⟩ := ho5.form
          simp only [Value.slice.injEq] at hv5
          obtain ⟨rfl, rfl, rfl⟩ := hv5
          replace hn5 := Lib.hid hn5
          have hGr : ∀ w', wc.grownBy w' (some gd) → RS BE w' A n3 js ∧ RS BE w' A1 n1 bs1 ∧ RS BE w' A5 n3 bs ∧ Below gd w w' := fun w' hg =>
            have hgl5 := hD.lt
            ⟨hr.kept0 hg (fun ad e hk e' => by injection e' with e'; exact hfj.out ad e hk e'), (h1.below hb (by have := hgd.out; omega)).kept0 hg (fun ad e hk e' => by
              obtain ⟨ad', e2, hlt⟩ := h1.block_lt hk
              rw [e] at e2; injection e2 with e2; injection e' with e'; subst e2; have := hgd.out; omega), hr5.kept0 hg (fun ad e hk e' => by
              have := hf5 ad e; injection e' with e'; omega), hb.trans (below_of_grown hg (Nat.le_refl _) (by omega))⟩
          replace hGr := Lib.hid hGr
          have hG := World.grownBy.refl wc (some gd)
          have hne1 : Hid (∀ ad, A1 = some ad → 0 < n1 → ad.block ≠ gd) := Lib.hid fun ad e hk => by
            obtain ⟨ad', e2, hlt⟩ := h1.block_lt hk
            rw [e] at e2; injection e2 with e2; subst e2; have := hgd.out; omega
          have hne5 : Hid (∀ ad, A5 = some ad → 0 < n3 → ad.block ≠ gd) := Lib.hid fun ad e hk => by have := hf5 ad e; omega
          have hl1 := Lib.hid h1.len
          have hcl5 := hD.lt
          clear hr hb hr5 ho5 hf5 hr3 hD3 BW3 hr2 ho3
          go_wp2_with fail
          go_cut [90, 91, 92] (fun p q i wx => ∃ (gb : Nat) (Ls : List (List Nat)), p = .slice (some ⟨gb, 0, none⟩) 5 5 ∧ q = .int .i64 5 ∧ i = .int .i64 0 ∧ RLg BE wx gd (some ⟨gb, 0, none⟩) 5 Ls ∧ Hid (∀ l ∈ Ls, Byt l ∧ l.length ≤ 7000) ∧ Dk wx gd ∧ Below gd w wx)
          case first =>
            -- B2
            have q4 : IntKind.i64.wrap ((n3 : Int) + 1) = (n3 : Int) + 1 := by rw [IntKind.wrap_i64]; omega
            replace hG : wc.grownBy wc.drew (some gd) := grown_drew hG
            replace hD : Dk wc.drew gd := hD.drew
            go_loud (go_region_held3 (fun w' => True) (exact True.intro)
              ((first
                | (go_at_call 15; (with_reducible refine (kx3.out _ hD).mono ?_); rintro e wn ⟨x3, rfl, hx30, hx3, -, hDn, hgn⟩; obtain ⟨i3, rfl⟩ := Int.eq_ofNat_of_zero_le hx30; have hi3 : (i3 : Int) < (n3 : Int) + 1 := hx3 (by omega); clear hx3; have hi3' : (i3 : Int) ≤ (c : Int) := (by omega); replace hD := hDn; replace hG : wc.grownBy wn (some gd) := grown_trans hG ⟨hgn.os, hgn.tape, hgn.output, hgn.size, hgn.block⟩)
                | (refine step_catG tyB (by rfl) (.const (.slice none 0 0)) (.tmp 86) (by rfl) (by rfl) (by rfl) (OS.nil_ (E := BE) (B := wc.heap.size)) (hGr.out _ hG).1 (by unfold maxLen; simp; omega) (by simp; omega) hG.size ?_; intro v6 w6 ho6 hb6 hg6; rw [List.nil_append] at ho6; replace hD := hD.below hb6 hcl5; replace hG : wc.grownBy w6 (some gd) := grown_below hG hb6 (Nat.le_refl _))
                | (refine step_catG tyB (by rfl) (.tmp 87) (.tmp 88) (by rfl) (by rfl) (by rfl) ho6 (hGr.out _ hG).2.1 (by have := hnl.out; unfold maxLen; omega) (by have := hnl.out; omega) hG.size ?_; intro v7 w7 ho7 hb7 hg7; replace hD := hD.below hb7 hcl5; replace hG : wc.grownBy w7 (some gd) := grown_below hG hb7 (Nat.le_refl _); obtain ⟨A7, n7, c7, rfl, hn7, hc7, -, hr7, hf7⟩ := ho7.form; replace hn7 := Lib.hid hn7)
                | (fail))))
            all_goals
              go_wp2_with fail
              go_meet
              case rel =>
                obtain ⟨r1, r2, r3, r4⟩ := hGr.out _ hG
                have hgl7 : gd < w7.heap.size := Nat.lt_of_lt_of_le hcl5 hG.size
                have hgs := hG.size
                have hnl' := hnl.out
                have hbl' := hbl.out
                have hl1' := hl1.out
                refine ⟨w7.heap.size, [bs1, js, bs, js.take i3, js ++ bs1], rfl, rfl, rfl, RLg.of_blk (Blk.new w7 _ _) (by omega) rfl rfl ?_, Lib.hid ?_, hD.alloc _, r4.alloc (by omega) _⟩
                · intro i u ys hu hy
                  rcases i with _ | _ | _ | _ | _ | i
                  · obtain rfl : _ = u := by injection hu
                    obtain rfl : _ = ys := by injection hy
                    exact ⟨_, _, _, rfl, hc1, r2.alloc _, hne1.out⟩
                  · obtain rfl : _ = u := by injection hu
                    obtain rfl : _ = ys := by injection hy
                    exact ⟨_, _, _, rfl, hnc, r1.alloc _, hfj.out⟩
                  · obtain rfl : _ = u := by injection hu
                    obtain rfl : _ = ys := by injection hy
                    exact ⟨_, _, _, rfl, hc5, r3.alloc _, hne5.out⟩
                  · obtain rfl : _ = u := by injection hu
                    obtain rfl : _ = ys := by injection hy
                    exact ⟨_, _, _, rfl, by omega, (r1.head (k := i3) (by omega)).alloc _, fun ad e hk => hfj.out ad e (by omega)⟩
                  · obtain rfl : _ = u := by injection hu
                    obtain rfl : _ = ys := by injection hy
                    exact ⟨_, _, _, rfl, hc7, hr7.alloc _, fun ad e hk => by have := hf7 ad e; omega⟩
                  · simp at hy
                · intro l hl
                  simp only [List.mem_cons, List.not_mem_nil, or_false] at hl
                  rcases hl with rfl | rfl | rfl | rfl | rfl
                  · exact ⟨hB1, by omega⟩
                  · exact ⟨hbj.out, by omega⟩
                  · exact ⟨hbb.out, by omega⟩
                  · exact ⟨hbj.out.take _, by rw [List.length_take]; omega⟩
                  · exact ⟨hbj.out.append hB1, by rw [List.length_append]; omega⟩
            -- E2
          case rest =>
            obtain ⟨gb, Ls, rfl, rfl, rfl, hL, hLs, hD6, hb6⟩ := hcut
            clear hD hG hbl hbb hs hGr hne1 hne5 hfj hnl hbj hcl5 hnc hc5 kx1 kx2 kx3 hn168 hs3 hgl2 hs2 hs1
            have hgdw := hgd.out
            go_wp2_with fail
            go_loopw [92] (fun i wr => ∃ ii : Nat, ii ≤ 5 ∧ i = .int .i64 ii ∧ RLg BE wr gd (some ⟨gb, 0, none⟩) 5 Ls ∧ Dk wr gd ∧ Below gd w wr) (fun i _ => 5 - (intOf i).toNat)
            case atStart => exact ⟨0, by omega, rfl, hL, hD6, hb6⟩
            case round =>
              clear hL hD6 hb6
              obtain ⟨ii, hi5, rfl, hLr, hDr, hbr⟩ := hrel
              by_cases hlt : ii < 5
              · -- B3
                obtain ⟨ad, A6, n6, c6, x, hAe, hcell, hx, hnc6, hr6, hne6, hadl⟩ := hLr.get (i := ii) hlt
                obtain rfl : ad = ⟨gb, 0, none⟩ := by injection hAe with e; exact e.symm
                have hcell' : wr.cell? ⟨gb, ii, none⟩ = some (.slice A6 n6 c6) := by
                  have hadd : (⟨gb, 0, none⟩ : Addr).add ii = ⟨gb, ii, none⟩ := by unfold Addr.add; split <;> simp_all
                  rw [← hadd]; exact hcell
                obtain ⟨hBx, hx7⟩ := hLs.out x (List.mem_of_getElem? hx.out)
                have hn6 := hr6.len
                have hn67 : n6 ≤ 7000 := by omega
                replace hn6 := Lib.hid hn6
                have i2 : (0 : Int) ≤ (ii : Int) := Int.natCast_nonneg _
                have i3 : (ii : Int) < 5 := by omega
                have kr := Lib.hid fun w h => jread_any A6 n6 c6 x w h hBx hnc6 (by omega)
                have krr := Lib.hid fun w h => rread_any A6 n6 c6 x w h hBx hnc6 (by omega)
                have kc := Lib.hid fun w h => jrecover_any A6 n6 c6 x w h hBx hnc6 (by omega)
                have kcr := Lib.hid fun w h => rrecover_any A6 n6 c6 x w h hBx hnc6 (by omega)
                have kj := Lib.hid fun w h => jsum_any A6 n6 c6 x w h hBx (by omega)
                have kjr := Lib.hid fun w h => rsum_any A6 n6 c6 x w h hBx (by omega)
                have BN : Below wr.heap.size wr wr := Below.refl _ _
                have hgr := hDr.lt
                replace hne6 := Lib.hid hne6
                clear hAe hcell hx hadl
                go_wp2_with fail
                (with_reducible refine (kr.out _ hr6).mono ?_)
                rintro e wa ⟨Aa, na, ca, La, k, rfl, hca, hra, hrda, hba, -⟩
                replace BN := BN.trans (hba.mono (Nat.le_refl _))
                have hr6a := hr6.below BN (Nat.le_refl _)
                replace hrda := Lib.hid hrda
                clear hcell' kr hba
                go_wp2_with fail
                (with_reducible refine (krr.out _ hr6a).mono ?_)
                rintro e wb ⟨Ab, nb, cb, Lb, kb, rfl, hcb, hrb, hrdb, hbb, -⟩
                obtain ⟨rfl, rfl⟩ := hrda.out.unique hrdb
                replace hra := hra.below hbb (Nat.le_refl _)
                replace BN := BN.trans (hbb.mono BN.size)
                have hr6b := hr6.below BN (Nat.le_refl _)
                clear hr6a hrdb hbb krr
                go_wp2_with fail
                (with_reducible refine (kc.out _ hr6b).mono ?_)
                rintro e wc ⟨Ap, np, cp, Au, nu, cu, Lp, kp, rfl, hcp, hrp, hcu, hru, hrdp, hbc, -, -⟩
                obtain ⟨rfl, rfl⟩ := hrda.out.unique hrdp
                replace hra := hra.below hbc (Nat.le_refl _)
                replace hrb := hrb.below hbc (Nat.le_refl _)
                replace BN := BN.trans (hbc.mono BN.size)
                have hr6c := hr6.below BN (Nat.le_refl _)
                clear hr6b hrdp hbc kc
                go_wp2_with fail
                (with_reducible refine (kcr.out _ hr6c).mono ?_)
                rintro e wd ⟨Aq, nq, cq, Av, nv, cv, Lq, kq, rfl, hcq, hrq, hcv, hrv, hrdq, hbd, -, -⟩
                obtain ⟨rfl, rfl⟩ := hrda.out.unique hrdq
                replace hra := hra.below hbd (Nat.le_refl _)
                replace hrb := hrb.below hbd (Nat.le_refl _)
                replace hrp := hrp.below hbd (Nat.le_refl _)
                replace hru := hru.below hbd (Nat.le_refl _)
                replace BN := BN.trans (hbd.mono BN.size)
                have hbdd := hrda.out.bd
                have hnab : na ≤ 7000 := by rw [← hra.len]; have := hn6.out; omega
                have hnp : np ≤ 7000 := by rw [← hrp.len]; have := hn6.out; omega
                have hLl : ∀ l ∈ La, l.length ≤ 1099511627776 := fun l hl => by
                  have h1 : l.length ≤ La.flatten.length := by
                    obtain ⟨s, t, rfl⟩ := List.append_of_mem hl
                    simp only [List.flatten_append, List.flatten_cons, List.length_append]; omega
                  have := hn6.out; omega
                have kls := Lib.hid fun w h h' => lsame_any Aa Ab na nb ca cb La w h h' (by omega) hLl
                have kes := Lib.hid fun w h h' => evsame_any Ap Aq np nq cp cq La.flatten w h h' (by omega)
                clear hr6c hrdq hbd kcr hbdd hLl hrda
                go_wp2_with fail
                (with_reducible refine (kls.out _ hra hrb).mono ?_)
                rintro e we ⟨rfl, hbe⟩
                replace BN := BN.trans (hbe.mono BN.size)
                replace hrp := hrp.below hbe (Nat.le_refl _)
                replace hrq := hrq.below hbe (Nat.le_refl _)
                replace hru := hru.below hbe (Nat.le_refl _)
                replace hrv := hrv.below hbe (Nat.le_refl _)
                clear hbe kls hra hrb
                go_wp2_with fail
                (with_reducible refine (kes.out _ hrp hrq).mono ?_)
                rintro e wf2 ⟨rfl, hbf⟩
                replace BN := BN.trans (hbf.mono BN.size)
                have cv1 := conv_str Au nu cu _ wf2 (hru.below hbf (Nat.le_refl _))
                have cv2 := conv_str Av nv cv _ wf2 (hrv.below hbf (Nat.le_refl _))
                have hr6f := hr6.below BN (Nat.le_refl _)
                clear hbf kes hrp hrq hru hrv
                go_wp2_with fail
                (with_reducible refine (kj.out _ hr6f).mono ?_); rintro e wg ⟨rfl, hQ⟩; obtain rfl := hQ.symm; clear hQ
                go_wp2_with fail
                (with_reducible refine (kjr.out _ hr6f).mono ?_); rintro e wg ⟨rfl, hQ⟩; obtain rfl := hQ.symm; clear hQ
                clear kj kjr cv1 cv2
                have hDf := hDr.below BN hgr
                have hLf := hLr.below BN (Nat.le_refl _)
                have hsr := hbr.size
                have hbf := hbr.trans (BN.mono (by omega))
                have km2 : Hid (∀ w, Dk w gd → Calls Try.prog 24 #[.pointer (some ⟨gd, 0, none⟩), .int .i64 4, .int .i64 3] w (RetDE w gd 3)) := Lib.hid fun w h => mkmixed_any gd 4 3 w h (by omega) (by omega) (by omega)
                clear BN hr6 hLr hDr hbr kaw
                go_wp2_with fail
                (with_reducible refine (km2.out _ hDf).mono ?_)
                rintro e wm ⟨Am, nm, cm, em, rfl, hcm, hrm, hem, -, hDm, hgm, hfm⟩
                have hr6m := hr6f.kept0 hgm (fun ad e hk e' => by injection e' with e'; exact hne6.out ad e hk e')
                have hLm := hLf.grown hgm
                have hbm := hbf.trans (below_of_grown hgm (Nat.le_refl _) (by have := hDf.lt; omega))
                have hgl := hDm.lt
                have hnm := hrm.len
                have h2m := h2.below hbm (by omega)
                have hn2l := h2.len
                have hR3 : RLg EE (wm.alloc (.cells #[.slice A2 n2 c2, .slice Am nm cm, .slice none 0 0] 32)) gd (some ⟨wm.heap.size, 0, none⟩) 3 [evs, em, []] := RLg.of_blk (Blk.new wm _ _) (by omega) rfl rfl (by
                  intro i u ys hu hy
                  rcases i with _ | _ | _ | i
                  · obtain rfl : _ = u := by injection hu
                    obtain rfl : _ = ys := by injection hy
                    refine ⟨_, _, _, rfl, hc2, h2m.alloc _, fun ad e hk => ?_⟩
                    obtain ⟨ad', e2, hlt2⟩ := h2.block_lt hk
                    rw [e] at e2; injection e2 with e2; subst e2; omega
                  · obtain rfl : _ = u := by injection hu
                    obtain rfl : _ = ys := by injection hy
                    exact ⟨_, _, _, rfl, hcm, hrm.alloc _, fun ad e hk => by have := hfm ad e; have := hDf.lt; omega⟩
                  · obtain rfl : _ = u := by injection hu
                    obtain rfl : _ = ys := by injection hy
                    exact ⟨_, _, _, rfl, Nat.le_refl _, RS.none_, fun ad e hk => by omega⟩
                  · simp at hy)
                have hL3 : Hid (∀ l ∈ [evs, em, []], l.length ≤ 300) := Lib.hid fun l hl => by
                  simp only [List.mem_cons, List.not_mem_nil, or_false] at hl
                  rcases hl with rfl | rfl | rfl
                  · omega
                  · omega
                  · simp
                have hbo := (Below.refl wm.heap.size wm).alloc (Nat.le_refl _) (.cells #[.slice A2 n2 c2, .slice Am nm cm, .slice none 0 0] 32)
                have hr6o := hr6m.below hbo (Nat.le_refl _)
                have hLo := hLm.below hbo (Nat.le_refl _)
                have hDo := hDm.below hbo hgl
                have hbw := hbm.trans (hbo.mono (Nat.le_of_lt hgl))
                have hgo := hDo.lt
                clear hbo hr6m hLm hDm hbm hgm hfm hrm hr6f hLf hDf hbf hem hnm h2m hn2l hcm
                go_wp2_with fail
                generalize wm.alloc (.cells #[.slice A2 n2 c2, .slice Am nm cm, .slice none 0 0] 32) = wo at *
                generalize wm.heap.size = gm at *
                generalize [evs, em, []] = L3 at *
                go_loopw [150] (fun i wr => ∃ jj : Nat, jj ≤ 3 ∧ i = .int .i64 jj ∧ Below wo.heap.size wo wr) (fun i _ => 3 - (intOf i).toNat)
                case atStart => exact ⟨0, by omega, rfl, Below.refl _ _⟩
                case round =>
                  obtain ⟨jj, hj3, rfl, hbi⟩ := hrel
                  by_cases hjt : jj < 3
                  · obtain ⟨ad2, Ay, ny, cy, ys, hAe2, hcell2, hys, hcy, hry, -, hadl2⟩ := (hR3.below hbi (Nat.le_refl _)).get (i := jj) hjt
                    obtain rfl : ad2 = ⟨gm, 0, none⟩ := by injection hAe2 with e; exact e.symm
                    have hcell2' : wr.cell? ⟨gm, jj, none⟩ = some (.slice Ay ny cy) := by
                      have hadd : (⟨gm, 0, none⟩ : Addr).add jj = ⟨gm, jj, none⟩ := by unfold Addr.add; split <;> simp_all
                      rw [← hadd]; exact hcell2
                    have hr6i := hr6o.below hbi (Nat.le_refl _)
                    have hy3 := hL3.out ys (List.mem_of_getElem? hys.out)
                    rw [hry.len] at hy3
                    obtain ⟨zs, er, kj, krf⟩ := both_append A6 n6 c6 x Ay ny cy ys hnc6 (by omega) (by omega)
                    replace kj := Lib.hid kj
                    replace krf := Lib.hid krf
                    have i4 : (0 : Int) ≤ (jj : Int) := Int.natCast_nonneg _
                    have i5 : (jj : Int) < 3 := by omega
                    have hsi := hbi.size
                    clear hAe2 hcell2 hys hadl2
                    go_wp2_with fail
                    (with_reducible refine (kj.out _ hr6i hry).mono ?_)
                    rintro e wj ⟨As, ns, cs, rfl, hcs, hrs, hbs, -⟩
                    have hr6j := hr6i.below hbs (Nat.le_refl _)
                    have hryj := hry.below hbs (Nat.le_refl _)
                    clear hcell2' hr6i hry kj
                    go_wp2_with fail
                    (with_reducible refine (krf.out _ hr6j hryj).mono ?_)
                    rintro e wk ⟨At, nt, ct, rfl, hct, hrt, hbt, -⟩
                    have q5 : (er != er) = false := by simp
                    have cv1 := conv_str As ns cs zs wk (hrs.below hbt (Nat.le_refl _))
                    have cv2 := conv_str At nt ct zs wk hrt
                    have hbn := hbi.trans ((hbs.trans (hbt.mono hbs.size)).mono hsi)
                    clear hr6j hryj hrs hrt hbs hbt krf
                    go_wp2_with fail
                    go_roundw
                    case rel => exact ⟨jj + 1, by omega, by go_num, hbn⟩
                    case measure => simp [intOf]; omega
                  · have i5 : ¬ (jj : Int) < 3 := by omega
                    have hsi := hbi.size
                    go_wp2_with fail
                    go_roundw
                    case rel => exact ⟨ii + 1, by omega, by go_num, hLo.below hbi (Nat.le_refl _), hDo.below hbi hgo, hbw.trans (hbi.mono (by omega))⟩
                    case measure => simp [intOf]; omega
                -- E3
              · -- B4
                have i3 : ¬ (ii : Int) < 5 := by omega
                have km3 : Hid (∀ w, Dk w gd → Calls Try.prog 24 #[.pointer (some ⟨gd, 0, none⟩), .int .i64 5, .int .i64 9] w (RetDE w gd 9)) := Lib.hid fun w h => mkmixed_any gd 5 9 w h (by omega) (by omega) (by omega)
                have k4 := Lib.hid fun w h => next_any gd 4 w h (by omega)
                have hgr := hDr.lt
                clear hLr hLs
                go_wp2_with fail
                (with_reducible refine (km3.out _ hDr).mono ?_)
                rintro e wm ⟨Am, nm, cm, em, rfl, hcm, hrm, hem, -, hDm, hgm, hfm⟩
                have hbm := hbr.trans (below_of_grown hgm (Nat.le_refl _) (by omega))
                have hgl := hDm.lt
                have hnm := hrm.len
                have h2m := h2.below hbm (by omega)
                have hn2l := h2.len
                have hR2 : RLg EE (wm.alloc (.cells #[.slice A2 n2 c2, .slice Am nm cm] 32)) gd (some ⟨wm.heap.size, 0, none⟩) 2 [evs, em] := RLg.of_blk (Blk.new wm _ _) (by omega) rfl rfl (by
                  intro i u ys hu hy
                  rcases i with _ | _ | i
                  · obtain rfl : _ = u := by injection hu
                    obtain rfl : _ = ys := by injection hy
                    refine ⟨_, _, _, rfl, hc2, h2m.alloc _, fun ad e hk => ?_⟩
                    obtain ⟨ad', e2, hlt2⟩ := h2.block_lt hk
                    rw [e] at e2; injection e2 with e2; subst e2; omega
                  · obtain rfl : _ = u := by injection hu
                    obtain rfl : _ = ys := by injection hy
                    exact ⟨_, _, _, rfl, hcm, hrm.alloc _, fun ad e hk => by have := hfm ad e; omega⟩
                  · simp at hy)
                have hL2 : Hid (∀ l ∈ [evs, em], l.length ≤ 300) := Lib.hid fun l hl => by
                  simp only [List.mem_cons, List.not_mem_nil, or_false] at hl
                  rcases hl with rfl | rfl
                  · omega
                  · omega
                have hbo := (Below.refl wm.heap.size wm).alloc (Nat.le_refl _) (.cells #[.slice A2 n2 c2, .slice Am nm cm] 32)
                have hDo := hDm.below hbo hgl
                have hbw := hbm.trans (hbo.mono (Nat.le_of_lt hgl))
                clear hbo hDm hbm hgm hfm hrm hDr hbr hem hnm h2m hn2l hcm km3
                go_wp2_with fail
                generalize wm.alloc (.cells #[.slice A2 n2 c2, .slice Am nm cm] 32) = wo at *
                generalize wm.heap.size = gm at *
                generalize [evs, em] = L2 at *
                go_loopw [183] (fun i wr => ∃ jj : Nat, jj ≤ 2 ∧ i = .int .i64 jj ∧ RLg EE wr gd (some ⟨gm, 0, none⟩) 2 L2 ∧ Dk wr gd ∧ Below gd w wr) (fun i _ => 2 - (intOf i).toNat)
                case atStart => exact ⟨0, by omega, rfl, hR2, hDo, hbw⟩
                case round =>
                  clear hR2 hDo hbw
                  obtain ⟨jj, hj2, rfl, hRr, hDr, hbr⟩ := hrel
                  by_cases hjt : jj < 2
                  · obtain ⟨ad2, Ay, ny, cy, ys, hAe2, hcell2, hys, hcy, hry, hney, hadl2⟩ := hRr.get (i := jj) hjt
                    obtain rfl : ad2 = ⟨gm, 0, none⟩ := by injection hAe2 with e; exact e.symm
                    have hcell2' : wr.cell? ⟨gm, jj, none⟩ = some (.slice Ay ny cy) := by
                      have hadd : (⟨gm, 0, none⟩ : Addr).add jj = ⟨gm, jj, none⟩ := by unfold Addr.add; split <;> simp_all
                      rw [← hadd]; exact hcell2
                    have hy3 := hL2.out ys (List.mem_of_getElem? hys.out)
                    rw [hry.len] at hy3
                    have i4 : (0 : Int) ≤ (jj : Int) := Int.natCast_nonneg _
                    have i5 : (jj : Int) < 2 := by omega
                    have hsr := hDr.lt
                    replace hney := Lib.hid hney
                    clear hAe2 hcell2 hys hadl2
                    go_wp2_with fail
                    (with_reducible refine (k4.out _ hDr).mono ?_)
                    rintro e wn ⟨x4, rfl, hx0, hx4, -, hDn, hgn⟩
                    replace hx4 := hx4 (by omega)
                    have hryn := hry.kept0 hgn (fun ad e hk e' => by injection e' with e'; exact hney.out ad e hk e')
                    have hRn := hRr.grown hgn
                    have hbn := hbr.trans (below_of_grown hgn (Nat.le_refl _) (by omega))
                    have hgn2 := hDn.lt
                    clear hcell2' hry hRr hDr hbr hgn
                    go_wp2_with fail
                    have hB2 := Blk.new wn 3 #[.int .i64 sz, .int .i64 (1 + x4)]
                    have hcs : Hid (∀ kk : Nat, kk < 2 → ∃ z : Int, (wn.alloc (.cells #[.int .i64 sz, .int .i64 (1 + x4)] 3)).cell? ⟨wn.heap.size, kk, none⟩ = some (.int .i64 z)) := Lib.hid fun kk hk => by
                      rcases kk with _ | _ | kk
                      · exact ⟨_, Blk.cell hB2 0⟩
                      · exact ⟨_, Blk.cell hB2 1⟩
                      · omega
                    have hblt := hB2.lt
                    have hbo := (Below.refl wn.heap.size wn).alloc (Nat.le_refl _) (.cells #[.int .i64 sz, .int .i64 (1 + x4)] 3)
                    have hryo := hryn.below hbo (Nat.le_refl _)
                    have hRo := hRn.below hbo (Nat.le_refl _)
                    have hDo := hDn.below hbo hgn2
                    have hbw := hbn.trans (hbo.mono (Nat.le_of_lt hgn2))
                    have hgo := hDo.lt
                    clear hB2 hbo hryn hRn hDn hbn
                    generalize wn.alloc (.cells #[.int .i64 sz, .int .i64 (1 + x4)] 3) = wo at *
                    generalize wn.heap.size = gi at *
                    go_loopw [193] (fun i wr => ∃ kk : Nat, kk ≤ 2 ∧ i = .int .i64 kk ∧ Below wo.heap.size wo wr) (fun i _ => 2 - (intOf i).toNat)
                    case atStart => exact ⟨0, by omega, rfl, Below.refl _ _⟩
                    case round =>
                      obtain ⟨kk, hk2, rfl, hbi⟩ := hrel
                      have hsi := hbi.size
                      by_cases hkt : kk < 2
                      · obtain ⟨z, hz⟩ := hcs.out kk hkt
                        have hz' := (hbi.cell (p := ⟨gi, kk, none⟩) hblt).trans hz
                        have hry := hryo.below hbi (Nat.le_refl _)
                        obtain ⟨zs, er, kj, krf⟩ := both_batches Ay ny cy z ys hcy (by omega)
                        replace kj := Lib.hid kj
                        replace krf := Lib.hid krf
                        have i6 : (0 : Int) ≤ (kk : Int) := Int.natCast_nonneg _
                        have i7 : (kk : Int) < 2 := by omega
                        clear hz
                        go_wp2_with fail
                        (with_reducible refine (kj.out _ hry).mono ?_)
                        rintro e wj ⟨As, ns, cs, rfl, hcs, hrs, hbs, -⟩
                        have hryj := hry.below hbs (Nat.le_refl _)
                        clear hz' hry kj
                        go_wp2_with fail
                        (with_reducible refine (krf.out _ hryj).mono ?_)
                        rintro e wk ⟨At, nt, ct, rfl, hct, hrt, hbt, -⟩
                        have q5 : (er != er) = false := by simp
                        have cv1 := conv_str As ns cs zs wk (hrs.below hbt (Nat.le_refl _))
                        have cv2 := conv_str At nt ct zs wk hrt
                        have hbn := hbi.trans ((hbs.trans (hbt.mono hbs.size)).mono hsi)
                        clear hryj hrs hrt hbs hbt krf
                        go_wp2_with fail
                        go_roundw
                        case rel => exact ⟨kk + 1, by omega, by go_num, hbn⟩
                        case measure => simp [intOf]; omega
                      · have i7 : ¬ (kk : Int) < 2 := by omega
                        go_wp2_with fail
                        go_roundw
                        case rel => exact ⟨jj + 1, by omega, by go_num, hRo.below hbi (Nat.le_refl _), hDo.below hbi hgo, hbw.trans (hbi.mono (by omega))⟩
                        case measure => simp [intOf]; omega
                  · have i5 : ¬ (jj : Int) < 2 := by omega
                    have hsr := hDr.lt
                    go_wp2_with fail
                    (with_reducible refine (kaw.out _).mono ?_); rintro e w9 ⟨rfl, hb9⟩
                    go_wp2_with fail
                    go_ret
                    exact ⟨rfl, by rw [hgdw]; exact hbr.trans (hb9.mono (by omega))⟩
                -- E4
  · rw [decide_eq_false hfew] at kf
    replace kf := Lib.hid kf
    go_enter Try.func7, Try.ntmps7
    go_wp2_with fail
    (with_reducible refine (kf.out _).mono ?_); rintro e wf ⟨rfl, hQ⟩; obtain rfl := hQ
    go_wp2_with fail
    (with_reducible refine (kaw.out _).mono ?_); rintro e w1 ⟨rfl, hb1⟩
    go_wp2_with fail
    go_ret
    exact ⟨rfl, hb1⟩
end Go.Proofs.Ytbaebeackbciaaa
