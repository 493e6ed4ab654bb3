/- The law MotifsSpectrum. -/
import Derived.Test.YtkcmbpokoijglaaMocW

import Derived.Test.YtkcmbpokoijglaaMobH
import Derived.Test.YtkcmbpokoijglaaMoaG
set_option linter.unusedVariables false
set_option linter.unusedSimpArgs false
namespace Go.Proofs.Ytkcmbpokoijglaa
open Go.RowKit CoMot CoEv
theorem RL.one {α : Type} {E : El α} {W : World} {H : Nat} {T : TypeId} {A : Option Addr} {n c : Nat} {xs : List α} (h : Blk W H T #[.slice A n c]) (hc : n ≤ c) (hr : RS E W A n xs) : RL E W (some ⟨H, 0, none⟩) 1 [xs] :=
  ⟨[.slice A n c], reads_one h, rfl, fun i u ys hu hy => by
    cases i with
    | zero => injection hu with hu; injection hy with hy; subst hu; subst hy; exact ⟨A, n, c, rfl, hc, hr⟩
    | succ i => simp at hu⟩
theorem tkR_len (xs : List Ev) : (tkR xs).length ≤ xs.length := by
  unfold tkR
  split
  · exact tkL_len xs
  · simp
theorem specL_small (l : List Tick) (s v : Int) : (specL l s v).length ≤ 262144 := by
  unfold specL
  split
  · rw [List.length_map]; exact motR_small s
  · simp
attribute [local irreducible] wpQuiet
set_option maxRecDepth 100000 in
set_option maxHeartbeats 8000000 in
theorem lawSpectrum31_any (A0 : Option Addr) (m0 c0 : Nat) (l : List Int) (st wd : Int) (A1 : Option Addr) (n1 c1 : Nat) (evs : List Ev) (w : World) (h0 : RI w A0 m0 l) (hmc : m0 ≤ c0) (hm0 : m0 ≤ 1152921504606846976) (h1 : RS EE w A1 n1 evs) (hc1 : n1 ≤ c1) :
    Calls Try.prog 8 #[.slice A0 m0 c0, .int .i64 st, .int .i64 wd, .slice A1 n1 c1] w fun e w' => e = .returned (.bool true) ∧ Below w.heap.size w w' := by
  have kaw := Lib.hid fun w => awake31_any w
  have kf := fun w => few_any A0 m0 c0 w
  by_cases hfew : m0 ≤ 500
  rotate_left
  · rw [decide_eq_false hfew] at kf
    replace kf := Lib.hid kf
    go_enter Try.func8, Try.ntmps8
    go_wp2_with fail
    (with_reducible refine (kf.out _).mono ?_); rintro e wf ⟨rfl, hQ⟩; obtain rfl := hQ
    go_wp2_with fail
    (with_reducible refine (kaw.out _).mono ?_); rintro e w1 ⟨rfl, hb1⟩
    go_wp2_with fail
    go_ret
    exact ⟨rfl, hb1⟩
  rw [decide_eq_true hfew] at kf
  replace kf := Lib.hid kf
  by_cases hq1 : 60 < n1
  · have d1 : decide ((60 : Int) < (n1 : Int)) = true := decide_eq_true (by omega)
    go_enter Try.func8, Try.ntmps8
    go_wp2_with fail
    (with_reducible refine (kf.out _).mono ?_); rintro e wf ⟨rfl, hQ⟩; obtain rfl := hQ
    go_wp2_with fail
    (with_reducible refine (kaw.out _).mono ?_); rintro e w1 ⟨rfl, hb1⟩
    go_wp2_with fail
    go_ret
    exact ⟨rfl, hb1⟩
  have d1 : decide ((60 : Int) < (n1 : Int)) = false := decide_eq_false (by omega)
  have kn := Lib.hid fun w h => new_any A0 m0 c0 l w h hmc hm0
  have kt : Hid (∀ g w, Dk w g → Calls Try.prog 12 #[.pointer (some ⟨g, 0, none⟩), .int .i64 8] w (RetTk w g 8)) := Lib.hid fun g w h => fticks_any g 8 w h (by omega)
  have kx3 := Lib.hid fun g w h => next_any g 3 w h (by omega)
  have kx7 := Lib.hid fun g w h => next_any g 7 w h (by omega)
  have km := Lib.hid fun s w => motifs_any s w
  have kmr := Lib.hid fun s w => rmotifs_any s w
  have ks := Lib.hid fun A B n m c d (xs : List Step) w h h' hn => rsame_any A B n m c d xs xs w h h' hn
  have kl := Lib.hid fun A B n m c d (L : List (List Nat)) w h h' hn hL => lists_any A B n m c d L w h h' hn hL
  have ksp := Lib.hid fun A n c l s v w h hn hnc => spectrum_any A n c l s v w h hn hnc
  have ksr := Lib.hid fun A n c l s v w h hn hnc => rspectrum_any A n c l s v w h hn hnc
  have X1 : RX EE w.heap.size w A1 n1 evs := RX.old h1 (Nat.le_refl _)
  go_enter Try.func8, Try.ntmps8
  go_wp2_with fail
  (with_reducible refine (kf.out _).mono ?_); rintro e wf ⟨rfl, hQ⟩; obtain rfl := hQ
  go_wp2_with fail
  (with_reducible refine (kn.out _ h0).mono ?_)
  rintro e w1 ⟨rfl, hD1, hb1, hs1⟩
  replace X1 := X1.below hb1 (Nat.le_refl _)
  generalize hgd : w.heap.size = gd at *
  go_wp2_with fail
  (with_reducible refine (kt.out _ _ hD1).mono ?_)
  rintro e w2 ⟨A, n, c, t, rfl, hnc, hrt, hlt, hT, hD2, hg2, hf2⟩
  have XT : RX TE gd w2 A n t := RX.new hrt hf2 hD1.lt
  replace X1 := X1.same (same_dk hg2)
  have BW2 : Below gd w w2 := hb1.trans (grown_is_below hg2 (Nat.le_refl _) (by omega))
  have hn8 : n ≤ 8 := by rw [← hrt.len]; exact hlt
  clear hrt hf2 hlt hb1 hs1 hD1 hg2 kt kn kf h0 h1
  go_wp2_with fail
  (with_reducible refine (kx3.out _ _ hD2).mono ?_)
  rintro e w3 ⟨x3, rfl, hx0, hx1, -, hD3, hg3⟩
  replace hx1 := hx1 (by omega)
  replace X1 := X1.same (same_dk hg3)
  replace XT := XT.same (same_dk hg3)
  have BW3 := BW2.trans (grown_is_below hg3 (Nat.le_refl _) (Nat.le_of_lt hD2.lt))
  clear BW2 hD2 hg3 kx3
  have es1 : IntKind.i64.wrap (1 + x3) = 1 + x3 := by rw [IntKind.wrap_i64]; omega
  have gl3 := hD3.lt
  have hA5 : Same (fun k => k = gd) w3 (w3.alloc (.cells #[.int .i64 st, .int .i64 (1 + x3)] 3)) := (Same.refl _ _).alloc _
  have hB5 := Blk.new w3 3 #[.int .i64 st, .int .i64 (1 + x3)]
  have XS := X1.same hA5
  have XU := XT.same hA5
  have BW5 := BW3.alloc (Nat.le_of_lt gl3) (.cells #[.int .i64 st, .int .i64 (1 + x3)] 3)
  have hD5 := dk_bl hD3 ((Below.refl w3.heap.size w3).alloc (Nat.le_refl _) (.cells #[.int .i64 st, .int .i64 (1 + x3)] 3))
  have hg1 : w3.heap.size ≠ gd := by omega
  have gl5 : gd ≤ (w3.alloc (.cells #[.int .i64 st, .int .i64 (1 + x3)] 3)).heap.size := by have := hD5.lt; omega
  have hCC : Hid (∀ W', Same (fun k => k = gd) (w3.alloc (.cells #[.int .i64 st, .int .i64 (1 + x3)] 3)) W' → ∀ ii, ii < 2 → ∃ sv : Int, W'.cell? ⟨w3.heap.size, ii, none⟩ = some (.int .i64 sv)) := Lib.hid fun W' hs ii hi => by
    have hB := hs.blk hB5 hg1
    rcases ii with _ | _ | ii
    · exact ⟨_, Blk.cell hB 0⟩
    · exact ⟨_, Blk.cell hB 1⟩
    · omega
  clear hA5 BW3 hD3 X1 XT gl3 hB5
  go_wp2_with fail
  generalize w3.alloc (.cells #[.int .i64 st, .int .i64 (1 + x3)] 3) = W5 at *
  generalize w3.heap.size = g1 at *
  go_loopw [50] (fun i wr => ∃ ii : Nat, ii ≤ 2 ∧ i = .int .i64 (ii : Int) ∧ Same (fun k => k = gd) W5 wr ∧ Dk wr gd) (fun i _ => 2 - (intOf i).toNat)
  case atStart => exact ⟨0, by omega, rfl, Same.refl _ _, hD5⟩
  case round =>
    obtain ⟨ii, hii, rfl, hSr, hDr⟩ := hrel
    by_cases hi2 : ii < 2
    · obtain ⟨sv, hcell⟩ := hCC.out _ hSr ii hi2
      have i2 : (0 : Int) ≤ (ii : Int) := Int.natCast_nonneg _
      have i3 : (ii : Int) < 2 := by omega
      have hlr := Nat.le_of_lt hDr.lt
      have XUr := XU.same hSr
      generalize wr = wa at *
      go_wp2_with fail
      (with_reducible refine (km.out _ _).mono ?_)
      rintro e w6 ⟨A6, c6, rfl, hc6, hr6, hb6⟩
      have S6 := same_bl (g := gd) hb6
      have D6 := dk_bl hDr hb6
      go_wp2_with fail
      (with_reducible refine (kmr.out _ _).mono ?_)
      rintro e w7 ⟨A7, c7, rfl, hc7, hr7, hb7⟩
      have S7 := S6.trans (same_bl (g := gd) hb7) (fun k _ h => h)
      have D7 := dk_bl D6 hb7
      replace hr6 := hr6.below hb7 (Nat.le_refl _)
      have hsm := motR_small sv
      have hml := Lib.hid fun M (hM : M ∈ motR sv) => (motR_mem hM)
      clear S6 D6 hb6 hb7
      have e7 : (motE sv != motE sv) = false := by simp
      have e8 : (((motR sv).length : Int) != ((motR sv).length : Int)) = false := by simp
      generalize hLL : motR sv = LL at *
      generalize hme : motE sv = me at *
      replace hLL := Lib.hid hLL
      replace hme := Lib.hid hme
      generalize hNN : LL.length = NN at *
      replace hNN := Lib.hid hNN
      go_wp2_with fail
      go_loopw [76] (fun i wr => ∃ kk : Nat, kk ≤ NN ∧ i = .int .i64 (kk : Int) ∧ Below w7.heap.size w7 wr) (fun i _ => NN - (intOf i).toNat)
      case atStart => exact ⟨0, Nat.zero_le _, rfl, Below.refl _ _⟩
      case round =>
        obtain ⟨kk, hkk, rfl, hb8⟩ := hrel
        by_cases hlt2 : kk < NN
        · have j2 : (0 : Int) ≤ (kk : Int) := Int.natCast_nonneg _
          have j3 : (kk : Int) < (NN : Int) := by omega
          obtain ⟨ad, B1, k1, d1', M, rfl, hq1, hM, hd1, hm1, hbl1⟩ := hr6.get hlt2
          obtain ⟨bd, B2, k2, d2', M', rfl, hq2, hM', hd2, hm2, hbl2⟩ := hr7.get hlt2
          have hMM : M' = M := by have h1 := hM.out; have h2 := hM'.out; rw [h1] at h2; injection h2 with h2; exact h2.symm
          rw [hMM] at hm2
          clear hM' hMM
          have hkS : Hid (∀ W', Below w7.heap.size w7 W' → W'.cell? (ad.add kk) = some (.slice B1 k1 d1') ∧ W'.cell? (bd.add kk) = some (.slice B2 k2 d2')) := Lib.hid fun W' hs =>
            ⟨(hs.cell (by rw [block_of_add]; exact hbl1)).trans hq1, (hs.cell (by rw [block_of_add]; exact hbl2)).trans hq2⟩
          have hk14 : k1 ≤ 100 := by have h1 := (hml.out M (List.mem_of_getElem? hM.out)); have h2 := hm1.len; omega
          clear hq1 hq2 hM
          obtain ⟨hq1, hq2⟩ := hkS.out _ hb8
          have BX := hb8
          have hm1' := hm1.below hb8 (Nat.le_refl _)
          have hm2' := hm2.below hb8 (Nat.le_refl _)
          go_upto_region 15 with fail
          go_loud (go_region_held3 (fun W' => W'.cell? (ad.add kk) = some (.slice B1 k1 d1') ∧ W'.cell? (bd.add kk) = some (.slice B2 k2 d2'))
            ((first | exact hkS.out _ BZ | exact hkS.out _ BX | exact hkS.out _ BX.drew))
            ((first
              | (go_at_call 24; (with_reducible refine (ks.out _ _ _ _ _ _ _ _ (by first | exact hm1'.drew | exact hm1') (by first | exact hm2'.drew | exact hm2') (by omega)).mono ?_); rintro e w8 ⟨rfl, hb9⟩; have BZ := BX.drew.trans (hb9.mono BX.size))
              | fail)))
          have e9 : decide (M = M) = true := by simp
          go_wp2_with fail
          go_roundw
          case rel => exact ⟨kk + 1, by omega, by go_num, BZ⟩
          case measure => simp [intOf]; omega
        · obtain rfl : kk = NN := by omega
          have S8 := S7.trans (same_bl (g := gd) hb8) (fun k _ h => h)
          have D8 := dk_bl D7 hb8
          replace XUr := XUr.same S8
          clear S7 D7 hb8 hr6 hr7
          have S9 := hSr.trans S8 (fun k _ h => h)
          clear S8 hSr
          by_cases h3 : 3 < sv
          · go_wp2_with fail
            go_roundw
            case rel => exact ⟨ii + 1, by omega, by go_num, S9, D8⟩
            case measure => simp [intOf]; omega
          · have gl8 := D8.lt
            go_wp2_with fail
            (with_reducible refine (kx7.out _ _ D8).mono ?_)
            rintro e w9 ⟨x7, rfl, -, -, -, D10, hg10⟩
            have S10 := S9.trans (same_dk hg10) (fun k _ h => h)
            have XV := XUr.same (same_dk hg10)
            have gl10 := D10.lt
            have hA11 : Same (fun k => k = gd) w9 (w9.alloc (.cells #[.int .i64 wd, .int .i64 x7] 3)) := (Same.refl _ _).alloc _
            have hB11 := Blk.new w9 3 #[.int .i64 wd, .int .i64 x7]
            have XW := XV.same hA11
            have S11 := S10.trans hA11 (fun k _ h => h)
            have D11 := dk_bl D10 ((Below.refl w9.heap.size w9).alloc (Nat.le_refl _) (.cells #[.int .i64 wd, .int .i64 x7] 3))
            have hCD : Hid (∀ W', Below (w9.alloc (.cells #[.int .i64 wd, .int .i64 x7] 3)).heap.size (w9.alloc (.cells #[.int .i64 wd, .int .i64 x7] 3)) W' → ∀ ii, ii < 2 → ∃ sv : Int, W'.cell? ⟨w9.heap.size, ii, none⟩ = some (.int .i64 sv)) := Lib.hid fun W' hs ii hi => by
              have hB := hB11.below hs hB11.lt
              rcases ii with _ | _ | ii
              · exact ⟨_, Blk.cell hB 0⟩
              · exact ⟨_, Blk.cell hB 1⟩
              · omega
            clear hA11 hB11 XV XUr S10 S9 D10 D8 hg10 gl8 gl10
            go_wp2_with fail
            generalize w9.alloc (.cells #[.int .i64 wd, .int .i64 x7] 3) = W11 at *
            generalize w9.heap.size = g2 at *
            go_loopw [97] (fun i wr => ∃ zz : Nat, zz ≤ 2 ∧ i = .int .i64 (zz : Int) ∧ Below W11.heap.size W11 wr) (fun i _ => 2 - (intOf i).toNat)
            case atStart => exact ⟨0, by omega, rfl, Below.refl _ _⟩
            case round =>
              obtain ⟨zz, hzz, rfl, hb12⟩ := hrel
              by_cases hz2 : zz < 2
              · obtain ⟨wv, hcell2⟩ := hCD.out _ hb12 zz hz2
                have k2 : (0 : Int) ≤ (zz : Int) := Int.natCast_nonneg _
                have k3 : (zz : Int) < 2 := by omega
                go_wp2_with fail
                (with_reducible refine (ksp.out _ _ _ _ _ _ _ (XW.below hb12 (Nat.le_refl _)).rs (by omega) hnc).mono ?_)
                rintro e w13 ⟨A13, n13, c13, rfl, hc13, hr13, hb13⟩
                have hb14 := hb12.trans (hb13.mono hb12.size)
                clear hb12 hb13
                go_wp2_with fail
                (with_reducible refine (ksr.out _ _ _ _ _ _ _ (XW.below hb14 (Nat.le_refl _)).rs (by omega) hnc).mono ?_)
                rintro e w15 ⟨A15, n15, c15, rfl, hc15, hr15, hb15⟩
                have hb16 := hb14.trans (hb15.mono hb14.size)
                replace hr13 := hr13.below hb15 (Nat.le_refl _)
                have hsl := specL_small t sv wv
                clear hb14 hb15
                generalize specL t sv wv = SL at *
                generalize specE t sv wv = ee at *
                have e9 : (ee != ee) = false := by simp
                go_wp2_with fail
                have hbA : Below w15.heap.size w15 (w15.alloc (.cells #[.slice A13 n13 c13] 22)) := (Below.refl _ _).alloc (Nat.le_refl _) _
                have hbB : Below w15.heap.size w15 ((w15.alloc (.cells #[.slice A13 n13 c13] 22)).alloc (.cells #[.slice A15 n15 c15] 22)) := hbA.alloc (by simp) _
                have hz15 : w15.heap.size + 1 = (w15.alloc (.cells #[.slice A13 n13 c13] 22)).heap.size := by simp
                (with_reducible refine (kl.out _ _ _ _ _ _ [SL] _ (RL.one (Blk.alloc (Blk.new _ _ _) _) hc13 (hr13.below hbB (Nat.le_refl _))) (RL.one (Blk.new' _ _ _ hz15) hc15 (hr15.below hbB (Nat.le_refl _))) (by omega) (fun l hl => by rw [List.mem_singleton.1 hl]; omega)).mono ?_)
                rintro e w17 ⟨rfl, hb17⟩
                have hb18 := hb16.trans ((hbB.mono hb16.size).trans (hb17.mono (Nat.le_trans hb16.size hbB.size)))
                clear hbA hbB hb16 hb17 hz15
                go_wp2_with fail
                go_roundw
                case rel => exact ⟨zz + 1, by omega, by go_num, hb18⟩
                case measure => simp [intOf]; omega
              · obtain rfl : zz = 2 := by omega
                have S12 := S11.trans (same_bl (g := gd) hb12) (fun k _ h => h)
                have D12 := dk_bl D11 hb12
                go_wp2_with fail
                go_roundw
                case rel => exact ⟨ii + 1, by omega, by go_num, S12, D12⟩
                case measure => simp [intOf]; omega
    · obtain rfl : ii = 2 := by omega
      have X5 := XS.same hSr
      have BWr := BW5.trans (hSr.below gl5 (fun k hk e => by omega))
      have hlr := Nat.le_of_lt hDr.lt
      have kev : Hid (∀ g w, Dk w g → Calls Try.prog 34 #[.pointer (some ⟨g, 0, none⟩), .int .i64 5, .int .i64 8] w (RetDE w g 8)) := Lib.hid fun g w h => mkevents_any g 5 8 w h (by omega) (by omega) (by omega)
      have kmx : Hid (∀ g w, Dk w g → Calls Try.prog 35 #[.pointer (some ⟨g, 0, none⟩), .int .i64 5, .int .i64 8] w (RetDE w g 8)) := Lib.hid fun g w h => mkmixed_any g 5 8 w h (by omega) (by omega) (by omega)
      have ktk := Lib.hid fun A n c xs w h hn => mticks_any A n c xs w h hn
      have ktr := Lib.hid fun A n c xs w h hn => rticks31_any A n c xs w h hn
      clear XS XU hD5 hCC BW5 gl5 hii hi2 kx7 km kmr ks kl ksp ksr
      go_wp2_with fail
      (with_reducible refine (kev.out _ _ hDr).mono ?_)
      rintro e w6 ⟨A6, n6, c6, ev6, rfl, hc6, hr6, hl6, -, D6, hg6, hf6⟩
      have Y6 : RX EE gd w6 A6 n6 ev6 := RX.new hr6 hf6 hDr.lt
      have BW6 := BWr.trans (grown_is_below hg6 (Nat.le_refl _) hlr)
      replace X5 := X5.same (same_dk hg6)
      go_wp2_with fail
      (with_reducible refine (kmx.out _ _ D6).mono ?_)
      rintro e w7 ⟨A7, n7, c7, ev7, rfl, hc7, hr7, hl7, -, D7, hg7, hf7⟩
      have Y7 : RX EE gd w7 A7 n7 ev7 := RX.new hr7 hf7 D6.lt
      have BW7 := BW6.trans (grown_is_below hg7 (Nat.le_refl _) (Nat.le_of_lt D6.lt))
      replace X5 := X5.same (same_dk hg7)
      replace Y6 := Y6.same (same_dk hg7)
      have hn6 : n6 ≤ 8 := by rw [← hr6.len]; exact hl6
      have hn7 : n7 ≤ 8 := by rw [← hr7.len]; exact hl7
      have gl7 := D7.lt
      clear BWr BW6 D6 hg6 hg7 hr6 hr7 hf6 hf7 hl6 hl7 hSr hDr hlr kev kmx
      have R2 : RLg EE (w7.alloc (.cells #[.slice A1 n1 c1, .slice A6 n6 c6, .slice A7 n7 c7] 55)) gd (some ⟨w7.heap.size, 0, none⟩) 3 [evs, ev6, ev7] := RLg.of_blk (Blk.new w7 _ _) (by omega) rfl rfl (by
        have hA13 : Same (fun k => k = gd) w7 (w7.alloc (.cells #[.slice A1 n1 c1, .slice A6 n6 c6, .slice A7 n7 c7] 55)) := (Same.refl _ _).alloc _
        intro i u ys hu hy
        rcases i with _ | _ | _ | i
        · obtain rfl : _ = u := by injection hu
          obtain rfl : _ = ys := by injection hy
          exact ⟨_, _, _, rfl, hc1, (X5.same hA13).1, X5.2⟩
        · obtain rfl : _ = u := by injection hu
          obtain rfl : _ = ys := by injection hy
          exact ⟨_, _, _, rfl, hc6, (Y6.same hA13).1, Y6.2⟩
        · obtain rfl : _ = u := by injection hu
          obtain rfl : _ = ys := by injection hy
          exact ⟨_, _, _, rfl, hc7, (Y7.same hA13).1, Y7.2⟩
        · simp at hy)
      have hLM : Hid (∀ x ∈ [evs, ev6, ev7], x.length ≤ 60) := Lib.hid fun x hx => by
        simp only [List.mem_cons, List.not_mem_nil, or_false] at hx
        rcases hx with rfl | rfl | rfl
        · rw [X5.1.len]; omega
        · rw [Y6.1.len]; omega
        · rw [Y7.1.len]; omega
      have BW8 := BW7.alloc (Nat.le_of_lt gl7) (.cells #[.slice A1 n1 c1, .slice A6 n6 c6, .slice A7 n7 c7] 55)
      have gl8 : gd ≤ (w7.alloc (.cells #[.slice A1 n1 c1, .slice A6 n6 c6, .slice A7 n7 c7] 55)).heap.size := by simp; omega
      clear BW7 X5 Y6 Y7 D7 gl7
      go_wp2_with fail
      generalize [evs, ev6, ev7] = LE at *
      generalize w7.alloc (.cells #[.slice A1 n1 c1, .slice A6 n6 c6, .slice A7 n7 c7] 55) = W8 at *
      generalize w7.heap.size = g3 at *
      go_loopw [135] (fun i wr => ∃ zz : Nat, zz ≤ 3 ∧ i = .int .i64 (zz : Int) ∧ Below W8.heap.size W8 wr) (fun i _ => 3 - (intOf i).toNat)
      case atStart => exact ⟨0, by omega, rfl, Below.refl _ _⟩
      case round =>
        obtain ⟨zz, hzz, rfl, hb9⟩ := hrel
        by_cases hz2 : zz < 3
        · have k2 : (0 : Int) ≤ (zz : Int) := Int.natCast_nonneg _
          have k3 : (zz : Int) < 3 := by omega
          obtain ⟨ad, Ax, nx, cx, x, had, hcell, hy, hcx, hrx, hnx, -⟩ := (R2.same (same_bl hb9)).get hz2
          obtain rfl : ad = ⟨g3, 0, none⟩ := by injection had with e; exact e.symm
          rw [addr_lit] at hcell
          have hx60 := hLM.out x (List.mem_of_getElem? hy.out)
          rw [hrx.len] at hx60
          clear hy had hnx
          go_wp2_with fail
          (with_reducible refine (ktk.out _ _ _ _ _ hrx (by omega)).mono ?_)
          rintro e w10 ⟨A10, n10, c10, rfl, hc10, hr10, hb10⟩
          go_wp2_with fail
          (with_reducible refine (ktr.out _ _ _ _ _ (hrx.below hb10 (Nat.le_refl _)) (by omega)).mono ?_)
          rintro e w11 ⟨A11, n11, c11, rfl, hc11, hr11, hb11⟩
          have hb12 := hb9.trans ((hb10.mono hb9.size).trans (hb11.mono (Nat.le_trans hb9.size hb10.size)))
          replace hr10 := hr10.below hb11 (Nat.le_refl _)
          obtain rfl : n11 = n10 := by rw [← hr10.len, hr11.len]
          have hn11 : n11 ≤ 60 := by have h1 := tkR_len x; rw [hr10.len, hrx.len] at h1; omega
          generalize tkE x = ee at *
          have e9 : (ee != ee) = false := by simp
          have e10 : ((n11 : Int) != (n11 : Int)) = false := by simp
          clear hb10 hb11 hb9 hrx
          generalize wr = wq at *
          go_wp2_with fail
          go_loopw [161] (fun i wr => ∃ kk : Nat, kk ≤ n11 ∧ i = .int .i64 (kk : Int) ∧ Below w11.heap.size w11 wr) (fun i _ => n11 - (intOf i).toNat)
          case atStart => exact ⟨0, Nat.zero_le _, rfl, Below.refl _ _⟩
          case round =>
            obtain ⟨kk, hkk, rfl, hb13⟩ := hrel
            by_cases hlt2 : kk < n11
            · have j2 : (0 : Int) ≤ (kk : Int) := Int.natCast_nonneg _
              have j3 : (kk : Int) < (n11 : Int) := by omega
              obtain ⟨ad, a1, a2, a3, rfl, -, hx1, -, p0, p1, p2⟩ := (hr10.below hb13 (Nat.le_refl _)).tk' hlt2
              obtain ⟨bd, b1, b2, b3, rfl, -, hx2, -, r0, r1, r2⟩ := (hr11.below hb13 (Nat.le_refl _)).tk' hlt2
              rw [hx1] at hx2
              injection hx2 with hx2
              injection hx2 with t1 t2 t3
              subst t1; subst t2; subst t3
              clear hx1
              have f1 : (a1 == a1) = true := by simp
              have f2 : (a2 == a2) = true := by simp
              have f3 : (a3 == a3) = true := by simp
              go_upto_region 38 with fail
              go_quiet (fail)
              go_wp2_with fail
              go_roundw
              case rel => exact ⟨kk + 1, by omega, by go_num, below_drewN hb13 _⟩
              case measure => simp [intOf]; omega
            · obtain rfl : kk = n11 := by omega
              have hb14 := hb12.trans (hb13.mono hb12.size)
              clear hb12 hb13
              go_wp2_with fail
              go_roundw
              case rel => exact ⟨zz + 1, by omega, by go_num, hb14⟩
              case measure => simp [intOf]; omega
        · obtain rfl : zz = 3 := by omega
          go_wp2_with fail
          (with_reducible refine (kaw.out _).mono ?_); rintro e w12 ⟨rfl, hb12⟩
          go_wp2_with fail
          go_ret
          exact ⟨rfl, by rw [hgd]; exact (BW8.trans (hb9.mono gl8)).trans (hb12.mono (Nat.le_trans gl8 hb9.size))⟩
end Go.Proofs.Ytkcmbpokoijglaa
