/- The law MotifsAnswers. -/
import Derived.Test.YtkcmbpokoijglaaMobH
import Derived.Test.YtkcmbpokoijglaaMotX
import Derived.Test.YtkcmbpokoijglaaMoaA
set_option linter.unusedVariables false
set_option linter.unusedSimpArgs false
namespace Go.Proofs.Ytkcmbpokoijglaa
open Go.RowKit CoMot

set_option maxRecDepth 100000 in
set_option maxHeartbeats 16000000 in
theorem lawAnswers31_any (A0 : Option Addr) (m0 c0 : Nat) (l : List Int) (A1 : Option Addr) (n1 c1 : Nat) (rw1 : List Tick) (A2 : Option Addr) (n2 c2 : Nat) (st : List Step) (wid most : Int) (w : World) (h0 : RI w A0 m0 l) (hmc : m0 ≤ c0) (hm0 : m0 ≤ 1152921504606846976)
    (h1 : RS TE w A1 n1 rw1) (hc1 : n1 ≤ c1) (h2 : RS SE w A2 n2 st) (hc2 : n2 ≤ c2) :
    Calls Try.prog 6 #[.slice A0 m0 c0, .slice A1 n1 c1, .slice A2 n2 c2, .int .i64 wid, .int .i64 most] w fun e w' => e = .returned (.bool true) ∧ Below w.heap.size w w' := by
  have kaw := Lib.hid fun w => awake31_any w
  have kf := fun w => few_any A0 m0 c0 w
  by_cases hfew : m0 ≤ 500
  rotate_left
  · rw [decide_eq_false hfew] at kf
    replace kf := Lib.hid kf
    go_enter Try.func6, Try.ntmps6
    go_wp2_with fail
    (with_reducible refine (kf.out _).mono ?_); rintro e wf ⟨rfl, hQ⟩; obtain rfl := hQ
    go_wp2_with fail
    (with_reducible refine (kaw.out _).mono ?_); rintro e w1 ⟨rfl, hb1⟩
    go_wp2_with fail
    go_ret
    exact ⟨rfl, hb1⟩
  rw [decide_eq_true hfew] at kf
  replace kf := Lib.hid kf
  by_cases hq1 : 12 < n1
  · have d1 : decide ((12 : Int) < (n1 : Int)) = true := decide_eq_true (by omega)
    go_enter Try.func6, Try.ntmps6
    go_wp2_with fail
    (with_reducible refine (kf.out _).mono ?_); rintro e wf ⟨rfl, hQ⟩; obtain rfl := hQ
    go_wp2_with fail
    (with_reducible refine (kaw.out _).mono ?_); rintro e w1 ⟨rfl, hb1⟩
    go_wp2_with fail
    go_ret
    exact ⟨rfl, hb1⟩
  by_cases hq2 : 12 < n2
  · have d1 : decide ((12 : Int) < (n1 : Int)) = false := decide_eq_false (by omega)
    have d2 : decide ((12 : Int) < (n2 : Int)) = true := decide_eq_true (by omega)
    go_enter Try.func6, Try.ntmps6
    go_wp2_with fail
    (with_reducible refine (kf.out _).mono ?_); rintro e wf ⟨rfl, hQ⟩; obtain rfl := hQ
    go_wp2_with fail
    (with_reducible refine (kaw.out _).mono ?_); rintro e w1 ⟨rfl, hb1⟩
    go_wp2_with fail
    go_ret
    exact ⟨rfl, hb1⟩
  have d1 : decide ((12 : Int) < (n1 : Int)) = false := decide_eq_false (by omega)
  have d2 : decide ((12 : Int) < (n2 : Int)) = false := decide_eq_false (by omega)
  have kn := Lib.hid fun w h => new_any A0 m0 c0 l w h hmc hm0
  have kt : Hid (∀ g w, Dk w g → Calls Try.prog 12 #[.pointer (some ⟨g, 0, none⟩), .int .i64 9] w (RetTk w g 9)) := Lib.hid fun g w h => fticks_any g 9 w h (by omega)
  have km := Lib.hid fun g w h => fmotif_any g w h
  have kx8 := Lib.hid fun g w h => next_any g 8 w h (by omega)
  have kx9 := Lib.hid fun g w h => next_any g 9 w h (by omega)
  have ko := Lib.hid fun A n c l w h hn => mofL_any A n c l w h hn
  have kor := Lib.hid fun A n c l w h hn => rof_any A n c l w h hn
  have kc := Lib.hid fun A n c l w h hn => mcheck_any A n c l w h hn
  have kcr := Lib.hid fun A n c l w h hn => rcheck31_any A n c l w h hn
  have kv := Lib.hid fun A n c m w h hc => mvalid_any A n c m w h hc
  have kvr := Lib.hid fun A n c m w h hc => rvalid31_any A n c m w h hc
  have ks := Lib.hid fun A B n k c d m w (h : RS SE w A n m) (h' : RS SE w B k m) hn => (show Calls Try.prog 24 #[.slice A n c, .slice B k d] w fun e w' => e = .returned (.bool true) ∧ Below w.heap.size w w' from by have := rsame_any A B n k c d m m w h h' hn; rwa [decide_eq_true rfl] at this)
  have kC := Lib.hid fun A B n c m d l s v w h h' hn hnc hmd => count_any A B n c m d l s v w h h' hn hnc hmd
  have kCr := Lib.hid fun A B n c m d l s v w h h' hn hmd => rcount_any A B n c m d l s v w h h' hn hmd
  have kE := Lib.hid fun A B n c m d l s v w h h' hn hnc hmd => ending_any A B n c m d l s v w h h' hn hnc hmd
  have kEr := Lib.hid fun A B n c m d l s v w h h' hn hmd => rending_any A B n c m d l s v w h h' hn hmd
  have kI := Lib.hid fun A B n c m d l s v q w h h' hn hnc hmd => instances_any A B n c m d l s v q w h h' hn hnc hmd
  have kIr := Lib.hid fun A B n c m d l s v q w h h' hn hmd => rinstances_any A B n c m d l s v q w h h' hn hmd
  have kl := Lib.hid fun A B n m c d (L : List (List Nat)) w h h' hn hL => lists_any A B n m c d L w h h' hn hL
  go_enter Try.func6, Try.ntmps6
  go_wp2_with fail
  (with_reducible refine (kf.out _).mono ?_); rintro e wf ⟨rfl, hQ⟩; obtain rfl := hQ
  go_wp2_with fail
  (with_reducible refine (kn.out _ h0).mono ?_)
  rintro e w1 ⟨rfl, hD1, hb1, hs1⟩
  have gl : w.heap.size < w1.heap.size := by omega
  have X1 := h1.farg (Nat.le_refl _)
  have X2 := h2.farg (Nat.le_refl _)
  replace h1 := h1.below hb1 (Nat.le_refl _)
  replace h2 := h2.below hb1 (Nat.le_refl _)
  generalize hgd : w.heap.size = gd at *
  replace hgd := Lib.hid hgd
  replace X1 : RX TE gd w1 A1 n1 rw1 := ⟨h1, X1⟩
  replace X2 : RX SE gd w1 A2 n2 st := ⟨h2, X2⟩
  clear h0 h1 h2 kn kf hs1
  go_wp2_with fail
  (with_reducible refine (kt.out _ _ hD1).mono ?_)
  rintro e w2 ⟨A, n, c, t, rfl, hnc, hrt, hlt, hT, hD2, hg2, hf2⟩
  replace X1 := X1.same (same_dk hg2)
  replace X2 := X2.same (same_dk hg2)
  have XT : RX TE gd w2 A n t := RX.new hrt hf2 gl
  have BW2 : Below gd w w2 := hb1.trans (grown_is_below hg2 (Nat.le_refl _) (by omega))
  have hnt : n ≤ 9 := by rw [← hrt.len]; exact hlt
  have gl2 := hD2.lt
  clear hT hlt hrt hf2 hg2 hb1 hD1 gl kt
  have hA5 : Same (fun k => k = gd) w2 (w2.alloc (.cells #[.slice A n c, .slice A1 n1 c1] 27)) := (Same.refl _ _).alloc _
  have R1 : RLg TE (w2.alloc (.cells #[.slice A n c, .slice A1 n1 c1] 27)) gd (some ⟨w2.heap.size, 0, none⟩) 2 [t, rw1] := RLg.of_blk (Blk.new w2 _ _) (by omega) rfl rfl (by
    intro i u ys hu hy
    rcases i with _ | _ | i
    · obtain rfl : _ = u := by injection hu
      obtain rfl : _ = ys := by injection hy
      exact ⟨_, _, _, rfl, hnc, (XT.same hA5).1, XT.2⟩
    · obtain rfl : _ = u := by injection hu
      obtain rfl : _ = ys := by injection hy
      exact ⟨_, _, _, rfl, hc1, (X1.same hA5).1, X1.2⟩
    · simp at hy)
  have hLT : Hid (∀ x ∈ [t, rw1], x.length ≤ 12) := Lib.hid fun x hx => by
    simp only [List.mem_cons, List.not_mem_nil, or_false] at hx
    rcases hx with rfl | rfl
    · rw [XT.1.len]; omega
    · rw [X1.1.len]; omega
  have XS := X2.same hA5
  have BW5 := BW2.alloc (Nat.le_of_lt gl2) (.cells #[.slice A n c, .slice A1 n1 c1] 27)
  have hD5 := dk_bl hD2 ((Below.refl w2.heap.size w2).alloc (Nat.le_refl _) (.cells #[.slice A n c, .slice A1 n1 c1] 27))
  have hg1 : w2.heap.size ≠ gd := by omega
  have gl5 : gd ≤ (w2.alloc (.cells #[.slice A n c, .slice A1 n1 c1] 27)).heap.size := by have := hD5.lt; omega
  clear hA5 BW2 hD2 X1 X2 XT gl2
  go_wp2_with fail
  generalize [t, rw1] = LT at *
  generalize w2.alloc (.cells #[.slice A n c, .slice A1 n1 c1] 27) = W5 at *
  generalize w2.heap.size = g1 at *
  go_loopw [59] (fun i wr => ∃ ii : Nat, ii ≤ 2 ∧ i = .int .i64 (ii : Int) ∧ Same (fun k => k = gd) W5 wr ∧ Dk wr gd) (fun i _ => 2 - (intOf i).toNat)
  case atStart => exact ⟨0, by omega, rfl, Same.refl _ _, hD5⟩
  case round =>
    obtain ⟨ii, hii, rfl, hSr, hDr⟩ := hrel
    by_cases hi2 : ii < 2
    · obtain ⟨ad, Ax, nx, cx, x, had, hcell, hy, hcx, hrx, hnx, -⟩ := (R1.same hSr).get hi2
      obtain rfl : ad = ⟨g1, 0, none⟩ := by injection had with e; exact e.symm
      rw [addr_lit] at hcell
      have hx12 := hLT.out x (List.mem_of_getElem? hy.out)
      rw [hrx.len] at hx12
      have XX : RX TE gd wr Ax nx x := ⟨hrx, hnx⟩
      have i2 : (0 : Int) ≤ (ii : Int) := Int.natCast_nonneg _
      have i3 : (ii : Int) < 2 := by omega
      have XSr := XS.same hSr
      have BWr := BW5.trans (hSr.below gl5 (fun k hk e => by omega))
      have hlr := Nat.le_of_lt hDr.lt
      clear hy had hrx hnx
      generalize wr = wa at *
      go_wp2_with fail
      (with_reducible refine (ko.out _ _ _ _ _ XX.rs (by omega)).mono ?_)
      rintro e w6 ⟨A4, n4, c4, rfl, hc4, hr4, hb6, hf4⟩
      have S6 := same_bl (g := gd) hb6
      have D6 := dk_bl hDr hb6
      have hl4 := ofR_len x
      go_wp2_with fail
      (with_reducible refine (kor.out _ _ _ _ _ (XX.same S6).rs (by omega)).mono ?_)
      rintro e w7 ⟨A5, n5, c5, rfl, hc5, hr5, hb7, hf5⟩
      have S7 := S6.trans (same_bl (g := gd) hb7) (fun k _ h => h)
      have D7 := dk_bl D6 hb7
      replace hr4 := hr4.below hb7 (Nat.le_refl _)
      generalize (ofR x).isSome = ob at *
      generalize (ofR x).getD [] = om at *
      rw [hr4.len] at hl4
      clear hb6 hb7 S6 D6 hf4 hf5
      generalize hcxx : chkL x = kx at *
      replace hcxx := Lib.hid hcxx
      go_wp2_with fail
      (with_reducible refine (kc.out _ _ _ _ _ (XX.same S7).rs (by omega)).mono ?_)
      rintro e w8 ⟨rfl, hb8⟩
      rw [hcxx.out]
      have S8 := S7.trans (same_bl (g := gd) hb8) (fun k _ h => h)
      have D8 := dk_bl D7 hb8
      replace hr4 := hr4.below hb8 (Nat.le_refl _)
      replace hr5 := hr5.below hb8 (Nat.le_refl _)
      clear S7 D7 hb8
      go_wp2_with fail
      (with_reducible refine (kcr.out _ _ _ _ _ (XX.same S8).rs (by omega)).mono ?_)
      rintro e w9 ⟨rfl, hb9⟩
      rw [hcxx.out]
      have S9 := S8.trans (same_bl (g := gd) hb9) (fun k _ h => h)
      have D9 := dk_bl D8 hb9
      replace hr4 := hr4.below hb9 (Nat.le_refl _)
      replace hr5 := hr5.below hb9 (Nat.le_refl _)
      clear S8 D8 hb9
      go_wp2_with fail
      (with_reducible refine (ks.out _ _ _ _ _ _ _ _ hr4 hr5 (by omega)).mono ?_)
      rintro e w10 ⟨rfl, hb10⟩
      have S10 := S9.trans (same_bl (g := gd) hb10) (fun k _ h => h)
      have D10 := dk_bl D9 hb10
      clear S9 D9 hb10 hr4 hr5 hl4
      go_wp2_with fail
      (with_reducible refine (km.out _ _ D10).mono ?_)
      rintro e w11 ⟨B1, k1, d1', M1, rfl, hd1, hm1, hk1, D11, hg11, hf11⟩
      have S11 := S10.trans (same_dk hg11) (fun k _ h => h)
      have Y1 : RX SE gd w11 B1 k1 M1 := RX.new hm1 hf11 D10.lt
      clear S10 hm1 hf11 hg11 D10
      go_wp2_with fail
      (with_reducible refine (km.out _ _ D11).mono ?_)
      rintro e w12 ⟨B2, k2, d2', M2, rfl, hd2, hm2, hk2, D12, hg12, hf12⟩
      have S12 := S11.trans (same_dk hg12) (fun k _ h => h)
      have Y2 : RX SE gd w12 B2 k2 M2 := RX.new hm2 hf12 D11.lt
      replace Y1 := Y1.same (same_dk hg12)
      have XS12 := XSr.same S12
      have gl12 := D12.lt
      clear S11 hm2 hf12 hg12 D11
      have hA13 : Same (fun k => k = gd) w12 (w12.alloc (.cells #[.slice A2 n2 c2, .slice B1 k1 d1', .slice B2 k2 d2'] 29)) := (Same.refl _ _).alloc _
      have R2 : RLg SE (w12.alloc (.cells #[.slice A2 n2 c2, .slice B1 k1 d1', .slice B2 k2 d2'] 29)) gd (some ⟨w12.heap.size, 0, none⟩) 3 [st, M1, M2] := RLg.of_blk (Blk.new w12 _ _) (by omega) rfl rfl (by
        intro i u ys hu hy
        rcases i with _ | _ | _ | i
        · obtain rfl : _ = u := by injection hu
          obtain rfl : _ = ys := by injection hy
          exact ⟨_, _, _, rfl, hc2, (XS12.same hA13).1, XS12.2⟩
        · obtain rfl : _ = u := by injection hu
          obtain rfl : _ = ys := by injection hy
          exact ⟨_, _, _, rfl, hd1, (Y1.same hA13).1, Y1.2⟩
        · obtain rfl : _ = u := by injection hu
          obtain rfl : _ = ys := by injection hy
          exact ⟨_, _, _, rfl, hd2, (Y2.same hA13).1, Y2.2⟩
        · simp at hy)
      have hLM : Hid (∀ x ∈ [st, M1, M2], x.length ≤ 12) := Lib.hid fun x hx => by
        simp only [List.mem_cons, List.not_mem_nil, or_false] at hx
        rcases hx with rfl | rfl | rfl
        · rw [XS12.1.len]; omega
        · rw [Y1.1.len]; omega
        · rw [Y2.1.len]; omega
      have S13 := S12.trans hA13 (fun k _ h => h)
      have D13 := dk_bl D12 ((Below.refl w12.heap.size w12).alloc (Nat.le_refl _) (.cells #[.slice A2 n2 c2, .slice B1 k1 d1', .slice B2 k2 d2'] 29))
      have XX13 := XX.same S13
      have hg2' : w12.heap.size ≠ gd := by omega
      clear hA13 S12 D12 XS12 Y1 Y2 gl12
      go_wp2_with fail
      generalize [st, M1, M2] = LM at *
      generalize w12.alloc (.cells #[.slice A2 n2 c2, .slice B1 k1 d1', .slice B2 k2 d2'] 29) = W13 at *
      generalize w12.heap.size = g2 at *
      go_loopw [96] (fun i wr => ∃ jj : Nat, jj ≤ 3 ∧ i = .int .i64 (jj : Int) ∧ Same (fun k => k = gd) W13 wr ∧ Dk wr gd) (fun i _ => 3 - (intOf i).toNat)
      case atStart => exact ⟨0, by omega, rfl, Same.refl _ _, D13⟩
      case round =>
        obtain ⟨jj, hjj, rfl, hSj, hDj⟩ := hrel
        by_cases hj3 : jj < 3
        · obtain ⟨ad, Bm, km', dm, mm, had, hcell2, hy, hdm, hrm, hnm, -⟩ := (R2.same hSj).get hj3
          obtain rfl : ad = ⟨g2, 0, none⟩ := by injection had with e; exact e.symm
          rw [addr_lit] at hcell2
          have hm12 := hLM.out mm (List.mem_of_getElem? hy.out)
          rw [hrm.len] at hm12
          have XM : RX SE gd wr Bm km' mm := ⟨hrm, hnm⟩
          have j2 : (0 : Int) ≤ (jj : Int) := Int.natCast_nonneg _
          have j3 : (jj : Int) < 3 := by omega
          have XXj := XX13.same hSj
          have hljr := Nat.le_of_lt hDj.lt
          clear hy had hrm hnm
          generalize wr = wb at *
          go_wp2_with fail
          (with_reducible refine (kv.out _ _ _ _ _ XM.rs hdm).mono ?_)
          rintro e w14 ⟨rfl, hb14⟩
          have S14 := same_bl (g := gd) hb14
          have D14 := dk_bl hDj hb14
          generalize hvm : vld mm = vm at *
          replace hvm := Lib.hid hvm
          clear hb14
          go_wp2_with fail
          (with_reducible refine (kvr.out _ _ _ _ _ (XM.same S14).rs hdm).mono ?_)
          rintro e w15 ⟨rfl, hb15⟩
          rw [hvm.out]
          have S15 := S14.trans (same_bl (g := gd) hb15) (fun k _ h => h)
          have D15 := dk_bl D14 hb15
          clear S14 D14 hb15
          go_wp2_with fail
          (with_reducible refine (kx8.out _ _ D15).mono ?_)
          rintro e w16 ⟨e8, rfl, -, -, -, D16, hg16⟩
          have S16 := S15.trans (same_dk hg16) (fun k _ h => h)
          have gl16 := D16.lt
          clear S15 D15 hg16
          have R3 : RX IE gd (w16.alloc (.cells #[.int .i64 wid, .int .i64 e8] 3)) (some ⟨w16.heap.size, 0, none⟩) 2 [wid, e8] := ⟨RS.blk (Blk.new _ _ _) rfl rfl, fun ad he _ => by injection he with he; subst he; show w16.heap.size ≠ gd; omega⟩
          have S17 := S16.trans ((Same.refl (fun k => k = gd) _).alloc (.cells #[.int .i64 wid, .int .i64 e8] 3)) (fun k _ h => h)
          have D17 := dk_bl D16 ((Below.refl w16.heap.size w16).alloc (Nat.le_refl _) (.cells #[.int .i64 wid, .int .i64 e8] 3))
          have XM17 := XM.same S17
          have XX17 := XXj.same S17
          clear S16 D16 gl16
          go_wp2_with fail
          generalize [wid, e8] = LW at *
          generalize w16.alloc (.cells #[.int .i64 wid, .int .i64 e8] 3) = W17 at *
          generalize w16.heap.size = g3 at *
          go_loopw [110] (fun i wr => ∃ qq : Nat, qq ≤ 2 ∧ i = .int .i64 (qq : Int) ∧ Same (fun k => k = gd) W17 wr ∧ Dk wr gd) (fun i _ => 2 - (intOf i).toNat)
          case atStart => exact ⟨0, by omega, rfl, Same.refl _ _, D17⟩
          case round =>
            obtain ⟨qq, hqq, rfl, hSq, hDq⟩ := hrel
            by_cases hq2' : qq < 2
            · obtain ⟨ad, vv, had, -, hy, hcell3⟩ := (R3.same hSq).rs.num hq2'
              obtain rfl : ad = ⟨g3, 0, none⟩ := by injection had with e; exact e.symm
              rw [addr_lit] at hcell3
              have XMq := XM17.same hSq
              have XXq := XX17.same hSq
              have q2 : (0 : Int) ≤ (qq : Int) := Int.natCast_nonneg _
              have q3 : (qq : Int) < 2 := by omega
              clear hy had
              generalize wr = wc at *
              go_wp2_with fail
              (with_reducible refine (kC.out _ _ _ _ _ _ _ _ _ _ XXq.rs XMq.rs (by omega) hcx hdm).mono ?_)
              rintro e w18 ⟨rfl, hb18⟩
              have S18 := same_bl (g := gd) hb18
              have D18 := dk_bl hDq hb18
              generalize hCC : cntR x mm vv = CC at *
              generalize hKK : chkA x mm vv = KK at *
              replace hCC := Lib.hid hCC
              replace hKK := Lib.hid hKK
              clear hb18
              go_wp2_with fail
              (with_reducible refine (kCr.out _ _ _ _ _ _ _ _ _ _ (XXq.same S18).rs (XMq.same S18).rs (by omega) hdm).mono ?_)
              rintro e w19 ⟨rfl, hb19⟩
              rw [hCC.out, hKK.out]
              have S19 := S18.trans (same_bl (g := gd) hb19) (fun k _ h => h)
              have D19 := dk_bl D18 hb19
              clear S18 D18 hb19
              go_wp2_with fail
              (with_reducible refine (kE.out _ _ _ _ _ _ _ _ _ _ (XXq.same S19).rs (XMq.same S19).rs (by omega) hcx hdm).mono ?_)
              rintro e w20 ⟨rfl, hb20⟩
              rw [hKK.out]
              have S20 := S19.trans (same_bl (g := gd) hb20) (fun k _ h => h)
              have D20 := dk_bl D19 hb20
              generalize hEE : endR x mm vv = EE at *
              replace hEE := Lib.hid hEE
              clear S19 D19 hb20
              go_wp2_with fail
              (with_reducible refine (kEr.out _ _ _ _ _ _ _ _ _ _ (XXq.same S20).rs (XMq.same S20).rs (by omega) hdm).mono ?_)
              rintro e w21 ⟨rfl, hb21⟩
              rw [hEE.out, hKK.out]
              have S21 := S20.trans (same_bl (g := gd) hb21) (fun k _ h => h)
              have D21 := dk_bl D20 hb21
              clear S20 D20 hb21
              have ekk : (KK != KK) = false := by simp
              have ecc : (CC != CC) = false := by simp
              have eee : (EE != EE) = false := by simp
              go_wp2_with fail
              (with_reducible refine (kx9.out _ _ D21).mono ?_)
              rintro e w22 ⟨e9, rfl, -, -, -, D22, hg22⟩
              have S22 := S21.trans (same_dk hg22) (fun k _ h => h)
              have gl22 := D22.lt
              clear S21 D21 hg22 ekk ecc eee hCC hKK hEE
              have R4 : RX IE gd (w22.alloc (.cells #[.int .i64 most, .int .i64 e9, .int .i64 4096] 3)) (some ⟨w22.heap.size, 0, none⟩) 3 [most, e9, 4096] := ⟨RS.blk (Blk.new _ _ _) rfl rfl, fun ad he _ => by injection he with he; subst he; show w22.heap.size ≠ gd; omega⟩
              have S23 := S22.trans ((Same.refl (fun k => k = gd) _).alloc (.cells #[.int .i64 most, .int .i64 e9, .int .i64 4096] 3)) (fun k _ h => h)
              have D23 := dk_bl D22 ((Below.refl w22.heap.size w22).alloc (Nat.le_refl _) (.cells #[.int .i64 most, .int .i64 e9, .int .i64 4096] 3))
              have XM23 := XMq.same S23
              have XX23 := XXq.same S23
              clear S22 D22 gl22
              go_wp2_with fail
              generalize [most, e9, 4096] = LK at *
              generalize w22.alloc (.cells #[.int .i64 most, .int .i64 e9, .int .i64 4096] 3) = W23 at *
              generalize w22.heap.size = g4 at *
              go_loopw [165] (fun i wr => ∃ zz : Nat, zz ≤ 3 ∧ i = .int .i64 (zz : Int) ∧ Same (fun k => k = gd) W23 wr ∧ Dk wr gd) (fun i _ => 3 - (intOf i).toNat)
              case atStart => exact ⟨0, by omega, rfl, Same.refl _ _, D23⟩
              case round =>
                obtain ⟨zz, hzz, rfl, hSz, hDz⟩ := hrel
                by_cases hz3 : zz < 3
                · obtain ⟨ad, kk, had, -, hy, hcell4⟩ := (R4.same hSz).rs.num hz3
                  obtain rfl : ad = ⟨g4, 0, none⟩ := by injection had with e; exact e.symm
                  rw [addr_lit] at hcell4
                  have XMz := XM23.same hSz
                  have XXz := XX23.same hSz
                  have z2 : (0 : Int) ≤ (zz : Int) := Int.natCast_nonneg _
                  have z3 : (zz : Int) < 3 := by omega
                  have hrow := Lib.hid (insL_row x mm vv kk)
                  have hll := insL_len x mm vv kk
                  clear hy had
                  generalize wr = wd at *
                  go_wp2_with fail
                  (with_reducible refine (kI.out _ _ _ _ _ _ _ _ _ _ _ XXz.rs XMz.rs (by omega) hcx hdm).mono ?_)
                  rintro e w24 ⟨A7, n7, c7, rfl, hc7, hr7, hb24⟩
                  have S24 := same_bl (g := gd) hb24
                  have D24 := dk_bl hDz hb24
                  generalize hIE : insE x mm vv kk = XE at *
                  generalize hIL : insL x mm vv kk = XL at *
                  replace hIE := Lib.hid hIE
                  replace hIL := Lib.hid hIL
                  rw [hr7.len] at hll
                  clear hb24
                  go_wp2_with fail
                  (with_reducible refine (kIr.out _ _ _ _ _ _ _ _ _ _ _ (XXz.same S24).rs (XMz.same S24).rs (by omega) hdm).mono ?_)
                  rintro e w25 ⟨A8, n8, c8, rfl, hc8, hr8, hb25⟩
                  rw [hIE.out]
                  rw [hIL.out] at hr8
                  have S25 := S24.trans (same_bl (g := gd) hb25) (fun k _ h => h)
                  have D25 := dk_bl D24 hb25
                  replace hr7 := hr7.below hb25 (Nat.le_refl _)
                  clear S24 D24 hb25
                  have exe : (XE != XE) = false := by simp
                  have kl1 := Lib.hid (kl.out A7 A8 n7 n8 c7 c8 XL w25 hr7 hr8 (by omega) (fun l hl => by have := hrow.out l hl; omega))
                  go_wp2_with fail
                  (with_reducible refine (kl1.out).mono ?_)
                  rintro e w26 ⟨rfl, hb26⟩
                  have S26 := S25.trans (same_bl (g := gd) hb26) (fun k _ h => h)
                  have D26 := dk_bl D25 hb26
                  go_wp2_with fail
                  go_roundw
                  case rel => exact ⟨zz + 1, by omega, by go_num, hSz.trans S26 (fun k _ h => h), D26⟩
                  case measure => simp [intOf]; omega
                · obtain rfl : zz = 3 := by omega
                  go_wp2_with fail
                  go_roundw
                  case rel => exact ⟨qq + 1, by omega, by go_num, (hSq.trans S23 (fun k _ h => h)).trans hSz (fun k _ h => h), hDz⟩
                  case measure => simp [intOf]; omega
            · obtain rfl : qq = 2 := by omega
              go_wp2_with fail
              go_roundw
              case rel => exact ⟨jj + 1, by omega, by go_num, (hSj.trans S17 (fun k _ h => h)).trans hSq (fun k _ h => h), hDq⟩
              case measure => simp [intOf]; omega
        · obtain rfl : jj = 3 := by omega
          go_wp2_with fail
          go_roundw
          case rel => exact ⟨ii + 1, by omega, by go_num, (hSr.trans S13 (fun k _ h => h)).trans hSj (fun k _ h => h), hDj⟩
          case measure => simp [intOf]; omega
    · obtain rfl : ii = 2 := by omega
      have BW6 := BW5.trans (hSr.below gl5 (fun k hk e => by omega))
      have hs6 := Nat.le_of_lt hDr.lt
      go_wp2_with fail
      (with_reducible refine (kaw.out _).mono ?_); rintro e w6 ⟨rfl, hb6⟩
      go_wp2_with fail
      go_ret
      exact ⟨rfl, by rw [hgd.out]; exact BW6.trans (hb6.mono hs6)⟩
end Go.Proofs.Ytkcmbpokoijglaa
