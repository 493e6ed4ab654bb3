/- The law MotifsBeginnings. -/
import Derived.Test.YtkcmbpokoijglaaMoaG
set_option linter.unusedVariables false
set_option linter.unusedSimpArgs false
namespace Go.Proofs.Ytkcmbpokoijglaa
open Go.RowKit CoMot

attribute [local irreducible] wpQuiet
set_option maxRecDepth 100000 in
set_option maxHeartbeats 8000000 in
theorem lawBegin_any (A0 : Option Addr) (m0 c0 : Nat) (l : List Int) (sz : Nat) (hsz : sz < 256) (w : World) (h0 : RI w A0 m0 l) (hmc : m0 ≤ c0) (hm0 : m0 ≤ 1152921504606846976) :
    Calls Try.prog 7 #[.slice A0 m0 c0, .int .u8 sz] w fun e w' => e = .returned (.bool true) ∧ Below w.heap.size w w' := by
  have kaw := Lib.hid fun w => awake31_any w
  have kf := fun w => few_any A0 m0 c0 w
  by_cases hfew : m0 ≤ 500
  rotate_left
  · rw [decide_eq_false hfew] at kf
    replace kf := Lib.hid kf
    go_enter Try.func7, Try.ntmps7
    go_wp2_with fail
    (with_reducible refine (kf.out _).mono ?_); rintro e wf ⟨rfl, hQ⟩; obtain rfl := hQ
    go_wp2_with fail
    (with_reducible refine (kaw.out _).mono ?_); rintro e w1 ⟨rfl, hb1⟩
    go_wp2_with fail
    go_ret
    exact ⟨rfl, hb1⟩
  rw [decide_eq_true hfew] at kf
  replace kf := Lib.hid kf
  have kn := Lib.hid fun w h => new_any A0 m0 c0 l w h hmc hm0
  have kt : Hid (∀ g w, Dk w g → Calls Try.prog 12 #[.pointer (some ⟨g, 0, none⟩), .int .i64 10] w (RetTk w g 10)) := Lib.hid fun g w h => fticks_any g 10 w h (by omega)
  have km := Lib.hid fun g w h => fmotif_any g w h
  have kv := Lib.hid fun A n c m w h hc => mvalid_any A n c m w h hc
  obtain ⟨W12, hW12⟩ : ∃ W12 : Nat, W12 = sz % 12 := ⟨_, rfl⟩
  have hW3 : W12 < 12 := by omega
  have es0 : (sz : Int) % 12 = (W12 : Int) := by omega
  clear hW12
  go_enter Try.func7, Try.ntmps7
  go_wp2_with fail
  (with_reducible refine (kf.out _).mono ?_); rintro e wf ⟨rfl, hQ⟩; obtain rfl := hQ
  go_wp2_with fail
  (with_reducible refine (kn.out _ h0).mono ?_)
  rintro e w1 ⟨rfl, hD1, hb1, hs1⟩
  generalize hgd : w.heap.size = gd at *
  go_wp2_with fail
  (with_reducible refine (kt.out _ _ hD1).mono ?_)
  rintro e w2 ⟨A, n, c, t, rfl, hnc, hrt, hlt, hT, hD2, hg2, hf2⟩
  go_wp2_with fail
  (with_reducible refine (km.out _ _ hD2).mono ?_)
  rintro e w3 ⟨B, k, d, m, rfl, hkd, hrm, hk4, hD3, hg3, hf3⟩
  have hgl2 : ∀ ad, A = some ad → some ad.block ≠ some gd := fun ad he e => by injection e with e; have := hf2 ad he; omega
  have hgl3 : ∀ ad, B = some ad → some ad.block ≠ some gd := fun ad he e => by injection e with e; have := hf3 ad he; have := hg2.size; omega
  have hrt3 := hrt.kept hg3 hgl2
  have BW3 : Below gd w w3 := hb1.trans ((grown_is_below hg2 (Nat.le_refl _) (by omega)).trans (grown_is_below hg3 (Nat.le_refl _) (by have := hg2.size; omega)))
  have hs3 : gd ≤ w3.heap.size := by have := hg2.size; have := hg3.size; omega
  clear hD1 hb1 hs1 hD2 hg2 hg3 hf2 hf3 hrt h0 kn kt km kf
  have hl := Lib.hid hrt3.len
  have hn10 : n ≤ 10 := by have := hl.out; omega
  clear hD3 hgl2 hgl3
  go_wp2_with fail
  (with_reducible refine (kv.out _ _ _ _ _ hrm hkd).mono ?_)
  rintro e w4 ⟨rfl, hb4⟩
  have BW4 := BW3.trans (hb4.mono hs3)
  have hs4 := Nat.le_trans hs3 hb4.size
  replace hrm := hrm.below hb4 (Nat.le_refl _)
  replace hrt3 := hrt3.below hb4 (Nat.le_refl _)
  clear hb4 BW3 hs3 kv
  have hwk : (0 : Int) ≤ (W12 : Int) ∧ (W12 : Int) ≤ 100 := by omega
  have kc := fun w h h' => count_any A B n c k d t m (W12 : Int) w h h' (by omega) hnc hkd
  cases hv : vld m with
  | false =>
    have e1 : chkA t m (W12 : Int) = 4 := chkA_bad (hT.chk (by omega)) hv
    rw [e1] at kc
    replace kc := Lib.hid kc
    replace hv := Lib.hid hv
    clear e1
    go_wp2_with fail
    (with_reducible refine (kc.out _ hrt3 hrm).mono ?_)
    rintro e w5 ⟨rfl, hb5⟩
    have BW5 := BW4.trans (hb5.mono hs4)
    have hs5 := Nat.le_trans hs4 hb5.size
    go_wp2_with fail
    (with_reducible refine (kaw.out _).mono ?_); rintro e w6 ⟨rfl, hb6⟩
    go_wp2_with fail
    go_ret
    exact ⟨rfl, by rw [hgd]; exact BW5.trans (hb6.mono hs5)⟩
  | true =>
    obtain ⟨e1, e2, e3, e4, e5, e6, e7, e8⟩ := beg_law (w := (W12 : Int)) hT (by omega) hv hwk
    have hkI := fun w h h' => instances_any A B n c k d t m (W12 : Int) 4096 w h h' (by omega) hnc hkd
    rw [e1, e2] at kc
    rw [e3, e4] at hkI
    have ken : Hid (∀ (i : Nat) w, i ≤ n → RS TE w A n t → RS SE w B k m → Calls Try.prog 28 #[.slice A i c, .slice B k d, .int .i64 (W12 : Int)] w fun r w' => r = .returned (.tuple #[.int .i64 (endc (t.take i) (W12 : Int) m : Int), .int .i64 0]) ∧ Below w.heap.size w w') := Lib.hid fun i w hi h h' => by
      have := ending_any A B i c k d (t.take i) m (W12 : Int) w (h.head hi) h' (by omega) (by omega) hkd
      rwa [(e7 i).1, (e7 i).2] at this
    have hps : Hid (∀ i, pS t (W12 : Int) m (i + 1) = pS t (W12 : Int) m i + endc (t.take i) (W12 : Int) m) := Lib.hid fun i => pS_succ _ _ _ _
    have hpb : Hid (∀ i, i ≤ n + 1 → pS t (W12 : Int) m i ≤ 4096) := Lib.hid fun i hi => by
      have := pS_mono t (W12 : Int) m hi
      rw [← hl.out, e6] at this; omega
    have hpe : Hid (pS t (W12 : Int) m (n + 1) = (inst t (W12 : Int) m).length) := Lib.hid (by rw [← hl.out]; exact e6)
    have hp0 : Hid (pS t (W12 : Int) m 0 = 0) := Lib.hid rfl
    generalize pS t (W12 : Int) m = PS at *
    have hlI : ((inst t (W12 : Int) m).map (·.1)).length = (inst t (W12 : Int) m).length := List.length_map _
    generalize (inst t (W12 : Int) m).map (·.1) = LL at *
    generalize (inst t (W12 : Int) m).length = NI at *
    replace kc := Lib.hid kc
    replace hkI := Lib.hid hkI
    replace hv := Lib.hid hv
    replace e8 := Lib.hid e8
    replace hlI := Lib.hid hlI
    clear e1 e2 e3 e4 e6 e7
    go_wp2_with fail
    (with_reducible refine (kc.out _ hrt3 hrm).mono ?_)
    rintro e w5 ⟨rfl, hb5⟩
    have BW5 := BW4.trans (hb5.mono hs4)
    have hs5 := Nat.le_trans hs4 hb5.size
    replace hrm := hrm.below hb5 (Nat.le_refl _)
    replace hrt3 := hrt3.below hb5 (Nat.le_refl _)
    clear hb5 BW4 hs4 kc
    go_wp2_with fail
    go_loopw [13, 14] (fun o i wr => ∃ kk : Nat, kk ≤ n + 1 ∧ o = .int .i64 (PS kk : Int) ∧ i = .int .i64 (kk : Int) ∧ Below w5.heap.size w5 wr) (fun _ i _ => n + 1 - (intOf i).toNat)
    case atStart => exact ⟨0, Nat.zero_le _, by rw [hp0.out]; rfl, rfl, Below.refl _ _⟩
    case round =>
      obtain ⟨kk, hkk, rfl, rfl, hb6⟩ := hrel
      by_cases hlt2 : kk ≤ n
      · have i2 : (0 : Int) ≤ (kk : Int) := Int.natCast_nonneg _
        have i3 : (kk : Int) ≤ (n : Int) := by omega
        have i4 : (kk : Int) ≤ (c : Int) := by omega
        go_wp2_with fail
        (with_reducible refine (ken.out _ _ hlt2 (hrt3.below hb6 (Nat.le_refl _)) (hrm.below hb6 (Nat.le_refl _))).mono ?_)
        rintro e w7 ⟨rfl, hb7⟩
        have h1 := hps.out kk
        have h2 := hpb.out (kk + 1) (by omega)
        have es : wrap64 ((PS kk : Int) + (endc (t.take kk) (W12 : Int) m : Int)) = (PS (kk + 1) : Int) := by rw [h1]; unfold wrap64; omega
        clear h1 h2
        go_wp2_with fail
        go_roundw
        case rel => exact ⟨kk + 1, by omega, by rw [es], by go_num, hb6.trans (hb7.mono hb6.size)⟩
        case measure => simp [intOf]; omega
      · obtain rfl : kk = n + 1 := by omega
        have i4 : ¬ ((n + 1 : Nat) : Int) ≤ (n : Int) := by omega
        rw [hpe.out]
        have BW6 := BW5.trans (hb6.mono hs5)
        have hs6 := Nat.le_trans hs5 hb6.size
        replace hrm := hrm.below hb6 (Nat.le_refl _)
        replace hrt3 := hrt3.below hb6 (Nat.le_refl _)
        clear hb6 BW5 hs5 ken hps hpb hpe hp0 i4 hlt2 hkk
        generalize wr = wL at *
        go_wp2_with fail
        (with_reducible refine (hkI.out _ hrt3 hrm).mono ?_)
        rintro e w6 ⟨A6, n6, c6, rfl, hc6, hr6, hb6⟩
        have BW7 := BW6.trans (hb6.mono hs6)
        have hs7 := Nat.le_trans hs6 hb6.size
        replace hrm := hrm.below hb6 (Nat.le_refl _)
        replace hrt3 := hrt3.below hb6 (Nat.le_refl _)
        obtain rfl : NI = n6 := by rw [← hlI.out]; exact hr6.len
        clear hb6 BW6 hs6 hkI hlI
        have ko := Lib.hid fun A n c l w h hn => mofL_any A n c l w h hn
        have ks := Lib.hid fun A B n k c d w (h : RS SE w A n m) (h' : RS SE w B k m) hn => rsame_any A B n k c d m m w h h' hn
        go_wp2_with fail
        go_loopw [90] (fun i wr => ∃ q : Nat, q ≤ NI ∧ i = .int .i64 (q : Int) ∧ Below w6.heap.size w6 wr) (fun i _ => NI - (intOf i).toNat)
        case atStart => exact ⟨0, Nat.zero_le _, rfl, Below.refl _ _⟩
        case round =>
          obtain ⟨q, hq, rfl, hb8⟩ := hrel
          by_cases hlt3 : q < NI
          · obtain ⟨ad, A7, k7, c7, xs, rfl, hcA, hy, hkc7, hrx, hbl⟩ := (hr6.below hb8 (Nat.le_refl _)).get hlt3
            have hF := e8.out xs (List.mem_of_getElem? hy.out)
            have hxl := hrx.len
            have i2 : (0 : Int) ≤ (q : Int) := Int.natCast_nonneg _
            have i3 : (q : Int) < (NI : Int) := by omega
            obtain ⟨hF1, hF2⟩ := hF.len
            rw [hxl] at hF1 hF2
            replace hxl := Lib.hid hxl
            replace hF := Lib.hid hF
            have hrm8 := hrm.below hb8 (Nat.le_refl _)
            have hrt8 := hrt3.below hb8 (Nat.le_refl _)
            have BW8 := BW7.trans (hb8.mono hs7)
            have hs8 := Nat.le_trans hs7 hb8.size
            clear hy
            generalize wr = wq at *
            go_wp2_with fail
            go_loopw [21, 96] (fun o i w9 => ∃ (v : Value) (p : Nat), v = o ∧ i = .int .i64 (p : Int) ∧ p ≤ k7 ∧ OS TE 33 w9 wq.heap.size v (tks t (xs.take p)) ∧ Below wq.heap.size wq w9) (fun _ i _ => k7 - (intOf i).toNat)
            case atStart => exact ⟨_, 0, rfl, rfl, Nat.zero_le _, OS.nil_, Below.refl _ _⟩
            case round =>
              obtain ⟨v, p, rfl, rfl, hp, ho, hb9⟩ := hrel
              by_cases hlt4 : p < k7
              · obtain ⟨bd, x, rfl, hbl2, hx, hcx⟩ := (hrx.below hb9 (Nat.le_refl _)).nat hlt4
                have hxn : x < n := by rw [← hl.out]; exact hF.out.lt p x hx.out
                obtain ⟨td, a1, a2, a3, rfl, hbl3, htx, -, q0, q1, q2⟩ := (hrt8.below hb9 (Nat.le_refl _)).tk' hxn
                have hbk := Lib.hid (tks_take hx.out htx)
                have htim : Hid (tim t x = a3) := Lib.hid (by unfold tim; rw [htx]; rfl)
                have hlen9 : (tks t (xs.take p)).length ≤ 4 := by rw [tks_len, List.length_take]; have := hxl.out; omega
                have j2 : (0 : Int) ≤ (p : Int) := Int.natCast_nonneg _
                have j3 : (p : Int) < (k7 : Int) := by omega
                have j4 : (0 : Int) ≤ (x : Int) := Int.natCast_nonneg _
                have j5 : (x : Int) < (n : Int) := by omega
                have d1 : decide ((x : Int) < 0) = false := decide_eq_false (by omega)
                have d2 : decide ((n : Int) ≤ (x : Int)) = false := decide_eq_false (by omega)
                clear htx
                go_upto_region 25 with fail
                cases p with
                | zero =>
                  have d3 : decide ((0 : Int) < ((0 : Nat) : Int)) = false := rfl
                  -- B1
                  go_quiet (fail)
                  have ho1 := ho.drewN nq
                  have hb91 := below_drewN hb9 nq
                  go_wp2_with (at_builtin; (refine wpList_push1G tyT (y := ⟨a1, a2, a3⟩) rfl rfl _ _ rfl rfl rfl rfl ho1 (by omega) (by omega) hb91.size ?_); intro v6 w10 ho6 hb10 hg10)
                  go_roundw
                  case rel => exact ⟨_, 1, rfl, rfl, by omega, by rw [hbk.out]; exact ho6, hb91.trans hb10⟩
                  case measure => simp [intOf]; omega
                  -- E1
                | succ p =>
                  -- B2
                  obtain ⟨bd', y, hbd, hbl5, hy, hcy⟩ := (hrx.below hb9 (Nat.le_refl _)).nat (show p < k7 by omega)
                  injection hbd with hbd; subst hbd
                  obtain ⟨g1, g2⟩ := hF.out.asc p y x hy.out hx.out
                  obtain ⟨td', b1, b2, b3, htd, hbl6, hty, -, r0, r1, r2⟩ := (hrt8.below hb9 (Nat.le_refl _)).tk' (show y < n by omega)
                  injection htd with htd; subst htd
                  have hti2 : tim t y = b3 := by unfold tim; rw [hty]; rfl
                  rw [htim.out, hti2] at g2
                  have d3 : decide ((0 : Int) < (p : Int) + 1) = true := decide_eq_true (by omega)
                  have d4 : decide ((x : Int) ≤ (y : Int)) = false := decide_eq_false (by omega)
                  have d5 : decide (a3 ≤ b3) = false := decide_eq_false (by omega)
                  have e1 : IntKind.i64.wrap ((p : Int) + 1 - 1) = (p : Int) := by rw [wrap_small (by omega) (by omega)]; omega
                  have e2 : IntKind.i64.wrap (p : Int) = (p : Int) := wrap_small (by omega) (by omega)
                  have k2 : (0 : Int) ≤ (p : Int) := Int.natCast_nonneg _
                  have k3 : (p : Int) < (k7 : Int) := by omega
                  have k4 : (0 : Int) ≤ (y : Int) := Int.natCast_nonneg _
                  have k5 : (y : Int) < (n : Int) := by omega
                  clear hty hti2 hy r0 r1
                  go_quiet (fail)
                  have ho1 := ho.drewN nq
                  have hb91 := below_drewN hb9 nq
                  go_wp2_with (at_builtin; (refine wpList_push1G tyT (y := ⟨a1, a2, a3⟩) rfl rfl _ _ rfl rfl rfl rfl ho1 (by omega) (by omega) hb91.size ?_); intro v6 w10 ho6 hb10 hg10)
                  go_roundw
                  case rel => exact ⟨_, p + 1 + 1, rfl, by go_num, by omega, by rw [hbk.out]; exact ho6, hb91.trans hb10⟩
                  case measure => simp [intOf]; omega
                  -- E2
              · -- B3
                obtain rfl : p = k7 := by omega
                rw [List.take_of_length_le (by rw [hxl.out]; exact Nat.le_refl _)] at ho
                have hlo : (tks t xs).length = p := by rw [tks_len]; exact hxl.out
                obtain ⟨A2, n2, c2, rfl, hn2, hc2, -, hr2, -⟩ := ho.form
                obtain rfl : n2 = p := by omega
                have BW9 := BW8.trans (hb9.mono hs8)
                have hs9 := Nat.le_trans hs8 hb9.size
                have hb89 := hb8.trans (hb9.mono hb8.size)
                have hrm9 := hrm8.below hb9 (Nat.le_refl _)
                have ko1 := Lib.hid (ko.out A2 n2 c2 (tks t xs) wr hr2 (by omega))
                have hof := hF.out.of
                obtain ⟨sd, u0, u0', t0, rfl, hsb, hs0, p0, p0', p1⟩ := hr2.tk (show 0 < n2 by omega)
                obtain ⟨sd', u1, u1', t1, hsd, hsb', hs1, p2, p2', p3⟩ := hr2.tk (show n2 - 1 < n2 by omega)
                injection hsd with hsd; subst hsd
                obtain ⟨i0, hi0⟩ : ∃ i, xs[0]? = some i := ⟨_, List.getElem?_eq_getElem (by rw [hxl.out]; omega)⟩
                obtain ⟨i1, hi1⟩ : ∃ i, xs[n2 - 1]? = some i := ⟨_, List.getElem?_eq_getElem (by rw [hxl.out]; omega)⟩
                obtain ⟨m0', e0⟩ := tks_at hi0 (hF.out.lt 0 i0 hi0) hs0.out
                obtain ⟨m1, e1⟩ := tks_at hi1 (hF.out.lt _ i1 hi1) hs1.out
                have ew := hF.out.wide i0 i1 hi0 (by rw [hxl.out]; exact hi1)
                rw [← e0, ← e1] at ew
                have h00 := hT.time _ m0'
                have h01 := hT.time _ m1
                simp only at ew h00 h01
                have q1 : IntKind.i64.wrap ((n2 : Int) - 1) = ((n2 - 1 : Nat) : Int) := by rw [wrap_small (by omega) (by omega)]; omega
                have q2 : IntKind.i64.wrap (t1 - t0) = t1 - t0 := wrap_small (by omega) (by omega)
                have q3 : decide ((W12 : Int) < t1 - t0) = false := decide_eq_false (by omega)
                have q4 : (0 : Int) ≤ ((n2 - 1 : Nat) : Int) := Int.natCast_nonneg _
                have q5 : ((n2 - 1 : Nat) : Int) < (n2 : Int) := by omega
                have q6 : 0 < n2 := by omega
                clear ho e0 e1 m0' m1 hi0 hi1 hs0 hs1 p0 p0' p2 p2' ew h00 h01 hsb' hn2 hlo hr2
                go_wp2_with fail
                (with_reducible refine (ko1.out).mono ?_)
                rintro e w11 ⟨A4, n4, c4, rfl, hc4, hr4, hb11, -⟩
                rw [hof] at hr4 ⊢
                replace hr4 : RS SE w11 A4 n4 m := hr4
                have BW11 := BW9.trans (hb11.mono hs9)
                have hs11 := Nat.le_trans hs9 hb11.size
                have hb811 := hb89.trans (hb11.mono hb89.size)
                have hrm11 := hrm9.below hb11 (Nat.le_refl _)
                have hn44 : n4 ≤ 4 := by rw [← hr4.len]; have := hrm.len; omega
                replace p1 := (hb11.cell (p := ⟨(sd.add (0 * 3)).block, (sd.add (0 * 3)).off + 2, none⟩) (by show (sd.add (0 * 3)).block < _; rw [block_of_add]; exact hsb)).trans p1
                replace p3 := (hb11.cell (p := ⟨(sd.add ((n2 - 1) * 3)).block, (sd.add ((n2 - 1) * 3)).off + 2, none⟩) (by show (sd.add ((n2 - 1) * 3)).block < _; rw [block_of_add]; exact hsb)).trans p3
                rw [show sd.add (0 * 3) = sd by simp [Addr.add]] at p1
                have hsb11 : sd.block < w11.heap.size := Nat.lt_of_lt_of_le hsb hb11.size
                have hKS : Hid (∀ W', Below w11.heap.size w11 W' → W'.cell? ⟨(sd.add ((n2 - 1) * 3)).block, (sd.add ((n2 - 1) * 3)).off + 2, none⟩ = some (.int .i64 t1) ∧ W'.cell? ⟨sd.block, sd.off + 2, none⟩ = some (.int .i64 t0)) := Lib.hid fun W' hb =>
                  ⟨(hb.cell (p := ⟨(sd.add ((n2 - 1) * 3)).block, (sd.add ((n2 - 1) * 3)).off + 2, none⟩) (by show (sd.add ((n2 - 1) * 3)).block < _; rw [block_of_add]; exact hsb11)).trans p3, (hb.cell (p := ⟨sd.block, sd.off + 2, none⟩) hsb11).trans p1⟩
                clear hof hb11 hb9 hb8 hb89 ko1 ko hrm9
                go_upto_region 30 with fail
                have BX : Below w11.heap.size w11 w11 := Below.refl _ _
                go_loud (go_region_held3 (fun W' => W'.cell? ⟨(sd.add ((n2 - 1) * 3)).block, (sd.add ((n2 - 1) * 3)).off + 2, none⟩ = some (.int .i64 t1) ∧ W'.cell? ⟨sd.block, sd.off + 2, none⟩ = some (.int .i64 t0))
                  ((first | exact hKS.out _ BY | exact hKS.out _ BX.drew | exact hKS.out _ BX))
                  ((first
                    | (go_at_call 24; (with_reducible refine (ks.out _ _ _ _ _ _ _ hr4.drew hrm11.drew (by omega)).mono ?_); rintro e w12 ⟨rfl, hb12⟩; have BY := BX.drew.trans hb12)
                    | fail)))
                go_wp2_with fail
                go_roundw
                case rel => exact ⟨q + 1, by omega, by go_num, hb811.trans (BY.mono hb811.size)⟩
                case measure => simp [intOf]; omega
                -- E3
          · -- B4
            obtain rfl : q = NI := by omega
            have BW8 := BW7.trans (hb8.mono hs7)
            have hs8 := Nat.le_trans hs7 hb8.size
            go_wp2_with fail
            (with_reducible refine (kaw.out _).mono ?_); rintro e w11 ⟨rfl, hb11⟩
            go_wp2_with fail
            go_ret
            exact ⟨rfl, by rw [hgd]; exact BW8.trans (hb11.mono hs8)⟩
            -- E4
end Go.Proofs.Ytkcmbpokoijglaa
