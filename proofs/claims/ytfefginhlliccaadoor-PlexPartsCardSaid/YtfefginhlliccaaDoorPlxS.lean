/- The law PlexParts. -/
import Derived.Test.YtfefginhlliccaaDoorPlxH
import Derived.Test.YtfefginhlliccaaDoorPlxR
set_option linter.unusedVariables false
set_option linter.unusedSimpArgs false
namespace Go.Proofs.YtfefginhlliccaaDoor.Pl
open Go.RowKit Go.Shelf CoBit CoCli Go.Proofs.YtfefginhlliccaaDoor

attribute [local irreducible] wpQuiet in
set_option maxRecDepth 100000 in
set_option maxHeartbeats 8000000 in
theorem lawParts_any (A0 : Option Addr) (m0 c0 : Nat) (l : List Int) (k : Nat) (hk8 : k < 256) (w : World) (hT : Tab w) (h0 : RI w A0 m0 l) (hmc : m0 ≤ c0) (hm0 : m0 ≤ 1152921504606846976) :
    Calls Tryd.prog 4 #[.slice A0 m0 c0, .int .u8 k] w fun e w' => e = .returned (.bool true) ∧ Below w.heap.size w w' := by
  have kf := fun w => few_any A0 m0 c0 w
  by_cases hfew : m0 ≤ 500
  · have hv : decide (m0 ≤ 500) = true := by simpa using hfew
    rw [hv] at kf
    replace kf := Lib.hid kf
    clear hv hfew
    obtain ⟨q, hq, hq3⟩ : ∃ q : Nat, Hid (q = 1 + k % 3) ∧ (1 : Int) + (k : Int) % 3 = (q : Int) := ⟨1 + k % 3, Lib.hid rfl, by omega⟩
    have hq1 : 1 ≤ q ∧ q ≤ 3 := by have := hq.out; omega
    clear hq
    go_enter Tryd.func4, Tryd.ntmps4
    go_wp2_with fail
    refine (kf.out _).mono ?_
    rintro e w1 ⟨rfl, rfl⟩
    go_wp2_with fail
    refine (new_any A0 m0 c0 l w h0 hmc hm0).mono ?_
    rintro e w1 ⟨rfl, hd1, hb1, hs1⟩
    go_wp2_with fail
    refine (mkgraph_any _ 8 _ hd1 (by omega)).mono ?_
    rintro e w2 ⟨n, es, A, m, c, rfl, hmcc, hr2, hf2, hsrt, hn9, hd2, hg2⟩
    have hz := Lib.hid (chk_of_srt hsrt (show (0 : Int) ≤ n by omega) (by omega))
    have hlen : m ≤ 64 := by
      have h1 := srt_len hsrt
      have h2 := hr2.len
      have h3 : n * n ≤ 8 * 8 := Nat.mul_le_mul hn9 hn9
      omega
    have hb2 : Below w.heap.size w w2 := hb1.grown hg2 (by omega) (fun k hk => by injection hk with hk; omega)
    have hs2 := hb2.size
    have hA0 : Hid (∀ ad, A = some ad → some ad.block ≠ some w.heap.size) := Lib.hid fun ad h e => by have := hf2 ad h; injection e with e; omega
    clear hs1 hb1 hf2 hg2 h0
    go_wp2_with fail
    generalize hw3 : w2.alloc (.cells #[.int .i64 n, .slice A m c] 27) = w3
    have hG : Blk w3 w2.heap.size 27 #[.int .i64 n, .slice A m c] := hw3 ▸ Blk.new w2 _ _
    have hr3 : RE w3 A m es := hw3 ▸ hr2.alloc _
    have hd3 : Dk w3 w.heap.size := hw3 ▸ hd2.alloc _
    have hb3 : Below w.heap.size w w3 := hw3 ▸ hb2.alloc hs2 _
    have hdl := hd2.lt
    clear hw3 hr2 hb2 hd2 hq3
    generalize w2.heap.size = gg at *
    have hgl := hG.lt
    refine (mkset_any w.heap.size n w3 hd3 (by omega)).mono ?_
    rintro e w4 ⟨s1, A4, n4, c4, rfl, hn4, hv4, hr4, hf4, hd4, hg4⟩
    have hs4 := hg4.size
    have hr34 := hr3.kept hg4 hA0.out
    have hG4 := hG.grown hg4 (by simp; omega)
    have hb4 := hb3.trans (grown_is_below hg4 (Nat.le_refl _) (by omega))
    have hn4' : n4 ≤ 8 := by have := vld_length hv4; have := hr4.len; omega
    obtain ⟨e1, e2, e3⟩ := nt_toNat hv4
    generalize s1.map Int.toNat = S at *
    subst e1
    obtain ⟨d0, d1⟩ := blkG hG4
    have hf4' : Hid (∀ ad, A4 = some ad → some ad.block ≠ some w.heap.size) := Lib.hid fun ad h e => by have := hf4 ad h; injection e with e; omega
    have hSl : Hid (S.length = n4) := Lib.hid (by have := hr4.len; rwa [nt_length] at this)
    clear hr3 hG hd3 hb3 hg4 hf4 hv4
    go_wp2_with fail
    refine (mkset_any w.heap.size n w4 hd4 (by omega)).mono ?_
    rintro e w5 ⟨s2, A5, n5, c5, rfl, hn5, hv5, hr5, hf5, -, hg5⟩
    have hs5 := hg5.size
    have hr35 := hr34.kept hg5 hA0.out
    have hG5 := hG4.grown hg5 (by simp; omega)
    have hb5 := hb4.trans (grown_is_below hg5 (Nat.le_refl _) (by omega))
    have hr45 := hr4.kept hg5 hf4'.out
    have hn5' : n5 ≤ 8 := by have := vld_length hv5; have := hr5.len; omega
    clear hr34 hG4 hb4 hr4 hg5 hf5 hv5 hf4' hA0 hd4 d0 d1
    go_wp2_with fail
    refine (meet_any A4 A5 n4 c4 n5 c5 (nt S) s2 w5 hr45 (by omega) hr5 (by omega)).mono ?_
    rintro e w6 ⟨A6, n6, c6, rfl, hn6, hr6, hb6, -⟩
    rw [meet_nt e2] at hr6
    have hTS : (S.filter fun x : Nat => decide ((x : Int) ∈ s2)).Sublist S := List.filter_sublist
    generalize (S.filter fun x : Nat => decide ((x : Int) ∈ s2)) = T at *
    have hgg5 := hG5.lt
    have hb06 := hb5.trans (hb6.mono hb5.size)
    have hE6 := hr35.below hb6 (Nat.le_refl _)
    have hS6 := hr45.below hb6 (Nat.le_refl _)
    have hG6 := hG5.below hb6 hgg5
    have hT6 := hT.below hb06 hT.lt
    have hn6' : n6 ≤ 8 := by
      have h1 := hr6.len
      rw [nt_length] at h1
      have := hTS.length_le
      have := hSl.out; omega
    have hTs := e2.sublist hTS
    have hTn : ∀ x ∈ T, x < n := fun x hx => e3 x (hTS.subset hx)
    have sym := ad_sym hz.out
    have irr := ad_not hz.out
    have hnd : S.Nodup := e2.imp (fun h => Nat.ne_of_lt h)
    clear hr5 hr45 hG5 hr35 hb5 hb6
    -- what is said
    have kI := fun A2 m2 c2 X q w hE hT h2 hm2 => is_any A m c n es A2 m2 c2 (nt X) q w hE (by omega) hT h2 hm2
    have kS : ∀ (q : Nat), 1 ≤ q → q ≤ 3 → ∀ w, RE w A m es → Tab w → RI w A4 n4 (nt S) → Calls Tryd.prog 17 #[.agg #[.int .i64 n, .slice A m c], .slice A4 n4 c4, .int .i64 q] w fun e w' => e = .returned (.bool (decide (plx (ad (rowsL n es)) q S))) ∧ Below w.heap.size w w' := fun q h1 h3 w hE hT h2 => by
      have := kI A4 n4 c4 S q w hE hT h2 (by omega)
      rwa [isB_of hz.out h1 h3 e2 e3] at this
    have kT : ∀ w, RE w A m es → Tab w → RI w A6 n6 (nt T) → Calls Tryd.prog 17 #[.agg #[.int .i64 n, .slice A m c], .slice A6 n6 c6, .int .i64 q] w fun e w' => e = .returned (.bool (decide (plx (ad (rowsL n es)) q T))) ∧ Below w.heap.size w w' := fun w hE hT h2 => by
      have := kI A6 n6 c6 T q w hE hT h2 (by omega)
      rwa [isB_of hz.out hq1.1 hq1.2 hTs hTn] at this
    have kM : ∀ w, RE w A m es → Tab w → RI w A4 n4 (nt S) → Calls Tryd.prog 19 #[.agg #[.int .i64 n, .slice A m c], .slice A4 n4 c4, .int .i64 1] w fun e w' => e = .returned (.bool (decide (mcl (ad (rowsL n es)) n S))) ∧ Below w.heap.size w w' := fun w hE hT h2 => by
      have := maximal_any A m c n es A4 n4 c4 (nt S) ((1 : Nat) : Int) w hE (by omega) hT h2 (by omega)
      rw [maxB_of hz.out (by omega) (by omega) e2 e3, decide_eq_decide.2 (mxl_one sym irr hnd)] at this
      exact this
    have kI1 : ∀ w, RE w A m es → Tab w → RI w A4 n4 (nt S) → Calls Tryd.prog 17 #[.agg #[.int .i64 n, .slice A m c], .slice A4 n4 c4, .int .i64 1] w fun e w' => e = .returned (.bool (decide (clq (ad (rowsL n es)) S))) ∧ Below w.heap.size w w' := fun w hE hT h2 => by
      have := kS 1 (by omega) (by omega) w hE hT h2
      rw [decide_eq_decide.2 (plx_one sym irr hnd)] at this
      exact this
    have kR := fun w hE h2 => r24is_any A m c n es A4 n4 c4 S w hE (by omega) hz.out h2 e2 e3
    have kRM := fun w hE h2 => r24max_any A m c n es A4 n4 c4 S w hE (by omega) hz.out h2 e2 e3
    have hfw : S.length ≤ q → decide (plx (ad (rowsL n es)) q S) = true := fun h => decide_eq_true (plx_few h)
    have hcase : (decide (plx (ad (rowsL n es)) q S) = false) ∨ (decide (plx (ad (rowsL n es)) q S) = true ∧ decide (plx (ad (rowsL n es)) q T) = true ∧ decide ((q : Int) < 3) = false) ∨ (decide (plx (ad (rowsL n es)) q S) = true ∧ decide (plx (ad (rowsL n es)) q T) = true ∧ decide (plx (ad (rowsL n es)) (q + 1) S) = true ∧ decide ((q : Int) < 3) = true) := by
      by_cases hp : plx (ad (rowsL n es)) q S
      · by_cases h3 : q < 3
        · exact .inr (.inr ⟨decide_eq_true hp, decide_eq_true (plx_sub hTS hp), decide_eq_true (plx_more hp (by omega)), decide_eq_true (by omega)⟩)
        · exact .inr (.inl ⟨decide_eq_true hp, decide_eq_true (plx_sub hTS hp), decide_eq_false (by omega)⟩)
      · exact .inl (decide_eq_false hp)
    have kSq := kS q hq1.1 hq1.2
    have kSq1 := fun (h : q + 1 ≤ 3) => kS (q + 1) (by omega) h
    have ka := fun w h => awake28_any w h
    generalize decide (clq (ad (rowsL n es)) S) = b1 at *
    generalize decide (mcl (ad (rowsL n es)) n S) = b2 at *
    generalize decide (plx (ad (rowsL n es)) q S) = v1 at *
    generalize decide (plx (ad (rowsL n es)) q T) = v2 at *
    generalize decide (plx (ad (rowsL n es)) (q + 1) S) = v3 at *
    have hq9 : (b1 == b1) = true := by simp
    have hq8 : (b2 == b2) = true := by simp
    have hvl : n4 ≤ q → v1 = true := fun h => hfw (by have := hSl.out; omega)
    clear kI kS hfw sym irr hnd hTS hTs hTn e2 e3 hSl
    replace kSq := Lib.hid kSq
    replace kSq1 := Lib.hid kSq1
    replace kT := Lib.hid kT
    replace kM := Lib.hid kM
    replace kI1 := Lib.hid kI1
    replace kR := Lib.hid kR
    replace kRM := Lib.hid kRM
    replace ka := Lib.hid ka
    replace hvl := Lib.hid hvl
    obtain ⟨x0, x1⟩ := blkG hG6
    have hgg6 := hG6.lt
    rcases hcase with hv | ⟨hv, hv2, h3⟩ | ⟨hv, hv2, hv3, h3⟩
    case' inl =>
      have kS1 := Lib.hid (fun w hE hT h2 => by have := kSq.out w hE hT h2; rwa [hv] at this)
      go_wp2_with (first
        | (go_at_call 17; refine (kS1.out w6 hE6 hT6 hS6).mono ?_; clear kS1; rintro e w9 ⟨rfl, hb9⟩)
        | fail)
      have hb69 : Below w6.heap.size w6 w9 := hb9
    case' inr.inl =>
      have kS1 := Lib.hid (fun w hE hT h2 => by have := kSq.out w hE hT h2; rwa [hv] at this)
      have kS2 := Lib.hid (fun w hE hT h2 => by have := kT.out w hE hT h2; rwa [hv2] at this)
      go_wp2_with (first
        | (go_at_call 17; refine (kS1.out w6 hE6 hT6 hS6).mono ?_; clear kS1; rintro e w7 ⟨rfl, hb7⟩
           obtain ⟨y0, y1⟩ := blkG (hG6.below hb7 hgg6))
        | (go_at_call 17; refine (kS2.out w7 (hE6.below hb7 (Nat.le_refl _)) (hT6.below hb7 hT6.lt) (hr6.below hb7 (Nat.le_refl _))).mono ?_; clear kS2; rintro e w9 ⟨rfl, hb9⟩)
        | fail)
      have hb69 : Below w6.heap.size w6 w9 := hb7.trans (hb9.mono hb7.size)
      clear hb7 y0 y1
    case' inr.inr =>
      have h33 : q + 1 ≤ 3 := by have := of_decide_eq_true h3; omega
      have kS1 := Lib.hid (fun w hE hT h2 => by have := kSq.out w hE hT h2; rwa [hv] at this)
      have kS2 := Lib.hid (fun w hE hT h2 => by have := kT.out w hE hT h2; rwa [hv2] at this)
      have kS3 := Lib.hid (fun w hE hT h2 => by have := kSq1.out h33 w hE hT h2; rwa [hv3] at this)
      clear h33
      go_wp2_with (first
        | (go_at_call 17; refine (kS1.out w6 hE6 hT6 hS6).mono ?_; clear kS1; rintro e w7 ⟨rfl, hb7⟩
           obtain ⟨y0, y1⟩ := blkG (hG6.below hb7 hgg6))
        | (go_at_call 17; refine (kS2.out w7 (hE6.below hb7 (Nat.le_refl _)) (hT6.below hb7 hT6.lt) (hr6.below hb7 (Nat.le_refl _))).mono ?_; clear kS2; rintro e w8 ⟨rfl, hb8⟩
           have hb78 : Below w6.heap.size w6 w8 := hb7.trans (hb8.mono hb7.size)
           obtain ⟨z0, z1⟩ := blkG (hG6.below hb78 hgg6))
        | (go_at_call 17; refine (kS3.out w8 (hE6.below hb78 (Nat.le_refl _)) (hT6.below hb78 hT6.lt) (hS6.below hb78 (Nat.le_refl _))).mono ?_; clear kS3; rintro e w9 ⟨rfl, hb9⟩)
        | fail)
      have hb69 : Below w6.heap.size w6 w9 := hb78.trans (hb9.mono hb78.size)
      clear hb7 y0 y1 hb78 z0 z1
    all_goals
      have hE9 := hE6.below hb69 (Nat.le_refl _)
      have hT9 := hT6.below hb69 hT6.lt
      have hS9 := hS6.below hb69 (Nat.le_refl _)
      obtain ⟨d0, d1⟩ := blkG (hG6.below hb69 hgg6)
      have hb09 := hb06.trans (hb69.mono hb06.size)
      have x0 : ∀ dd os, (Sort.grow (redrawn w9 dd) os).cell? ⟨gg, 0, none⟩ = some (.int .i64 n) := fun dd os => cell_regrown d0 dd os
      have x1 : ∀ dd os, (Sort.grow (redrawn w9 dd) os).cell? ⟨gg, 1, none⟩ = some (.slice A m c) := fun dd os => cell_regrown d1 dd os
      have rI1 := fun dd os => Calls.regrown_of (kI1.out _ (hE9.below (below_regrown w9 dd os) (Nat.le_refl _)) (hT9.below (below_regrown w9 dd os) hT9.lt) (hS9.below (below_regrown w9 dd os) (Nat.le_refl _)))
      have rM := fun dd os => Calls.regrown_of (kM.out _ (hE9.below (below_regrown w9 dd os) (Nat.le_refl _)) (hT9.below (below_regrown w9 dd os) hT9.lt) (hS9.below (below_regrown w9 dd os) (Nat.le_refl _)))
      have rR := fun dd os => Calls.regrown_of (kR.out _ (hE9.below (below_regrown w9 dd os) (Nat.le_refl _)) (hS9.below (below_regrown w9 dd os) (Nat.le_refl _)))
      have rRM := fun dd os => Calls.regrown_of (kRM.out _ (hE9.below (below_regrown w9 dd os) (Nat.le_refl _)) (hS9.below (below_regrown w9 dd os) (Nat.le_refl _)))
      have ra := fun dd os => Calls.regrown_of (ka.out _ (hT9.below (below_regrown w9 dd os) hT9.lt))
      replace rI1 := Lib.hid rI1
      replace rM := Lib.hid rM
      replace rR := Lib.hid rR
      replace rRM := Lib.hid rRM
      replace ra := Lib.hid ra
      by_cases hq4 : q < n4
      · have i1 : decide ((q : Int) < (n4 : Int)) = true := decide_eq_true (by omega)
        clear kSq kSq1 kT kM kI1 kR kRM ka hvl hv d0 d1 hE9 hT9 hS9 hE6 hT6 hS6 hr6 hG6
        go_upto_region 10 with fail
        refine wp_region_quiet_below (by kernel_rfl) (by kernel_rfl) ?_
        repeat (quiet_step (first | with_reducible exact rI1.out _ _ | with_reducible exact rM.out _ _ | with_reducible exact rR.out _ _ | with_reducible exact rRM.out _ _ | with_reducible exact ra.out _ _))
        refine wpQuiet_nil ?_
        intro _ hw'
        obtain ⟨⟨dq, osq⟩, hw''⟩ := hw'
        subst hw''
        have hbx := hb09.trans ((below_regrown w9 dq osq).mono hb09.size)
        go_wp2_with fail
        go_ret
        exact ⟨rfl, hbx⟩
      · have i1 : decide ((q : Int) < (n4 : Int)) = false := decide_eq_false (by omega)
        have rIq := fun dd os => Calls.regrown_of (kSq.out _ (hE9.below (below_regrown w9 dd os) (Nat.le_refl _)) (hT9.below (below_regrown w9 dd os) hT9.lt) (hS9.below (below_regrown w9 dd os) (Nat.le_refl _)))
        rw [hvl.out (by omega)] at rIq
        replace rIq := Lib.hid rIq
        clear kSq kSq1 kT kM kI1 kR kRM ka hvl hv d0 d1 hE9 hT9 hS9 hE6 hT6 hS6 hr6 hG6
        go_upto_region 10 with fail
        refine wp_region_quiet_below (by kernel_rfl) (by kernel_rfl) ?_
        repeat (quiet_step (first | with_reducible exact rI1.out _ _ | with_reducible exact rM.out _ _ | with_reducible exact rR.out _ _ | with_reducible exact rRM.out _ _ | with_reducible exact ra.out _ _ | with_reducible exact rIq.out _ _))
        refine wpQuiet_nil ?_
        intro _ hw'
        obtain ⟨⟨dq, osq⟩, hw''⟩ := hw'
        subst hw''
        have hbx := hb09.trans ((below_regrown w9 dq osq).mono hb09.size)
        go_wp2_with fail
        go_ret
        exact ⟨rfl, hbx⟩
  · have hv : decide (m0 ≤ 500) = false := by simpa using hfew
    rw [hv] at kf
    replace kf := Lib.hid kf
    have ka := Lib.hid (awake28_any w hT)
    clear hv hfew
    go_enter Tryd.func4, Tryd.ntmps4
    go_wp2_with fail
    refine (kf.out _).mono ?_
    rintro e w1 ⟨rfl, rfl⟩
    go_wp2_with fail
    refine ka.out.mono ?_
    rintro e w1 ⟨rfl, hb1⟩
    go_wp2_with fail
    go_ret
    exact ⟨rfl, hb1⟩
end Go.Proofs.YtfefginhlliccaaDoor.Pl
