/- The law CliquecountAnswers. (Printed by genCltK.py.) -/
import Derived.Test.YtknlmgcbdcepnaaDoorCltJ
import Derived.Test.YtknlmgcbdcepnaaDoorCltG
import Derived.Test.YtknlmgcbdcepnaaDoorSpoY
set_option linter.unusedVariables false
set_option linter.unusedSimpArgs false
namespace Go.Proofs.YtknlmgcbdcepnaaDoor.Pl
open Go.RowKit CoBit CoCli Go.Proofs.YtknlmgcbdcepnaaDoor

theorem RE.same_ {A : Option Addr} {n : Nat} {es : List (Int × Int)} {ex : Nat → Prop} {W W' : World} (h : RE W A n es) (hs : Same ex W W') (hx : ∀ ad, A = some ad → 0 < n → ¬ ex ad.block) : RE W' A n es :=
  ⟨h.1, fun hp => by
    obtain ⟨ad, he, hb, hc⟩ := h.2 hp
    exact ⟨ad, he, Nat.lt_of_lt_of_le hb hs.size, fun j u hu => (World.cell?_of_block (hs.block (ad.add j).block (by rw [block_of_add]; exact hb) (by rw [block_of_add]; exact hx ad he hp))).trans (hc j u hu)⟩⟩
theorem RE.keptG_ {A : Option Addr} {n : Nat} {es : List (Int × Int)} {W W' : World} {r : Option Nat} (h : RE W A n es) (hs : W.grownBy W' r) (hx : ∀ ad, A = some ad → 0 < n → r ≠ some ad.block) : RE W' A n es := RE.same_ h (Same.of_grown hs) hx
theorem Same.gg_ {gd : Nat} {W W' W2 : World} (h : Same (fun k => k = gd) W W') (h2 : W'.grownBy W2 (some gd)) : Same (fun k => k = gd) W W2 := h.trans (Same.of_grown h2) (fun k _ e => by injection e with e; exact e.symm)
theorem Same.bb_ {gd : Nat} {W W' W2 : World} {b : Nat} (h : Same (fun k => k = gd) W W') (h2 : Below b W' W2) (hb : W'.heap.size ≤ b) : Same (fun k => k = gd) W W2 := h.trans (Same.of_below h2 hb (fun k => k = gd)) (fun _ _ e => e)
theorem cmp_eq (A A' : Option Addr) (n c n' c' : Nat) (xs : List Int) (w : World) (h : RI w A n xs) (hn : n ≤ 1099511627776) (h' : RI w A' n' xs) (hn' : n' ≤ 1099511627776) :
    Calls Tryd.prog 23 #[.slice A n c, .slice A' n' c'] w fun e w' => e = .returned (.int .i64 0) ∧ ∃ q, w' = w.drewN q := by
  have h1 := cmp2_any A A' n c n' c' xs xs w h hn h' hn'
  rwa [(cmp_zero xs xs).2 rfl] at h1
/-- Three graphs in a block. -/
def GL3 (w : World) (gl gd : Nat) : Prop := ∀ j, j < 3 → ∃ (n : Int) (A : Option Addr) (m c : Nat) (es : List (Int × Int)), w.cell? ⟨gl, j * 2, none⟩ = some (.int .i64 n) ∧ w.cell? ⟨gl, j * 2 + 1, none⟩ = some (.slice A m c) ∧ RE w A m es ∧ m ≤ 100 ∧ ∀ ad, A = some ad → 0 < m → ad.block ≠ gd
/-- Two numbers. -/
def NL2 (w : World) (tl : Nat) : Prop := ∀ t, t < 2 → ∃ a : Int, w.cell? ⟨tl, t, none⟩ = some (.int .i64 a)
theorem counts_len {n most : Int} {es : List (Int × Int)} : (cntsL n es most).length ≤ 64 := by
  unfold cntsL
  split
  · rename_i h
    obtain ⟨_, _, h6⟩ := errC_zero h
    rw [cntL_len]; omega
  · simp
theorem nodes_len {n k : Int} {es : List (Int × Int)} : (nodsL n es k).length ≤ 64 := by
  unfold nodsL
  split
  · rename_i h
    obtain ⟨h0, _, h6⟩ := errC_zero h
    obtain ⟨_, h1, _⟩ := chkG_zero h0
    rw [nodL_length]; omega
  · simp
theorem edges_len {n k : Int} {es : List (Int × Int)} : (edgsC n es k).length ≤ es.length := by
  unfold edgsC
  split
  · unfold edgC; rw [List.length_map]; exact Nat.le_refl _
  · simp
set_option maxRecDepth 100000 in
set_option maxHeartbeats 40000000 in
theorem lawAnswers25_any (A0 : Option Addr) (m0 c0 : Nat) (l : List Int) (nr : Int) (Ar : Option Addr) (mr cr : Nat) (er : List (Int × Int)) (SZ NN KK : Int) (w : World) (hT : Tab w) (h0 : RI w A0 m0 l) (hmc : m0 ≤ c0) (hm0 : m0 ≤ 1152921504606846976) (hEr : RE w Ar mr er) (hmr : mr ≤ 1152921504606846976) :
    Calls Tryd.prog 7 #[.slice A0 m0 c0, .agg #[.int .i64 nr, .slice Ar mr cr], .int .i64 SZ, .int .i64 NN, .int .i64 KK] w fun e w' => e = .returned (.bool true) ∧ Below w.heap.size w w' := by
  have kf := fun w => few_any A0 m0 c0 w
  have kl : ∀ w, Calls Tryd.prog 28 #[.agg #[.int .i64 nr, .slice Ar mr cr], .int .i64 9] w fun e w' => e = .returned (.bool (decide (nr ≤ 9 ∧ mr ≤ 81))) ∧ Below w.heap.size w w' := fun w => light_any Ar mr cr nr 9 w hmr (by omega)
  have ka := Lib.hid (fun w h => awake25_any w h)
  have hB1 : Below w.heap.size w (w.alloc (.cells #[.int .i64 nr, .slice Ar mr cr] 24)) := (Below.refl _ w).alloc (Nat.le_refl _) _
  have hlt : w.heap.size < (w.alloc (.cells #[.int .i64 nr, .slice Ar mr cr] 24)).heap.size := by simp
  by_cases hgood : m0 ≤ 500 ∧ nr ≤ 9 ∧ mr ≤ 81
  · obtain ⟨g1, g3, g4⟩ := hgood
    rw [decide_eq_true g1] at kf
    rw [decide_eq_true (⟨g3, g4⟩ : nr ≤ 9 ∧ mr ≤ 81)] at kl
    replace kf := Lib.hid kf
    replace kl := Lib.hid kl
    go_enter Tryd.func7, Tryd.ntmps7
    go_upto_region 3 with (first
      | (go_at_call 14; refine (kf.out _).mono ?_; rintro e wf ⟨rfl, hwf⟩; obtain rfl := hwf)
      | (go_at_call 28; refine (kl.out _).mono ?_; rintro e w1 ⟨rfl, hb1⟩
         have hW1 : Below w.heap.size w w1 := hB1.trans (hb1.mono (by simp))
         have bR1 := Blk.below (Blk.new w 24 #[.int .i64 nr, .slice Ar mr cr]) hb1 hlt)
      | fail)
    have hEr1 := hEr.below hW1 (Nat.le_refl _)
    have h01 := h0.below hW1 (Nat.le_refl _)
    have hz1 := hW1.size
    have hrl := bR1.lt
    have hArw : ∀ ad, Ar = some ad → 0 < mr → ad.block < w.heap.size := fun ad e hp => re_fresh hEr hp ad e
    clear hb1 kf kl hB1 hlt h0 hEr
    go_wp2_with fail
    refine (new_any A0 m0 c0 l w1 h01 hmc hm0).mono ?_
    rintro e w2 ⟨rfl, hd2, hb2, hs2⟩
    have hW2 : Below w.heap.size w w2 := hW1.trans (hb2.mono hz1)
    have bR2 := bR1.below hb2 hrl
    have hEr2 := hEr1.below hb2 (Nat.le_refl _)
    clear hEr1 h01 hW1 bR1 hb2
    generalize w1.heap.size = gd at *
    go_wp2_with fail
    refine (mkgraph_any gd 9 w2 hd2 (by omega)).mono ?_
    rintro e w3 ⟨n, es, A, m, c, rfl, hmcc, hr3, hf3, hsrt, hn7, hd3, hg3⟩
    have hlen : m ≤ 81 := by
      have h1 := srt_len hsrt
      have h2 := hr3.len
      have h3 : n * n ≤ 9 * 9 := Nat.mul_le_mul hn7 hn7
      omega
    have hz3 := hg3.size
    have hbg3 : Below gd w2 w3 := grown_is_below hg3 (Nat.le_refl _) (by omega)
    have hW3 : Below w.heap.size w w3 := hW2.trans (hbg3.mono (by omega))
    have bR3 := bR2.grown hg3 (by intro e; injection e with e; omega)
    have hEr3 := RE.keptG_ hEr2 hg3 (fun ad e hp h => by injection h with h; have := hArw ad e hp; omega)
    clear hEr2 hW2 bR2 hg3 hbg3 hd2
    go_upto_region 5 with fail
    have hnewb : Below w3.heap.size w3 (w3.alloc (.cells #[.int .i64 n, .slice A m c] 24)) := (Below.refl _ _).alloc (Nat.le_refl _) _
    have bG4 := Blk.new w3 24 #[.int .i64 n, .slice A m c]
    have bR4 := bR3.alloc (.cells #[.int .i64 n, .slice A m c] 24)
    have hE4 := hr3.alloc (.cells #[.int .i64 n, .slice A m c] 24)
    have hEr4 := hEr3.alloc (.cells #[.int .i64 n, .slice A m c] 24)
    have hd4 := hd3.alloc (.cells #[.int .i64 n, .slice A m c] 24)
    have hW4 := hW3.trans (hnewb.mono hW3.size)
    have hgg4 := bG4.lt
    have hgdlt := hd3.lt
    clear bR3 hr3 hEr3 hd3 hW3 hnewb
    generalize w3.alloc (.cells #[.int .i64 n, .slice A m c] 24) = w4 at *
    generalize w3.heap.size = gg at *
    obtain ⟨d0, d1⟩ := blkG bG4
    obtain ⟨d2, d3⟩ := blkG bR4
    have hrl4 := bR4.lt
    have hn1 : some gg ≠ some gd := by intro e; injection e with e; omega
    have hn2 : some w.heap.size ≠ some gd := by intro e; injection e with e; omega
    have ksp := Lib.hid (spoilt_any gd A m c n es w4.drew hd4.drew hE4.drew (by omega))
    go_region_held3 (fun w' => w'.cell? ⟨gg, 0, none⟩ = some (.int .i64 n) ∧ w'.cell? ⟨gg, 1, none⟩ = some (.slice A m c) ∧ w'.cell? ⟨w.heap.size, 0, none⟩ = some (.int .i64 nr) ∧ w'.cell? ⟨w.heap.size, 1, none⟩ = some (.slice Ar mr cr))
      ((first | (exact ⟨s0, s1, s2, s3⟩) | go_keep))
      ((first
        | (go_at_call 29; refine ksp.out.mono ?_; rintro e w5 ⟨ns, ess, As, ms, cs, rfl, hmcs, hrs, hms, hns, hfs, hds, hgs⟩
           have hgs' : w4.grownBy w5 (some gd) := grown_trans (grown_drew (World.grownBy.refl _ _)) hgs
           have s0 : w5.cell? ⟨gg, 0, none⟩ = some (.int .i64 n) := (hgs'.block_cell ⟨gg, 0, none⟩ hgg4 hn1).trans d0
           have s1 : w5.cell? ⟨gg, 1, none⟩ = some (.slice A m c) := (hgs'.block_cell ⟨gg, 1, none⟩ hgg4 hn1).trans d1
           have s2 : w5.cell? ⟨w.heap.size, 0, none⟩ = some (.int .i64 nr) := (hgs'.block_cell ⟨w.heap.size, 0, none⟩ hrl4 hn2).trans d2
           have s3 : w5.cell? ⟨w.heap.size, 1, none⟩ = some (.slice Ar mr cr) := (hgs'.block_cell ⟨w.heap.size, 1, none⟩ hrl4 hn2).trans d3)
        | fail))
    have hgl : gd < w5.heap.size := by have := hgs'.size; omega
    have hGL0 : GL3 (w5.alloc (.cells #[.int .i64 n, .slice A m c, .int .i64 nr, .slice Ar mr cr, .int .i64 ns, .slice As ms cs] 24)) w5.heap.size gd := by
      have hBk := Blk.new w5 24 #[.int .i64 n, .slice A m c, .int .i64 nr, .slice Ar mr cr, .int .i64 ns, .slice As ms cs]
      have hE5 := RE.keptG_ hE4 hgs' (fun ad e hp h => by injection h with h; have := hf3 ad e; omega)
      have hEr5 := RE.keptG_ hEr4 hgs' (fun ad e hp h => by injection h with h; have := hArw ad e hp; omega)
      intro j hj
      have hjj : j = 0 ∨ j = 1 ∨ j = 2 := by omega
      rcases hjj with rfl | rfl | rfl
      · exact ⟨n, A, m, c, es, hBk.cell 0, hBk.cell 1, hE5.alloc _, by omega, fun ad e hp h => by have := hf3 ad e; omega⟩
      · exact ⟨nr, Ar, mr, cr, er, hBk.cell 2, hBk.cell 3, hEr5.alloc _, by omega, fun ad e hp h => by have := hArw ad e hp; omega⟩
      · exact ⟨ns, As, ms, cs, ess, hBk.cell 4, hBk.cell 5, hrs.alloc _, by omega, fun ad e hp h => by have := hfs ad e; have h2 : w4.drew.heap.size = w4.heap.size := rfl; omega⟩
    have hd5 := hds.alloc (.cells #[.int .i64 n, .slice A m c, .int .i64 nr, .slice Ar mr cr, .int .i64 ns, .slice As ms cs] 24)
    have hW5 : Below w.heap.size w (w5.alloc (.cells #[.int .i64 n, .slice A m c, .int .i64 nr, .slice Ar mr cr, .int .i64 ns, .slice As ms cs] 24)) := (hW4.trans (grown_is_below hgs' (by omega) hW4.size)).alloc (by have := hgs'.size; have := hW4.size; omega) _
    have hgl0 : w5.heap.size < (w5.alloc (.cells #[.int .i64 n, .slice A m c, .int .i64 nr, .slice Ar mr cr, .int .i64 ns, .slice As ms cs] 24)).heap.size := by simp
    clear hE4 hEr4 hd4 hW4 bG4 bR4 d0 d1 d2 d3 s0 s1 s2 s3 hrs hds hgs hgs' ksp hn1 hn2 hf3 hfs hsrt hArw
    generalize w5.alloc (.cells #[.int .i64 n, .slice A m c, .int .i64 nr, .slice Ar mr cr, .int .i64 ns, .slice As ms cs] 24) = W0 at *
    generalize w5.heap.size = gl at *
    replace hGL0 := Lib.hid hGL0
    have hgdW : gd < W0.heap.size := by omega
    have hT0 := hT.below hW5 hT.lt
    have hTg : 0 < w.heap.size := hT.lt
    go_wp2_with fail
    go_loopw [57] (fun i wr => ∃ k0 : Nat, k0 ≤ 3 ∧ i = .int .i64 k0 ∧ Same (fun k => k = gd) W0 wr ∧ Dk wr gd) (fun i _ => 3 - (intOf i).toNat)
    case atStart => exact ⟨0, by omega, rfl, Same.refl _ _, hd5⟩
    case round =>
      obtain ⟨k0, hk0, rfl, hsm, hdk⟩ := hrel
      have hszr := hsm.size
      have hWr : Below w.heap.size w wr := hW5.trans (hsm.below (by have := hW5.size; omega) (fun k hk h => by omega))
      by_cases hlt0 : k0 < 3
      -- B1
      · have i0 : (k0 : Int) < 3 := by omega
        obtain ⟨nx, Ax, mx, cx, ex, y0, y1, hEx0, hmx, hAx⟩ := hGL0.out k0 hlt0
        have z0 := hsm.cell (p := ⟨gl, k0 * 2, none⟩) hgl0 (by simp; omega) y0
        have z1 := hsm.cell (p := ⟨gl, k0 * 2 + 1, none⟩) hgl0 (by simp; omega) y1
        have hEx := RE.same_ hEx0 hsm hAx
        have hTr := hT.below hWr hT.lt
        clear y0 y1 hEx0
        go_upto_region 8 with fail
        have hgdr : gd < wr.heap.size := by omega
        have bX := Blk.new wr 24 #[.int .i64 nx, .slice Ax mx cx]
        have hEa := hEx.alloc (.cells #[.int .i64 nx, .slice Ax mx cx] 24)
        have hda := hdk.alloc (.cells #[.int .i64 nx, .slice Ax mx cx] 24)
        have hsma := hsm.alloc (.cells #[.int .i64 nx, .slice Ax mx cx] 24)
        have hTa : Tab (wr.alloc (.cells #[.int .i64 nx, .slice Ax mx cx] 24)) := hTr.below ((Below.refl wr.heap.size wr).alloc (Nat.le_refl _) _) hTr.lt
        clear hsm hdk hEx hTr z0 z1
        generalize hWa : wr.alloc (.cells #[.int .i64 nx, .slice Ax mx cx] 24) = wa at *
        clear hWa
        have hXd : some wr.heap.size ≠ some gd := by intro e; injection e with e; omega
        go_wp2_with fail
        refine (next_any gd 6 _ hda (by omega)).mono ?_
        rintro e wn1 ⟨xv1, rfl, xa1, xb1, -, hdn, hgn⟩
        replace xb1 := xb1 (by omega)
        replace hsma := hsma.gg_ hgn
        replace bX := bX.grown hgn hXd
        replace hEa := RE.keptG_ hEa hgn (fun ad e hp h => by injection h with h; exact hAx ad e hp h.symm)
        replace hTa := Tab.grown hTa hgn (by omega)
        replace hda := hdn
        clear hdn hgn
        go_upto_region 9 with fail
        have hNL0 : NL2 (wn1.alloc (.cells #[.int .i64 SZ, .int .i64 (1 + xv1)] 3)) wn1.heap.size := by
          have hBk := Blk.new wn1 3 #[.int .i64 SZ, .int .i64 (1 + xv1)]
          intro t ht
          have htt : t = 0 ∨ t = 1 := by omega
          rcases htt with rfl | rfl
          · exact ⟨_, hBk.cell 0⟩
          · exact ⟨_, hBk.cell 1⟩
        have bX1 := bX.alloc (.cells #[.int .i64 SZ, .int .i64 (1 + xv1)] 3)
        have hE1 := hEa.alloc (.cells #[.int .i64 SZ, .int .i64 (1 + xv1)] 3)
        have hd1 := hda.alloc (.cells #[.int .i64 SZ, .int .i64 (1 + xv1)] 3)
        have hT1 : Tab (wn1.alloc (.cells #[.int .i64 SZ, .int .i64 (1 + xv1)] 3)) := hTa.below ((Below.refl wn1.heap.size wn1).alloc (Nat.le_refl _) _) hTa.lt
        have hsm1 := hsma.alloc (.cells #[.int .i64 SZ, .int .i64 (1 + xv1)] 3)
        have htl : wn1.heap.size < (wn1.alloc (.cells #[.int .i64 SZ, .int .i64 (1 + xv1)] 3)).heap.size := by simp
        have htl2 : wr.heap.size < wn1.heap.size := bX.lt
        clear bX hEa hda hTa hsma
        generalize wn1.alloc (.cells #[.int .i64 SZ, .int .i64 (1 + xv1)] 3) = W1 at *
        generalize wn1.heap.size = tl at *
        generalize wr.heap.size = bx at *
        replace hNL0 := Lib.hid hNL0
        have hxl1 := bX1.lt
        have hgd1 := hd1.lt
        clear xa1 xb1 hXd
        -- what the functions say
        have kCp := Lib.hid (fun s w hE hT => counts_any Ax mx cx nx s ex w hT hE (by omega))
        have kCr := Lib.hid (fun s w hE (hT : Tab w) => r25counts_any Ax mx cx nx s ex w hE (by omega))
        have kNp := Lib.hid (fun s w hE hT => nodes_any Ax mx cx nx s ex w hT hE (by omega))
        have kNr := Lib.hid (fun s w hE (hT : Tab w) => r25nodes_any Ax mx cx nx s ex w hE (by omega))
        have kEp := Lib.hid (fun s w hE hT => edges_any Ax mx cx nx s ex w hT hE (by omega))
        have kEr := Lib.hid (fun s w hE (hT : Tab w) => r25edges_any Ax mx cx nx s ex w hE (by omega))
        have kBp := Lib.hid (fun s w hE hT => bound_all Ax mx cx nx s ex w hT hE (by omega))
        have kBr := Lib.hid (fun s w hE (hT : Tab w) => r25bound_all Ax mx cx nx s ex w hE (by omega))
        have kAp := Lib.hid (fun w hE hT => ahead_all Ax mx cx nx ex w hT hE (by omega))
        have kAr := Lib.hid (fun w hE => r25ahead_all Ax mx cx nx ex w hE (by omega))
        have hexl : Hid (ex.length = mx) := Lib.hid hE1.len
        go_loopw [67] (fun i wr => ∃ t0 : Nat, t0 ≤ 2 ∧ i = .int .i64 t0 ∧ Below W1.heap.size W1 wr) (fun i _ => 2 - (intOf i).toNat)
        case atStart => exact ⟨0, by omega, rfl, Below.refl _ _⟩
        case round =>
          obtain ⟨t0, ht0, rfl, hb⟩ := hrel
          by_cases htl0 : t0 < 2
          · as_aux_lemma =>
            have i3 : (t0 : Int) < 2 := by omega
            obtain ⟨s, y0⟩ := hNL0.out t0 htl0
            have z0 := (hb.cell (p := ⟨tl, t0, none⟩) htl).trans y0
            clear y0
            go_upto_region 11 with fail
            clear z0
            have bX := bX1.below hb hxl1
            have hE := hE1.below hb (Nat.le_refl _)
            have hTT := hT1.below hb hT1.lt
            obtain ⟨x0, x1⟩ := blkG bX
            have kk := Lib.hid (kCp.out s _ hE hTT)
            go_wp2_with fail
            refine kk.out.mono ?_
            clear kk x0 x1
            rintro e wCp ⟨ACp, nCp, cCp, rfl, -, hrCp, hbn, -⟩
            replace bX := bX.below hbn bX.lt
            replace hE := hE.below hbn (Nat.le_refl _)
            replace hTT := hTT.below hbn hTT.lt
            replace hb := hb.trans (hbn.mono hb.size)
            clear hbn
            obtain ⟨x0, x1⟩ := blkG bX
            have kk := Lib.hid (kCr.out s _ hE hTT)
            go_wp2_with fail
            refine kk.out.mono ?_
            clear kk x0 x1
            rintro e wCr ⟨ACr, nCr, cCr, rfl, -, hrCr, hbn, -⟩
            replace hrCp := RI.below hrCp hbn (Nat.le_refl _)
            replace bX := bX.below hbn bX.lt
            replace hE := hE.below hbn (Nat.le_refl _)
            replace hTT := hTT.below hbn hTT.lt
            replace hb := hb.trans (hbn.mono hb.size)
            clear hbn
            obtain ⟨x0, x1⟩ := blkG bX
            have kk := Lib.hid (kNp.out s _ hE hTT)
            go_wp2_with fail
            refine kk.out.mono ?_
            clear kk x0 x1
            rintro e wNp ⟨ANp, nNp, cNp, rfl, -, hrNp, hbn, -⟩
            replace hrCp := RI.below hrCp hbn (Nat.le_refl _)
            replace hrCr := RI.below hrCr hbn (Nat.le_refl _)
            replace bX := bX.below hbn bX.lt
            replace hE := hE.below hbn (Nat.le_refl _)
            replace hTT := hTT.below hbn hTT.lt
            replace hb := hb.trans (hbn.mono hb.size)
            clear hbn
            obtain ⟨x0, x1⟩ := blkG bX
            have kk := Lib.hid (kNr.out s _ hE hTT)
            go_wp2_with fail
            refine kk.out.mono ?_
            clear kk x0 x1
            rintro e wNr ⟨ANr, nNr, cNr, rfl, -, hrNr, hbn, -⟩
            replace hrCp := RI.below hrCp hbn (Nat.le_refl _)
            replace hrCr := RI.below hrCr hbn (Nat.le_refl _)
            replace hrNp := RI.below hrNp hbn (Nat.le_refl _)
            replace bX := bX.below hbn bX.lt
            replace hE := hE.below hbn (Nat.le_refl _)
            replace hTT := hTT.below hbn hTT.lt
            replace hb := hb.trans (hbn.mono hb.size)
            clear hbn
            obtain ⟨x0, x1⟩ := blkG bX
            have kk := Lib.hid (kEp.out s _ hE hTT)
            go_wp2_with fail
            refine kk.out.mono ?_
            clear kk x0 x1
            rintro e wEp ⟨AEp, nEp, cEp, rfl, -, hrEp, hbn, -⟩
            replace hrCp := RI.below hrCp hbn (Nat.le_refl _)
            replace hrCr := RI.below hrCr hbn (Nat.le_refl _)
            replace hrNp := RI.below hrNp hbn (Nat.le_refl _)
            replace hrNr := RI.below hrNr hbn (Nat.le_refl _)
            replace bX := bX.below hbn bX.lt
            replace hE := hE.below hbn (Nat.le_refl _)
            replace hTT := hTT.below hbn hTT.lt
            replace hb := hb.trans (hbn.mono hb.size)
            clear hbn
            obtain ⟨x0, x1⟩ := blkG bX
            have kk := Lib.hid (kEr.out s _ hE hTT)
            go_wp2_with fail
            refine kk.out.mono ?_
            clear kk x0 x1
            rintro e wEr ⟨AEr, nEr, cEr, rfl, -, hrEr, hbn, -⟩
            replace hrCp := RI.below hrCp hbn (Nat.le_refl _)
            replace hrCr := RI.below hrCr hbn (Nat.le_refl _)
            replace hrNp := RI.below hrNp hbn (Nat.le_refl _)
            replace hrNr := RI.below hrNr hbn (Nat.le_refl _)
            replace hrEp := RI.below hrEp hbn (Nat.le_refl _)
            replace bX := bX.below hbn bX.lt
            replace hE := hE.below hbn (Nat.le_refl _)
            replace hTT := hTT.below hbn hTT.lt
            replace hb := hb.trans (hbn.mono hb.size)
            clear hbn
            obtain ⟨x0, x1⟩ := blkG bX
            have kk := Lib.hid (kBp.out s _ hE hTT)
            go_wp2_with fail
            refine kk.out.mono ?_
            clear kk x0 x1
            rintro e wBp ⟨NBp, rfl, hNBp, hbn⟩
            replace hrCp := RI.below hrCp hbn (Nat.le_refl _)
            replace hrCr := RI.below hrCr hbn (Nat.le_refl _)
            replace hrNp := RI.below hrNp hbn (Nat.le_refl _)
            replace hrNr := RI.below hrNr hbn (Nat.le_refl _)
            replace hrEp := RI.below hrEp hbn (Nat.le_refl _)
            replace hrEr := RI.below hrEr hbn (Nat.le_refl _)
            replace bX := bX.below hbn bX.lt
            replace hE := hE.below hbn (Nat.le_refl _)
            replace hTT := hTT.below hbn hTT.lt
            replace hb := hb.trans (hbn.mono hb.size)
            clear hbn
            obtain ⟨x0, x1⟩ := blkG bX
            have kk := Lib.hid (kBr.out s _ hE hTT)
            go_wp2_with fail
            refine kk.out.mono ?_
            clear kk x0 x1
            rintro e wBr ⟨NBr, rfl, hNBr, hbn⟩
            replace hrCp := RI.below hrCp hbn (Nat.le_refl _)
            replace hrCr := RI.below hrCr hbn (Nat.le_refl _)
            replace hrNp := RI.below hrNp hbn (Nat.le_refl _)
            replace hrNr := RI.below hrNr hbn (Nat.le_refl _)
            replace hrEp := RI.below hrEp hbn (Nat.le_refl _)
            replace hrEr := RI.below hrEr hbn (Nat.le_refl _)
            replace bX := bX.below hbn bX.lt
            replace hE := hE.below hbn (Nat.le_refl _)
            replace hTT := hTT.below hbn hTT.lt
            replace hb := hb.trans (hbn.mono hb.size)
            clear hbn
            obtain rfl := isBnd_unique hNBp hNBr
            have lCp : nCp ≤ 64 := by have := hrCp.len; have := counts_len (n := nx) (most := s) (es := ex); omega
            have lCr : nCr ≤ 64 := by have := hrCr.len; have := counts_len (n := nx) (most := s) (es := ex); omega
            have lNp : nNp ≤ 64 := by have := hrNp.len; have := nodes_len (n := nx) (k := s) (es := ex); omega
            have lNr : nNr ≤ 64 := by have := hrNr.len; have := nodes_len (n := nx) (k := s) (es := ex); omega
            have lEp : nEp ≤ 100 := by have := hrEp.len; have := edges_len (n := nx) (k := s) (es := ex); have := hexl.out; omega
            have lEr : nEr ≤ 100 := by have := hrEr.len; have := edges_len (n := nx) (k := s) (es := ex); have := hexl.out; omega
            have kc1 := fun w' (hb : Below wBr.heap.size wBr w') => cmp_eq ACp ACr nCp cCp nCr cCr _ w' (RI.below hrCp hb (Nat.le_refl _)) (by omega) (RI.below hrCr hb (Nat.le_refl _)) (by omega)
            have kc2 := fun w' (hb : Below wBr.heap.size wBr w') => cmp_eq ANp ANr nNp cNp nNr cNr _ w' (RI.below hrNp hb (Nat.le_refl _)) (by omega) (RI.below hrNr hb (Nat.le_refl _)) (by omega)
            have kc3 := fun w' (hb : Below wBr.heap.size wBr w') => cmp_eq AEp AEr nEp cEp nEr cEr _ w' (RI.below hrEp hb (Nat.le_refl _)) (by omega) (RI.below hrEr hb (Nat.le_refl _)) (by omega)
            replace kc1 := Lib.hid kc1
            replace kc2 := Lib.hid kc2
            replace kc3 := Lib.hid kc3
            clear hNBp hNBr hrCp hrCr hrNp hrNr hrEp hrEr bX hE hTT lCp lCr lNp lNr lEp lEr
            generalize errC nx ex s 1 = E1 at *
            generalize errC nx ex s 2 = E2 at *
            go_wp2_with (first
              | (go_at_call 23; with_reducible refine (kc1.out _ (by first | exact Below.refl _ _ | exact below_drewN (Below.refl _ _) _ | exact below_drewN (below_drewN (Below.refl _ _) _) _)).mono ?_; rintro e wx ⟨rfl, q1, rfl⟩)
              | (go_at_call 23; with_reducible refine (kc2.out _ (by first | exact Below.refl _ _ | exact below_drewN (Below.refl _ _) _ | exact below_drewN (below_drewN (Below.refl _ _) _) _)).mono ?_; rintro e wx ⟨rfl, q2, rfl⟩)
              | (go_at_call 23; with_reducible refine (kc3.out _ (by first | exact Below.refl _ _ | exact below_drewN (Below.refl _ _) _ | exact below_drewN (below_drewN (Below.refl _ _) _) _)).mono ?_; rintro e wx ⟨rfl, q3, rfl⟩)
              | fail)
            go_roundw
            case rel => exact ⟨t0 + 1, by omega, by go_num, by first | exact below_drewN hb _ | exact below_drewN (below_drewN (below_drewN hb _) _) _⟩
            case measure => simp [intOf]; omega
          · have i3 : ¬ (t0 : Int) < 2 := by omega
            have bX := bX1.below hb hxl1
            have hE := hE1.below hb (Nat.le_refl _)
            have hTT := hT1.below hb hT1.lt
            have hdd := hd1.below hb hd1.lt
            obtain ⟨x0, x1⟩ := blkG bX
            have kk := Lib.hid (kAp.out wr hE hTT)
            go_wp2_with fail
            refine kk.out.mono ?_
            clear kk x0 x1
            rintro e wp ⟨Ap, np, cp, Lp, rfl, hSp, hnp, hAp, hbn⟩
            replace bX := bX.below hbn bX.lt
            replace hE := hE.below hbn (Nat.le_refl _)
            replace hdd := hdd.below hbn hdd.lt
            replace hb := hb.trans (hbn.mono hb.size)
            clear hbn hTT
            obtain ⟨x0, x1⟩ := blkG bX
            have kk := Lib.hid (kAr.out wp hE)
            go_wp2_with fail
            refine kk.out.mono ?_
            clear kk x0 x1
            rintro e wq ⟨Aq, nq, cq, Lq, rfl, hSq, hnq, hAq, hbn⟩
            replace hSp := hSp.below hbn (Nat.le_refl _)
            replace hdd := hdd.below hbn hdd.lt
            replace hb := hb.trans (hbn.mono hb.size)
            obtain rfl := isAhd_unique hAp hAq
            obtain rfl : np = nq := hSp.1.symm.trans hSq.1
            have ks := Lib.hid (sameall_self Ap Aq np cp cq _ wq hSp hSq (by omega))
            have hsmE : Same (fun k => k = gd) W0 wq := hsm1.bb_ hb (Nat.le_refl _)
            replace hsmE := Lib.hid hsmE
            replace hdd := Lib.hid hdd
            clear hbn bX hE hSp hSq hAp hAq kCp kCr kNp kNr kEp kEr kBp kBr kAp kAr
            generalize chkG nx ex = E1 at *
            go_wp2_with (first
              | (go_at_call 37; with_reducible refine ks.out.mono ?_; rintro e wx ⟨rfl, q1, rfl⟩)
              | fail)
            go_roundw
            case rel => exact ⟨k0 + 1, by omega, by go_num, hsmE.out.drewN _, hdd.out.drewN _⟩
            case measure => simp [intOf]; omega
      -- E1
      -- B2
      · as_aux_lemma =>
          have i0 : ¬ (k0 : Int) < 3 := by omega
          have ka2 := Lib.hid (fun w' (hb : Below wr.heap.size wr w') => ka.out w' ((hT.below hWr hT.lt).below hb (by have := hWr.size; omega)))
          have m1 := Lib.hid (fun w => mkmod_any NN 70 w (by omega) (by omega))
          have m2 := Lib.hid (fun w => mkmod_any KK 40 w (by omega) (by omega))
          have j1 : IntKind.i64.wrap (NN % 70 - 2) = NN % 70 - 2 := IntWalk.i64_in _ ⟨by omega, by omega⟩
          have j2 : IntKind.i64.wrap (KK % 40 - 2) = KK % 40 - 2 := IntWalk.i64_in _ ⟨by omega, by omega⟩
          have c1 := Lib.hid (fun n k w => choose_any n k w)
          have c2 := Lib.hid (fun n k w => r25choose_any n k w)
          generalize hNM : NN % 70 = NM at *
          generalize hKM : KK % 40 = KM at *
          have e1 : (chZ NN KK == chZ NN KK) = true := by simp
          replace hNM := Lib.hid hNM
          replace hKM := Lib.hid hKM
          go_wp2_with (first
            | (go_at_call 12; with_reducible refine (c1.out NN KK _).mono ?_; rintro e wz1 ⟨rfl, hz1⟩)
            | (go_at_call 38; with_reducible refine (c2.out NN KK _).mono ?_; rintro e wz2 ⟨rfl, hz2⟩)
            | (go_at_call 39; with_reducible refine (m1.out _).mono ?_; rintro e wz3 ⟨rfl, hz3⟩; obtain rfl := hz3)
            | (go_at_call 39; with_reducible refine (m2.out _).mono ?_; rintro e wz3 ⟨rfl, hz3⟩; obtain rfl := hz3)
            | (go_at_call 12; with_reducible refine (c1.out (NM - 2) (KM - 2) _).mono ?_; rintro e wz4 ⟨rfl, hz4⟩)
            | (go_at_call 38; with_reducible refine (c2.out (NM - 2) (KM - 2) _).mono ?_; rintro e wz5 ⟨rfl, hz5⟩
               have hzz : Below wr.heap.size wr wz5 := (((hz1.trans (hz2.mono hz1.size)).trans (hz4.mono (by have := hz1.size; have := hz2.size; omega)))).trans (hz5.mono (by have := hz1.size; have := hz2.size; have := hz4.size; omega))
               have ka3 := Lib.hid (ka2.out _ hzz))
            | (go_at_call 13; with_reducible refine ka3.out.mono ?_; rintro e wz6 ⟨rfl, hz6⟩)
            | fail)
          go_ret
          exact ⟨rfl, (hWr.trans (hzz.mono hWr.size)).trans (hz6.mono (by have := hWr.size; have := hzz.size; omega))⟩
      -- E2
  -- B3
  · as_aux_lemma =>
      have hcase : (decide (m0 ≤ 500) = false) ∨ (m0 ≤ 500 ∧ decide (nr ≤ 9 ∧ mr ≤ 81) = false) := by
        by_cases g1 : m0 ≤ 500
        · exact .inr ⟨g1, decide_eq_false (fun h => hgood ⟨g1, h.1, h.2⟩)⟩
        · exact .inl (decide_eq_false g1)
      clear hgood
      rcases hcase with g1 | ⟨g1, g3⟩
      case' inl => rw [g1] at kf
      case' inr =>
        rw [decide_eq_true g1] at kf
        rw [g3] at kl
      all_goals
        replace kf := Lib.hid kf
        replace kl := Lib.hid kl
        clear g1
        go_enter Tryd.func7, Tryd.ntmps7
        go_wp2_with (first
          | (go_at_call 14; refine (kf.out _).mono ?_; rintro e wf ⟨rfl, hwf⟩; obtain rfl := hwf)
          | (go_at_call 28; refine (kl.out _).mono ?_; rintro e w1 ⟨rfl, hb1⟩
             have hW1 : Below w.heap.size w w1 := hB1.trans (hb1.mono (by simp))
             have ka1 := Lib.hid (ka.out w1 (hT.below hW1 hT.lt)))
          | (go_at_call 13; refine ka1.out.mono ?_; rintro e w2 ⟨rfl, hb2⟩
             have hWz : Below w.heap.size w w2 := hW1.trans (hb2.mono hW1.size))
          | (go_at_call 13; refine (ka.out _ (hT.below hB1 hT.lt)).mono ?_; rintro e w2 ⟨rfl, hb2⟩
             have hWz : Below w.heap.size w w2 := hB1.trans (hb2.mono (by simp)))
          | fail)
        go_ret
        exact ⟨rfl, hWz⟩
  -- E3
end Go.Proofs.YtknlmgcbdcepnaaDoor.Pl
