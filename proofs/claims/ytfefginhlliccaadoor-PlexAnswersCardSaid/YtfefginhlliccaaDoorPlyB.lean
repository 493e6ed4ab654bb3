/- Printed by merge.py from PlyA, PlyB. -/
import Derived.Test.YtfefginhlliccaaDoorPlxZ
import Derived.Test.YtfefginhlliccaaDoorPlxH
import Derived.Test.YtfefginhlliccaaDoorSpoY
/- Reference 28: Same; small facts for the law PlexAnswers. -/
set_option linter.unusedVariables false
set_option linter.unusedSimpArgs false
namespace Go.Proofs.YtfefginhlliccaaDoor.Pl
open Go.RowKit Go.Shelf CoBit CoCli Go.Proofs.YtfefginhlliccaaDoor

set_option maxHeartbeats 1000000 in
theorem r28same_any (A A' : Option Addr) (n c n' c' : Nat) (L : List (List Int)) (w : World) (h : RL IE w A n L) (h' : RL IE w A' n' L) (hn : n ≤ 1000000000) (hs : ∀ x ∈ L, x.length ≤ 1099511627776) :
    Calls Tryd.prog 36 #[.slice A n c, .slice A' n' c'] w fun e w' => e = .returned (.bool true) ∧ Below w.heap.size w w' := by
  have k := r24same_any A A' n c n' c' L L w h h' hn (by have := h.len; have := h'.len; omega) hs hs
  rw [decide_eq_true rfl] at k
  replace k := Lib.hid k
  go_enter Tryd.func36, Tryd.ntmps36
  go_wp2_with (first | (go_at_call 23; refine k.out.mono ?_; rintro e w1 ⟨rfl, hb1⟩) | fail)
  go_ret
  exact ⟨rfl, hb1⟩
theorem allL_small {n : Int} {es : List (Int × Int)} {k least most : Int} (hn8 : chkG n es = 0 → n ≤ 8) : (allL n es k least most).length ≤ 256 ∧ ∀ x ∈ allL n es k least most, x.length ≤ 64 := by
  unfold allL
  by_cases h : errA n es k least most = 0
  · rw [if_pos h]
    have hp : errP n es k least = 0 := by
      unfold errA at h
      by_cases hz : errP n es k least = 0
      · exact hz
      · rw [if_pos hz] at h; exact absurd h hz
    obtain ⟨z0, _⟩ := errP_zero hp
    have hn := hn8 z0
    refine ⟨?_, fun x hx => ?_⟩
    · rw [List.length_map]; exact plexs_small (by omega) _ _ _ _
    · rw [List.mem_map] at hx
      obtain ⟨S, hS, rfl⟩ := hx
      obtain ⟨a1, a2, _⟩ := mem_plexs hS
      have := len_le a1 a2
      rw [nt_length]; omega
  · rw [if_neg h]; simp
theorem nextO_small {n : Int} {es : List (Int × Int)} {k least : Int} {after : List Int} (hn8 : chkG n es = 0 → n ≤ 8) : (((nextO n es k least after).map nt).getD []).length ≤ 64 := by
  unfold nextO
  by_cases h : errP n es k least = 0
  · rw [if_pos h]
    have hn := hn8 (errP_zero h).1
    cases hh : (plexs n.toNat es k.toNat least.toNat after).head? with
    | none => simp
    | some S =>
      have hS : S ∈ plexs n.toNat es k.toNat least.toNat after := List.mem_of_mem_head? hh
      obtain ⟨a1, a2, _⟩ := mem_plexs hS
      have := len_le a1 a2
      simp only [Option.map_some, Option.getD_some]
      rw [nt_length]; omega
  · rw [if_neg h]; simp
theorem redL_unique {n : Int} {es : List (Int × Int)} {k least : Int} {a b : List Int} (ha : RedL n es k least a) (hb : RedL n es k least b) : a = b := by
  by_cases h : errP n es k least = 0
  · exact coreL_unique (ha.1 h) (hb.1 h)
  · rw [ha.2 h, hb.2 h]
theorem redL_small {n : Int} {es : List (Int × Int)} {k least : Int} {a : List Int} (hn8 : chkG n es = 0 → n ≤ 8) (ha : RedL n es k least a) : a.length ≤ 64 := by
  by_cases h : errP n es k least = 0
  · obtain ⟨z0, _⟩ := errP_zero h
    have h1 := ((ha.1 h).1 z0).1
    obtain ⟨N, rfl⟩ := Int.eq_ofNat_of_zero_le (chkG_zero z0).1
    have := vld_length h1
    have := (chkG_zero z0).2.1
    omega
  · rw [ha.2 h]; simp
theorem Same.gg {gd : Nat} {W W' W2 : World} (h : Same (fun k => k = gd) W W') (h2 : W'.grownBy W2 (some gd)) : Same (fun k => k = gd) W W2 := h.trans (Same.of_grown h2) (fun k _ e => by injection e with e; exact e.symm)
theorem Same.bb {gd : Nat} {W W' W2 : World} {b : Nat} (h : Same (fun k => k = gd) W W') (h2 : Below b W' W2) (hb : W'.heap.size ≤ b) : Same (fun k => k = gd) W W2 := h.trans (Same.of_below h2 hb (fun k => k = gd)) (fun _ _ e => e)
end Go.Proofs.YtfefginhlliccaaDoor.Pl

/- The law PlexAnswers. -/
set_option linter.unusedVariables false
set_option linter.unusedSimpArgs false
namespace Go.Proofs.YtfefginhlliccaaDoor.Pl
open Go.RowKit Go.Shelf CoBit CoCli Go.Proofs.YtfefginhlliccaaDoor

/-- Three graphs in a block. -/
def GL3 (w : World) (gl gd : Nat) : Prop := ∀ j, j < 3 → ∃ (n : Int) (A : Option Addr) (m c : Nat) (es : List (Int × Int)), w.cell? ⟨gl, j * 2, none⟩ = some (.int .i64 n) ∧ w.cell? ⟨gl, j * 2 + 1, none⟩ = some (.slice A m c) ∧ RE w A m es ∧ m ≤ 60 ∧ ∀ ad, A = some ad → 0 < m → ad.block ≠ gd
/-- Three triples of numbers. -/
def TL3 (w : World) (tl : Nat) : Prop := ∀ t, t < 3 → ∃ a b c : Int, w.cell? ⟨tl, t * 3, none⟩ = some (.int .i64 a) ∧ w.cell? ⟨tl, t * 3 + 1, none⟩ = some (.int .i64 b) ∧ w.cell? ⟨tl, t * 3 + 2, none⟩ = some (.int .i64 c)
/-- Three lists. -/
def SL3 (w : World) (sl : Nat) : Prop := ∀ s, s < 3 → ∃ (A : Option Addr) (n c : Nat) (xs : List Int), w.cell? ⟨sl, s, none⟩ = some (.slice A n c) ∧ n ≤ c ∧ n ≤ 64 ∧ RI w A n xs

attribute [local irreducible] wpQuiet in
set_option maxRecDepth 100000 in
set_option maxHeartbeats 40000000 in
theorem lawAnswers28_any (A0 : Option Addr) (m0 c0 : Nat) (l : List Int) (A1 : Option Addr) (m1 c1 : Nat) (xs1 : List Int) (nr : Int) (Ar : Option Addr) (mr cr : Nat) (er : List (Int × Int)) (K LS MO : Int) (w : World) (hT : Tab w) (h0 : RI w A0 m0 l) (hmc : m0 ≤ c0) (hm0 : m0 ≤ 1152921504606846976) (h1 : RI w A1 m1 xs1) (hmc1 : m1 ≤ c1) (hEr : RE w Ar mr er) (hmr : mr ≤ 1152921504606846976) :
    Calls Tryd.prog 6 #[.slice A0 m0 c0, .slice A1 m1 c1, .agg #[.int .i64 nr, .slice Ar mr cr], .int .i64 K, .int .i64 LS, .int .i64 MO] w fun e w' => e = .returned (.bool true) ∧ Below w.heap.size w w' := by
  have kf := fun w => few_any A0 m0 c0 w
  have kl : ∀ w, Calls Tryd.prog 26 #[.agg #[.int .i64 nr, .slice Ar mr cr], .int .i64 7] w fun e w' => e = .returned (.bool (decide (nr ≤ 7 ∧ mr ≤ 49))) ∧ Below w.heap.size w w' := fun w => light_any Ar mr cr nr 7 w hmr (by omega)
  have ka := Lib.hid (fun w h => awake28_any w h)
  have hB1 : Below w.heap.size w (w.alloc (.cells #[.int .i64 nr, .slice Ar mr cr] 27)) := (Below.refl _ w).alloc (Nat.le_refl _) _
  have hlt : w.heap.size < (w.alloc (.cells #[.int .i64 nr, .slice Ar mr cr] 27)).heap.size := by simp
  by_cases hgood : m0 ≤ 500 ∧ m1 ≤ 20 ∧ nr ≤ 7 ∧ mr ≤ 49
  · obtain ⟨g1, g2, g3, g4⟩ := hgood
    rw [decide_eq_true g1] at kf
    rw [decide_eq_true (⟨g3, g4⟩ : nr ≤ 7 ∧ mr ≤ 49)] at kl
    have i20 : decide (20 < (m1 : Int)) = false := by simp; omega
    replace kf := Lib.hid kf
    replace kl := Lib.hid kl
    go_enter Tryd.func6, Tryd.ntmps6
    go_upto_region 3 with (first
      | (go_at_call 8; refine (kf.out _).mono ?_; rintro e wf ⟨rfl, hwf⟩; obtain rfl := hwf)
      | (go_at_call 26; refine (kl.out _).mono ?_; rintro e w1 ⟨rfl, hb1⟩
         have hW1 : Below w.heap.size w w1 := hB1.trans (hb1.mono (by simp))
         have bR1 := Blk.below (Blk.new w 27 #[.int .i64 nr, .slice Ar mr cr]) hb1 hlt)
      | fail)
    have hEr1 := hEr.below hW1 (Nat.le_refl _)
    have h01 := h0.below hW1 (Nat.le_refl _)
    have h11 := h1.below hW1 (Nat.le_refl _)
    have hT1 := hT.below hW1 hT.lt
    have hz1 := hW1.size
    have hrl := bR1.lt
    have hA1w : ∀ ad, A1 = some ad → 0 < m1 → ad.block < w.heap.size := fun ad e hp => RI.block_lt' h1 hp ad e
    have hArw : ∀ ad, Ar = some ad → 0 < mr → ad.block < w.heap.size := fun ad e hp => RE.block_lt hEr hp ad e
    clear hb1 kf kl hB1 hlt h0 h1 hEr
    go_wp2_with fail
    refine (new_any A0 m0 c0 l w1 h01 hmc hm0).mono ?_
    rintro e w2 ⟨rfl, hd2, hb2, hs2⟩
    have hW2 : Below w.heap.size w w2 := hW1.trans (hb2.mono hz1)
    have bR2 := bR1.below hb2 hrl
    have hEr2 := hEr1.below hb2 (Nat.le_refl _)
    have h12 := h11.below hb2 (Nat.le_refl _)
    clear hEr1 h01 h11 hT1 hW1 bR1 hb2
    generalize w1.heap.size = gd at *
    go_wp2_with fail
    refine (mkgraph_any gd 7 w2 hd2 (by omega)).mono ?_
    rintro e w3 ⟨n, es, A, m, c, rfl, hmcc, hr3, hf3, hsrt, hn7, hd3, hg3⟩
    have hlen : m ≤ 49 := by
      have h1 := srt_len hsrt
      have h2 := hr3.len
      have h3 : n * n ≤ 7 * 7 := Nat.mul_le_mul hn7 hn7
      omega
    have hz3 := hg3.size
    have hbg3 : Below gd w2 w3 := grown_is_below hg3 (Nat.le_refl _) (by omega)
    have hW3 : Below w.heap.size w w3 := hW2.trans (hbg3.mono (by omega))
    have bR3 := bR2.grown hg3 (by intro e; injection e with e; omega)
    have hEr3 := RE.keptG hEr2 hg3 (fun ad e hp h => by injection h with h; have := hArw ad e hp; omega)
    have h13 := RI.keptG h12 hg3 (fun ad e hp h => by injection h with h; have := hA1w ad e hp; omega)
    clear hEr2 h12 hW2 bR2 hg3 hbg3 hd2
    go_upto_region 5 with fail
    have hnewb : Below w3.heap.size w3 (w3.alloc (.cells #[.int .i64 n, .slice A m c] 27)) := (Below.refl _ _).alloc (Nat.le_refl _) _
    have bG4 := Blk.new w3 27 #[.int .i64 n, .slice A m c]
    have bR4 := bR3.alloc (.cells #[.int .i64 n, .slice A m c] 27)
    have hE4 := hr3.alloc (.cells #[.int .i64 n, .slice A m c] 27)
    have hEr4 := hEr3.alloc (.cells #[.int .i64 n, .slice A m c] 27)
    have h14 := h13.alloc (.cells #[.int .i64 n, .slice A m c] 27)
    have hd4 := hd3.alloc (.cells #[.int .i64 n, .slice A m c] 27)
    have hW4 := hW3.trans (hnewb.mono hW3.size)
    have hgg4 := bG4.lt
    have hgdlt := hd3.lt
    clear bR3 hr3 hEr3 h13 hd3 hW3 hnewb
    generalize w3.alloc (.cells #[.int .i64 n, .slice A m c] 27) = w4 at *
    generalize w3.heap.size = gg at *
    obtain ⟨d0, d1⟩ := blkG bG4
    obtain ⟨d2, d3⟩ := blkG bR4
    have hrl4 := bR4.lt
    have hn1 : some gg ≠ some gd := by intro e; injection e with e; omega
    have hn2 : some w.heap.size ≠ some gd := by intro e; injection e with e; omega
    have ksp := Lib.hid (spoilt_any gd A m c n es w4.drew hd4.drew hE4.drew (by omega))
    go_region_held3 (fun w' => w'.cell? ⟨gg, 0, none⟩ = some (.int .i64 n) ∧ w'.cell? ⟨gg, 1, none⟩ = some (.slice A m c) ∧ w'.cell? ⟨w.heap.size, 0, none⟩ = some (.int .i64 nr) ∧ w'.cell? ⟨w.heap.size, 1, none⟩ = some (.slice Ar mr cr))
      ((first | (exact ⟨s0, s1, s2, s3⟩) | go_keep))
      ((first
        | (go_at_call 27; refine ksp.out.mono ?_; rintro e w5 ⟨ns, ess, As, ms, cs, rfl, hmcs, hrs, hms, hns, hfs, hds, hgs⟩
           have hgs' : w4.grownBy w5 (some gd) := grown_trans (grown_drew (World.grownBy.refl _ _)) hgs
           have s0 : w5.cell? ⟨gg, 0, none⟩ = some (.int .i64 n) := (hgs'.block_cell ⟨gg, 0, none⟩ hgg4 hn1).trans d0
           have s1 : w5.cell? ⟨gg, 1, none⟩ = some (.slice A m c) := (hgs'.block_cell ⟨gg, 1, none⟩ hgg4 hn1).trans d1
           have s2 : w5.cell? ⟨w.heap.size, 0, none⟩ = some (.int .i64 nr) := (hgs'.block_cell ⟨w.heap.size, 0, none⟩ hrl4 hn2).trans d2
           have s3 : w5.cell? ⟨w.heap.size, 1, none⟩ = some (.slice Ar mr cr) := (hgs'.block_cell ⟨w.heap.size, 1, none⟩ hrl4 hn2).trans d3)
        | fail))
    have hgl : gd < w5.heap.size := by have := hgs'.size; omega
    have hGL0 : GL3 (w5.alloc (.cells #[.int .i64 n, .slice A m c, .int .i64 nr, .slice Ar mr cr, .int .i64 ns, .slice As ms cs] 27)) w5.heap.size gd := by
      have hBk := Blk.new w5 27 #[.int .i64 n, .slice A m c, .int .i64 nr, .slice Ar mr cr, .int .i64 ns, .slice As ms cs]
      have hE5 := RE.keptG hE4 hgs' (fun ad e hp h => by injection h with h; have := hf3 ad e; omega)
      have hEr5 := RE.keptG hEr4 hgs' (fun ad e hp h => by injection h with h; have := hArw ad e hp; omega)
      intro j hj
      have hjj : j = 0 ∨ j = 1 ∨ j = 2 := by omega
      rcases hjj with rfl | rfl | rfl
      · exact ⟨n, A, m, c, es, hBk.cell 0, hBk.cell 1, hE5.alloc _, by omega, fun ad e hp h => by have := hf3 ad e; omega⟩
      · exact ⟨nr, Ar, mr, cr, er, hBk.cell 2, hBk.cell 3, hEr5.alloc _, by omega, fun ad e hp h => by have := hArw ad e hp; omega⟩
      · exact ⟨ns, As, ms, cs, ess, hBk.cell 4, hBk.cell 5, hrs.alloc _, by omega, fun ad e hp h => by have := hfs ad e; have h2 : w4.drew.heap.size = w4.heap.size := rfl; omega⟩
    have h15 := (RI.keptG h14 hgs' (fun ad e hp h => by injection h with h; have := hA1w ad e hp; omega)).alloc (.cells #[.int .i64 n, .slice A m c, .int .i64 nr, .slice Ar mr cr, .int .i64 ns, .slice As ms cs] 27)
    have hd5 := hds.alloc (.cells #[.int .i64 n, .slice A m c, .int .i64 nr, .slice Ar mr cr, .int .i64 ns, .slice As ms cs] 27)
    have hW5 : Below w.heap.size w (w5.alloc (.cells #[.int .i64 n, .slice A m c, .int .i64 nr, .slice Ar mr cr, .int .i64 ns, .slice As ms cs] 27)) := (hW4.trans (grown_is_below hgs' (by omega) hW4.size)).alloc (by have := hgs'.size; have := hW4.size; omega) _
    have hgl0 : w5.heap.size < (w5.alloc (.cells #[.int .i64 n, .slice A m c, .int .i64 nr, .slice Ar mr cr, .int .i64 ns, .slice As ms cs] 27)).heap.size := by simp
    clear hE4 hEr4 h14 hd4 hW4 bG4 bR4 d0 d1 d2 d3 s0 s1 s2 s3 hrs hds hgs hgs' ksp hn1 hn2 hf3 hfs hsrt hArw
    generalize w5.alloc (.cells #[.int .i64 n, .slice A m c, .int .i64 nr, .slice Ar mr cr, .int .i64 ns, .slice As ms cs] 27) = W0 at *
    generalize w5.heap.size = gl at *
    replace hGL0 := Lib.hid hGL0
    have hgdW : gd < W0.heap.size := by omega
    have hA1d : ∀ ad, A1 = some ad → 0 < m1 → ¬ (fun k => k = gd) ad.block := fun ad e hp h => by have := hA1w ad e hp; simp at h; omega
    have hT0 := hT.below hW5 hT.lt
    have hTg : 0 < w.heap.size := hT.lt
    go_wp2_with fail
    go_loopw [60] (fun i wr => ∃ k0 : Nat, k0 ≤ 3 ∧ i = .int .i64 k0 ∧ Same (fun k => k = gd) W0 wr ∧ Dk wr gd) (fun i _ => 3 - (intOf i).toNat)
    case atStart => exact ⟨0, by omega, rfl, Same.refl _ _, hd5⟩
    case round =>
      obtain ⟨k0, hk0, rfl, hsm, hdk⟩ := hrel
      have hszr := hsm.size
      have hWr : Below w.heap.size w wr := hW5.trans (hsm.below (by have := hW5.size; omega) (fun k hk h => by omega))
      by_cases hlt0 : k0 < 3
      · have i0 : (k0 : Int) < 3 := by omega
        obtain ⟨nx, Ax, mx, cx, ex, y0, y1, hEx0, hmx, hAx⟩ := hGL0.out k0 hlt0
        have z0 := hsm.cell (p := ⟨gl, k0 * 2, none⟩) hgl0 (by simp; omega) y0
        have z1 := hsm.cell (p := ⟨gl, k0 * 2 + 1, none⟩) hgl0 (by simp; omega) y1
        have hEx := RE.same hEx0 hsm hAx
        have h1r := hsm.ri h15 hA1d
        have hTr := hT.below hWr hT.lt
        clear y0 y1 hEx0
        go_upto_region 8 with fail
        have hgdr : gd < wr.heap.size := by omega
        have hAxl : ∀ ad, Ax = some ad → 0 < mx → ad.block < wr.heap.size := fun ad e hp => RE.block_lt hEx hp ad e
        have hA1l : ∀ ad, A1 = some ad → 0 < m1 → ad.block < wr.heap.size := fun ad e hp => RI.block_lt' h1r hp ad e
        have bX := Blk.new wr 27 #[.int .i64 nx, .slice Ax mx cx]
        have hEa := hEx.alloc (.cells #[.int .i64 nx, .slice Ax mx cx] 27)
        have h1a := h1r.alloc (.cells #[.int .i64 nx, .slice Ax mx cx] 27)
        have hda := hdk.alloc (.cells #[.int .i64 nx, .slice Ax mx cx] 27)
        have hsma := hsm.alloc (.cells #[.int .i64 nx, .slice Ax mx cx] 27)
        have hTa : Tab (wr.alloc (.cells #[.int .i64 nx, .slice Ax mx cx] 27)) := hTr.below ((Below.refl wr.heap.size wr).alloc (Nat.le_refl _) _) hTr.lt
        have hxl := bX.lt
        clear hsm hdk hEx h1r hTr z0 z1
        have kck := fun w h => rcheck_any Ax mx cx nx ex w h (by omega)
        generalize hWa : wr.alloc (.cells #[.int .i64 nx, .slice Ax mx cx] 27) = wa at *
        clear hWa
        obtain ⟨x0, x1⟩ := blkG bX
        go_cut [71] (fun q wx => q = .bool (decide (8 < nx ∧ chkG nx ex = 0)) ∧ Below wa.heap.size wa wx)
        case first =>
          as_aux_lemma =>
            have hcase : (decide (8 < nx) = false ∧ Hid (decide (8 < nx ∧ chkG nx ex = 0) = false)) ∨ (decide (8 < nx) = true ∧ chkG nx ex = 0 ∧ Hid (decide (8 < nx ∧ chkG nx ex = 0) = true)) ∨ (decide (8 < nx) = true ∧ (chkG nx ex == 0) = false ∧ Hid (decide (8 < nx ∧ chkG nx ex = 0) = false)) := by
              by_cases h8 : 8 < nx
              · by_cases hc : chkG nx ex = 0
                · exact .inr (.inl ⟨decide_eq_true h8, hc, Lib.hid (decide_eq_true ⟨h8, hc⟩)⟩)
                · exact .inr (.inr ⟨decide_eq_true h8, by simpa using hc, Lib.hid (decide_eq_false (fun h => hc h.2))⟩)
              · exact .inl ⟨decide_eq_false h8, Lib.hid (decide_eq_false (fun h => h8 h.1))⟩
            generalize decide (8 < nx ∧ chkG nx ex = 0) = B at *
            rcases hcase with ⟨h8, hf⟩ | ⟨h8, hc, hf⟩ | ⟨h8, hc, hf⟩
            · go_wp2_with fail
              go_meet
              case rel => exact ⟨congrArg Value.bool hf.out.symm, Below.refl _ _⟩
            · rw [hc] at kck
              replace kck := Lib.hid kck
              go_wp2_with (first | (go_at_call 28; refine (kck.out _ hEa).mono ?_; rintro e wb ⟨rfl, hbb⟩) | fail)
              go_meet
              case rel => exact ⟨congrArg Value.bool hf.out.symm, hbb⟩
            · generalize chkG nx ex = zc at *
              replace kck := Lib.hid kck
              go_wp2_with (first | (go_at_call 28; refine (kck.out _ hEa).mono ?_; rintro e wb ⟨rfl, hbb⟩) | fail)
              go_meet
              case rel => exact ⟨congrArg Value.bool hf.out.symm, hbb⟩
        case rest =>
          obtain ⟨hq, hbb⟩ := hcut
          replace bX := bX.below hbb hxl
          replace hEa := hEa.below hbb (Nat.le_refl _)
          replace h1a := h1a.below hbb (Nat.le_refl _)
          replace hda := hda.below hbb (by omega)
          replace hsma := hsma.bb hbb (Nat.le_refl _)
          replace hTa := hTa.below hbb hTa.lt
          replace hxl := bX.lt
          clear x0 x1 hbb kck
          by_cases hgo : 8 < nx ∧ chkG nx ex = 0
          · rw [decide_eq_true hgo] at hq
            subst hq
            clear hgo
            go_wp2_with fail
            go_roundw
            case rel => exact ⟨k0 + 1, by omega, by go_num, hsma, hda⟩
            case measure => simp [intOf]; omega
          rw [decide_eq_false hgo] at hq
          subst hq
          have hn8 : Hid (chkG nx ex = 0 → nx ≤ 8) := Lib.hid (fun h => by
            rcases Int.lt_or_le 8 nx with h8 | h8
            · exact absurd ⟨h8, h⟩ hgo
            · exact h8)
          clear hgo
          have hXd : some wr.heap.size ≠ some gd := by intro e; injection e with e; omega
          go_wp2_with fail
          refine (next_any gd 3 _ hda (by omega)).mono ?_
          rintro e wn1 ⟨xv1, rfl, xa1, xb1, -, hdn, hgn⟩
          replace xb1 := xb1 (by omega)
          replace hsma := hsma.gg hgn
          replace bX := bX.grown hgn hXd
          replace hEa := RE.keptG hEa hgn (fun ad e hp h => by injection h with h; exact hAx ad e hp h.symm)
          replace h1a := RI.keptG h1a hgn (fun ad e hp h => by injection h with h; exact hA1d ad e hp h.symm)
          replace hTa := Tab.grown hTa hgn (by omega)
          replace hda := hdn
          clear hdn hgn
          go_wp2_with fail
          refine (next_any gd 4 _ hda (by omega)).mono ?_
          rintro e wn2 ⟨xv2, rfl, xa2, xb2, -, hdn, hgn⟩
          replace xb2 := xb2 (by omega)
          replace hsma := hsma.gg hgn
          replace bX := bX.grown hgn hXd
          replace hEa := RE.keptG hEa hgn (fun ad e hp h => by injection h with h; exact hAx ad e hp h.symm)
          replace h1a := RI.keptG h1a hgn (fun ad e hp h => by injection h with h; exact hA1d ad e hp h.symm)
          replace hTa := Tab.grown hTa hgn (by omega)
          replace hda := hdn
          clear hdn hgn
          go_wp2_with fail
          refine (next_any gd 9 _ hda (by omega)).mono ?_
          rintro e wn3 ⟨xv3, rfl, xa3, xb3, -, hdn, hgn⟩
          replace xb3 := xb3 (by omega)
          replace hsma := hsma.gg hgn
          replace bX := bX.grown hgn hXd
          replace hEa := RE.keptG hEa hgn (fun ad e hp h => by injection h with h; exact hAx ad e hp h.symm)
          replace h1a := RI.keptG h1a hgn (fun ad e hp h => by injection h with h; exact hA1d ad e hp h.symm)
          replace hTa := Tab.grown hTa hgn (by omega)
          replace hda := hdn
          clear hdn hgn
          go_wp2_with fail
          refine (next_any gd 5 _ hda (by omega)).mono ?_
          rintro e wn4 ⟨xv4, rfl, xa4, xb4, -, hdn, hgn⟩
          replace xb4 := xb4 (by omega)
          replace hsma := hsma.gg hgn
          replace bX := bX.grown hgn hXd
          replace hEa := RE.keptG hEa hgn (fun ad e hp h => by injection h with h; exact hAx ad e hp h.symm)
          replace h1a := RI.keptG h1a hgn (fun ad e hp h => by injection h with h; exact hA1d ad e hp h.symm)
          replace hTa := Tab.grown hTa hgn (by omega)
          replace hda := hdn
          clear hdn hgn
          go_wp2_with fail
          refine (next_any gd 66 _ hda (by omega)).mono ?_
          rintro e wn5 ⟨xv5, rfl, xa5, xb5, -, hdn, hgn⟩
          replace xb5 := xb5 (by omega)
          replace hsma := hsma.gg hgn
          replace bX := bX.grown hgn hXd
          replace hEa := RE.keptG hEa hgn (fun ad e hp h => by injection h with h; exact hAx ad e hp h.symm)
          replace h1a := RI.keptG h1a hgn (fun ad e hp h => by injection h with h; exact hA1d ad e hp h.symm)
          replace hTa := Tab.grown hTa hgn (by omega)
          replace hda := hdn
          clear hdn hgn
          go_upto_region 10 with fail
          have hTL0 : TL3 (wn5.alloc (.cells #[.int .i64 K, .int .i64 LS, .int .i64 MO, .int .i64 (1 + xv1), .int .i64 (1 + xv2), .int .i64 xv3, .int .i64 xv4, .int .i64 xv5, .int .i64 4096] 53)) wn5.heap.size := by
            have hBk := Blk.new wn5 53 #[.int .i64 K, .int .i64 LS, .int .i64 MO, .int .i64 (1 + xv1), .int .i64 (1 + xv2), .int .i64 xv3, .int .i64 xv4, .int .i64 xv5, .int .i64 4096]
            intro t ht
            have htt : t = 0 ∨ t = 1 ∨ t = 2 := by omega
            rcases htt with rfl | rfl | rfl
            · exact ⟨_, _, _, hBk.cell 0, hBk.cell 1, hBk.cell 2⟩
            · exact ⟨_, _, _, hBk.cell 3, hBk.cell 4, hBk.cell 5⟩
            · exact ⟨_, _, _, hBk.cell 6, hBk.cell 7, hBk.cell 8⟩
          have bX1 := bX.alloc (.cells #[.int .i64 K, .int .i64 LS, .int .i64 MO, .int .i64 (1 + xv1), .int .i64 (1 + xv2), .int .i64 xv3, .int .i64 xv4, .int .i64 xv5, .int .i64 4096] 53)
          have hE1 := hEa.alloc (.cells #[.int .i64 K, .int .i64 LS, .int .i64 MO, .int .i64 (1 + xv1), .int .i64 (1 + xv2), .int .i64 xv3, .int .i64 xv4, .int .i64 xv5, .int .i64 4096] 53)
          have h1b := h1a.alloc (.cells #[.int .i64 K, .int .i64 LS, .int .i64 MO, .int .i64 (1 + xv1), .int .i64 (1 + xv2), .int .i64 xv3, .int .i64 xv4, .int .i64 xv5, .int .i64 4096] 53)
          have hd1 := hda.alloc (.cells #[.int .i64 K, .int .i64 LS, .int .i64 MO, .int .i64 (1 + xv1), .int .i64 (1 + xv2), .int .i64 xv3, .int .i64 xv4, .int .i64 xv5, .int .i64 4096] 53)
          have hT1 : Tab (wn5.alloc (.cells #[.int .i64 K, .int .i64 LS, .int .i64 MO, .int .i64 (1 + xv1), .int .i64 (1 + xv2), .int .i64 xv3, .int .i64 xv4, .int .i64 xv5, .int .i64 4096] 53)) := hTa.below ((Below.refl wn5.heap.size wn5).alloc (Nat.le_refl _) _) hTa.lt
          have hsm1 := hsma.alloc (.cells #[.int .i64 K, .int .i64 LS, .int .i64 MO, .int .i64 (1 + xv1), .int .i64 (1 + xv2), .int .i64 xv3, .int .i64 xv4, .int .i64 xv5, .int .i64 4096] 53)
          have htl : wn5.heap.size < (wn5.alloc (.cells #[.int .i64 K, .int .i64 LS, .int .i64 MO, .int .i64 (1 + xv1), .int .i64 (1 + xv2), .int .i64 xv3, .int .i64 xv4, .int .i64 xv5, .int .i64 4096] 53)).heap.size := by simp
          have htl2 : wr.heap.size < wn5.heap.size := bX.lt
          clear bX hEa h1a hda hTa hsma
          generalize wn5.alloc (.cells #[.int .i64 K, .int .i64 LS, .int .i64 MO, .int .i64 (1 + xv1), .int .i64 (1 + xv2), .int .i64 xv3, .int .i64 xv4, .int .i64 xv5, .int .i64 4096] 53) = W1 at *
          generalize wn5.heap.size = tl at *
          generalize wr.heap.size = bx at *
          replace hTL0 := Lib.hid hTL0
          have hxl1 := bX1.lt
          have hgd1 := hd1.lt
          clear xa1 xb1 xa2 xb2 xa3 xb3 xa4 xb4 xa5 xb5 hXd
          have hAx' : ∀ ad, Ax = some ad → 0 < mx → ¬ (fun k => k = gd) ad.block := fun ad e hp h => hAx ad e hp h
          -- what the functions say
          have kNx := Lib.hid (fun a b Aa na ca af w hE hT ha hna hnc => callsIn_wide.1 (next_in Ax mx cx nx ex a b Aa na ca af w hE (by omega) hT ha hna hnc))
          have kRx := Lib.hid (fun a b Aa na ca af w hE ha hna => r28next_any Ax mx cx nx ex a b Aa na ca af w hE (by omega) ha hna hn8.out)
          have kAl := Lib.hid (fun a b d w hE hT => callsIn_wide.1 (all_in Ax mx cx nx ex a b d w hE (by omega) hT))
          have kRa := Lib.hid (fun a b d w hE => r28all_any Ax mx cx nx ex a b d w hE (by omega) hn8.out)
          have kRd := Lib.hid (fun a b w hE hT => reduce_any Ax mx cx nx ex a b w hE (by omega) hT)
          have kRr := Lib.hid (fun a b w hE => r28red_any Ax mx cx nx ex a b w hE (by omega))
          have kIs := Lib.hid (fun a A2 m2 c2 xs w hE hT h2 hm2 => is_any Ax mx cx nx ex A2 m2 c2 xs a w hE (by omega) hT h2 hm2)
          have kRi := Lib.hid (fun a A2 m2 c2 xs w hE h2 hm2 => r28is_any Ax mx cx nx ex A2 m2 c2 xs a w hE (by omega) h2 hm2)
          have kMx := Lib.hid (fun a A2 m2 c2 xs w hE hT h2 hm2 => maximal_any Ax mx cx nx ex A2 m2 c2 xs a w hE (by omega) hT h2 hm2)
          have kRm := Lib.hid (fun a A2 m2 c2 xs w hE h2 hm2 => r28max_any Ax mx cx nx ex A2 m2 c2 xs a w hE (by omega) h2 hm2)
          go_loopw [92] (fun i wr => ∃ t0 : Nat, t0 ≤ 3 ∧ i = .int .i64 t0 ∧ Same (fun k => k = gd) W1 wr ∧ Dk wr gd) (fun i _ => 3 - (intOf i).toNat)
          case atStart => exact ⟨0, by omega, rfl, Same.refl _ _, hd1⟩
          case round =>
            obtain ⟨t0, ht0, rfl, hsm2, hdk2⟩ := hrel
            have hsz2 := hsm2.size
            by_cases htl0 : t0 < 3
            · have i3 : (t0 : Int) < 3 := by omega
              obtain ⟨ta, tb, tc, y0, y1, y2⟩ := hTL0.out t0 htl0
              have z0 := hsm2.cell (p := ⟨tl, t0 * 3, none⟩) htl (by simp; omega) y0
              have z1 := hsm2.cell (p := ⟨tl, t0 * 3 + 1, none⟩) htl (by simp; omega) y1
              have z2 := hsm2.cell (p := ⟨tl, t0 * 3 + 2, none⟩) htl (by simp; omega) y2
              clear y0 y1 y2
              go_upto_region 12 with fail
              have bX2 := (hsm2.blk bX1 (by omega)).alloc (.cells #[.int .i64 ta, .int .i64 tb, .int .i64 tc] 53)
              have bY2 := Blk.new wr 53 #[.int .i64 ta, .int .i64 tb, .int .i64 tc]
              have hE2 := (RE.same hE1 hsm2 hAx').alloc (.cells #[.int .i64 ta, .int .i64 tb, .int .i64 tc] 53)
              have h12 := (hsm2.ri h1b hA1d).alloc (.cells #[.int .i64 ta, .int .i64 tb, .int .i64 tc] 53)
              have hd2 := hdk2.alloc (.cells #[.int .i64 ta, .int .i64 tb, .int .i64 tc] 53)
              have hT2 : Tab (wr.alloc (.cells #[.int .i64 ta, .int .i64 tb, .int .i64 tc] 53)) := (hT1.below (hsm2.below (b := gd) (by omega) (fun k hk h => by omega)) (by omega)).alloc _
              have hsm3 := hsm2.alloc (.cells #[.int .i64 ta, .int .i64 tb, .int .i64 tc] 53)
              have hyl := bY2.lt
              clear hsm2 hdk2 z0 z1 z2
              generalize wr.alloc (.cells #[.int .i64 ta, .int .i64 tb, .int .i64 tc] 53) = w7 at *
              generalize wr.heap.size = bY at *
              go_wp2_with fail
              refine (mkset_any gd 7 w7 hd2 (by omega)).mono ?_
              rintro e w8 ⟨s9, A9, n9, c9, rfl, hn9, hv9, hr9, hf9, hd8, hg8⟩
              have hn9' : n9 ≤ 7 := by have := vld_length hv9; have := hr9.len; omega
              have hgb : some bx ≠ some gd := by intro e; injection e with e; omega
              have hgy : some bY ≠ some gd := by intro e; injection e with e; omega
              have bX3 := (bX2.grown hg8 hgb).alloc (.cells #[.slice A1 m1 c1, .slice A9 n9 c9, .slice none 0 0] 22)
              have bY3 := (bY2.grown hg8 hgy).alloc (.cells #[.slice A1 m1 c1, .slice A9 n9 c9, .slice none 0 0] 22)
              have hE3 := (RE.keptG hE2 hg8 (fun ad e hp h => by injection h with h; exact hAx ad e hp h.symm)).alloc (.cells #[.slice A1 m1 c1, .slice A9 n9 c9, .slice none 0 0] 22)
              have h13 := (RI.keptG h12 hg8 (fun ad e hp h => by injection h with h; exact hA1d ad e hp h.symm)).alloc (.cells #[.slice A1 m1 c1, .slice A9 n9 c9, .slice none 0 0] 22)
              have hd3 := hd8.alloc (.cells #[.slice A1 m1 c1, .slice A9 n9 c9, .slice none 0 0] 22)
              have hT3 : Tab (w8.alloc (.cells #[.slice A1 m1 c1, .slice A9 n9 c9, .slice none 0 0] 22)) := (Tab.grown hT2 hg8 (by omega)).alloc _
              have hsm4 := (hsm3.gg hg8).alloc (.cells #[.slice A1 m1 c1, .slice A9 n9 c9, .slice none 0 0] 22)
              have hSL : SL3 (w8.alloc (.cells #[.slice A1 m1 c1, .slice A9 n9 c9, .slice none 0 0] 22)) w8.heap.size := by
                have hBk := Blk.new w8 22 #[.slice A1 m1 c1, .slice A9 n9 c9, .slice none 0 0]
                intro q hq
                have hqq : q = 0 ∨ q = 1 ∨ q = 2 := by omega
                rcases hqq with rfl | rfl | rfl
                · exact ⟨A1, m1, c1, xs1, hBk.cell 0, hmc1, by omega, h13⟩
                · exact ⟨A9, n9, c9, s9, hBk.cell 1, hn9, by omega, hr9.alloc _⟩
                · exact ⟨none, 0, 0, [], hBk.cell 2, Nat.le_refl _, by omega, RI.none_⟩
              have hsl : w8.heap.size < (w8.alloc (.cells #[.slice A1 m1 c1, .slice A9 n9 c9, .slice none 0 0] 22)).heap.size := by simp
              clear bX2 bY2 hE2 h12 hd2 hT2 hsm3 hg8 hr9 hf9 hd8 hv9 h13
              go_upto_region 13 with fail
              generalize w8.alloc (.cells #[.slice A1 m1 c1, .slice A9 n9 c9, .slice none 0 0] 22) = W2 at *
              generalize w8.heap.size = sl at *
              replace hSL := Lib.hid hSL
              go_loopw [101] (fun i wr => ∃ q0 : Nat, q0 ≤ 3 ∧ i = .int .i64 q0 ∧ Below W2.heap.size W2 wr) (fun i _ => 3 - (intOf i).toNat)
              case atStart => exact ⟨0, by omega, rfl, Below.refl _ _⟩
              case round =>
                obtain ⟨q0, hq0, rfl, hb5⟩ := hrel
                have hgx3 := bX3.lt
                have hgy3 := bY3.lt
                by_cases hq1 : q0 < 3
                · as_aux_lemma =>
                    have i4 : (q0 : Int) < 3 := by omega
                    obtain ⟨Az, nz, cz, xz, y0, hncz, hnz, hrz0⟩ := hSL.out q0 hq1
                    have z0 := (hb5.cell (p := ⟨sl, q0, none⟩) hsl).trans y0
                    have hrz := hrz0.below hb5 (Nat.le_refl _)
                    clear y0 hrz0
                    have bX4 := bX3.below hb5 hgx3
                    have bY4 := bY3.below hb5 hgy3
                    have hE4 := hE3.below hb5 (Nat.le_refl _)
                    have hT4 := hT3.below hb5 hT3.lt
                    obtain ⟨x0, x1⟩ := blkG bX4
                    have v0 := Blk.cell bY4 0
                    have v1 := Blk.cell bY4 1
                    simp at v0 v1
                    have kn := Lib.hid (kNx.out ta tb Az nz cz xz wr hE4 hT4 hrz (by omega) hncz)
                    go_wp2_with fail
                    refine kn.out.mono ?_
                    clear kn
                    rintro e wa ⟨Aa, na, ca, rfl, hca, hra, hba⟩
                    have hgx4 := bX4.lt
                    have hgy4 := bY4.lt
                    have bX5 := bX4.below hba hgx4
                    have bY5 := bY4.below hba hgy4
                    have hE5 := hE4.below hba (Nat.le_refl _)
                    have hrz5 := hrz.below hba (Nat.le_refl _)
                    have hT5 := hT4.below hba hT4.lt
                    have kr := Lib.hid (kRx.out ta tb Az nz cz xz wa hE5 hrz5 (by omega))
                    clear x0 x1 v0 v1 bX4 bY4 hE4 hrz z0
                    obtain ⟨x0, x1⟩ := blkG bX5
                    have v0 := Blk.cell bY5 0
                    have v1 := Blk.cell bY5 1
                    simp at v0 v1
                    go_wp2_with fail
                    refine kr.out.mono ?_
                    clear kr
                    rintro e wb ⟨Ab, nb, cb, rfl, hcb, hrb, hbb⟩
                    have hgx5 := bX5.lt
                    have hgy5 := bY5.lt
                    have bX6 := bX5.below hbb hgx5
                    have bY6 := bY5.below hbb hgy5
                    have hE6 := hE5.below hbb (Nat.le_refl _)
                    have hrz6 := hrz5.below hbb (Nat.le_refl _)
                    have hT6 := hT5.below hbb hT5.lt
                    have hra6 := hra.below hbb (Nat.le_refl _)
                    have hb56 := hb5.trans ((hba.trans (hbb.mono hba.size)).mono hb5.size)
                    have hlo := nextO_small (k := ta) (least := tb) (after := xz) hn8.out
                    have hna : na ≤ 64 := by have := hra6.len; omega
                    have hnb : nb ≤ 64 := by have := hrb.len; omega
                    clear x0 x1 v0 v1 bX5 bY5 hE5 hrz5 hra hba hbb hT5 hT4
                    generalize ((nextO nx ex ta tb xz).map nt).getD [] = LO at *
                    generalize (nextO nx ex ta tb xz).isSome = ok at *
                    generalize errP nx ex ta tb = er at *
                    have hok : (ok != ok) = false := by simp
                    have her : (er != er) = false := by simp
                    have rIs := fun dd os => Calls.regrown_of (kIs.out ta Az nz cz xz _ (hE6.below (below_regrown wb dd os) (Nat.le_refl _)) (hT6.below (below_regrown wb dd os) hT6.lt) (hrz6.below (below_regrown wb dd os) (Nat.le_refl _)) (by omega))
                    have rRi := fun dd os => Calls.regrown_of (kRi.out ta Az nz cz xz _ (hE6.below (below_regrown wb dd os) (Nat.le_refl _)) (hrz6.below (below_regrown wb dd os) (Nat.le_refl _)) (by omega))
                    have rMx := fun dd os => Calls.regrown_of (kMx.out ta Az nz cz xz _ (hE6.below (below_regrown wb dd os) (Nat.le_refl _)) (hT6.below (below_regrown wb dd os) hT6.lt) (hrz6.below (below_regrown wb dd os) (Nat.le_refl _)) (by omega))
                    have rRm := fun dd os => Calls.regrown_of (kRm.out ta Az nz cz xz _ (hE6.below (below_regrown wb dd os) (Nat.le_refl _)) (hrz6.below (below_regrown wb dd os) (Nat.le_refl _)) (by omega))
                    have rCm : ∀ dd os, Calls Tryd.prog 25 #[.slice Aa na ca, .slice Ab nb cb] (Sort.grow (redrawn wb dd) os) fun e w'' => e = .returned (.int .i64 0) ∧ ∃ p : Regrown, w'' = Sort.grow (redrawn wb p.d) p.os := fun dd os => Calls.regrown_of ((by
                      have := cmp2_any Aa Ab na ca nb cb LO LO (Sort.grow (redrawn wb dd) os) (hra6.below (below_regrown wb dd os) (Nat.le_refl _)) (by omega) (hrb.below (below_regrown wb dd os) (Nat.le_refl _)) (by omega)
                      rw [cmp_self] at this
                      exact this.mono (by rintro e w' ⟨rfl, q, rfl⟩; exact ⟨rfl, below_drewN (Below.refl _ _) q⟩)))
                    generalize isB nx ex xz ta = b1 at *
                    generalize maxB nx ex xz ta = b2 at *
                    have hb1 : (b1 != b1) = false := by simp
                    have hb2 : (b2 != b2) = false := by simp
                    obtain ⟨d0, d1⟩ := blkG bX6
                    have v0 := Blk.cell bY6 0
                    simp at v0
                    have x0 : ∀ dd os, (Sort.grow (redrawn wb dd) os).cell? ⟨bx, 0, none⟩ = some (.int .i64 nx) := fun dd os => cell_regrown d0 dd os
                    have x1 : ∀ dd os, (Sort.grow (redrawn wb dd) os).cell? ⟨bx, 1, none⟩ = some (.slice Ax mx cx) := fun dd os => cell_regrown d1 dd os
                    have x2 : ∀ dd os, (Sort.grow (redrawn wb dd) os).cell? ⟨bY, 0, none⟩ = some (.int .i64 ta) := fun dd os => cell_regrown v0 dd os
                    replace rIs := Lib.hid rIs
                    replace rRi := Lib.hid rRi
                    replace rMx := Lib.hid rMx
                    replace rRm := Lib.hid rRm
                    replace rCm := Lib.hid rCm
                    clear d0 d1 v0 bX6 bY6 hE6 hrz6 hra6 hrb hT6 hlo
                    go_upto_region 17 with fail
                    refine wp_region_quiet_below (by kernel_rfl) (by kernel_rfl) ?_
                    repeat (quiet_step (first | with_reducible exact rIs.out _ _ | with_reducible exact rRi.out _ _ | with_reducible exact rMx.out _ _ | with_reducible exact rRm.out _ _ | with_reducible exact rCm.out _ _))
                    refine wpQuiet_nil ?_
                    intro _ hw'
                    obtain ⟨⟨dq, osq⟩, hw''⟩ := hw'
                    subst hw''
                    have hbx := hb56.trans ((below_regrown wb dq osq).mono hb56.size)
                    go_wp2_with fail
                    go_roundw
                    case rel => exact ⟨q0 + 1, by omega, by go_num, hbx⟩
                    case measure => simp [intOf]; omega
                · as_aux_lemma =>
                    have i4 : ¬ (q0 : Int) < 3 := by omega
                    have bX4 := bX3.below hb5 hgx3
                    have bY4 := bY3.below hb5 hgy3
                    have hE4 := hE3.below hb5 (Nat.le_refl _)
                    have hT4 := hT3.below hb5 hT3.lt
                    have hd4 := hd3.below hb5 hd3.lt
                    have hsm5 := hsm4.bb hb5 (Nat.le_refl _)
                    obtain ⟨x0, x1⟩ := blkG bX4
                    have v0 := Blk.cell bY4 0
                    have v1 := Blk.cell bY4 1
                    have v2 := Blk.cell bY4 2
                    simp at v0 v1 v2
                    have hal := allL_small (k := ta) (least := tb) (most := tc) hn8.out
                    have kq := Lib.hid (kAl.out ta tb tc wr hE4 hT4)
                    clear kNx kRx kAl kIs kRi kMx kRm bX3 bY3 hE3 hT3 hd3 hsm4 hSL h1b
                    go_wp2_with fail
                    refine kq.out.mono ?_
                    clear kq
                    rintro e wa ⟨Aa, na, ca, rfl, hca, hra, hba⟩
                    have hgx4 := bX4.lt
                    have hgy4 := bY4.lt
                    replace hE4 := hE4.below hba (Nat.le_refl _)
                    replace hT4 := hT4.below hba hT4.lt
                    replace hsm5 := hsm5.bb hba (Nat.le_refl _)
                    replace hd4 := hd4.below hba hd4.lt
                    replace bX4 := bX4.below hba hgx4
                    replace bY4 := bY4.below hba hgy4
                    clear x0 x1 v0 v1 v2 hgx4 hgy4
                    obtain ⟨x0, x1⟩ := blkG bX4
                    have v0 := Blk.cell bY4 0
                    have v1 := Blk.cell bY4 1
                    have v2 := Blk.cell bY4 2
                    simp at v0 v1 v2
                    have kq := Lib.hid (kRa.out ta tb tc wa hE4)
                    clear hba
                    go_wp2_with fail
                    refine kq.out.mono ?_
                    clear kq kRa
                    rintro e wb ⟨Ab, nb, cb, rfl, hcb, hrb, hbb⟩
                    have hgx4 := bX4.lt
                    have hgy4 := bY4.lt
                    have hra2 := hra.below hbb (Nat.le_refl _)
                    replace hE4 := hE4.below hbb (Nat.le_refl _)
                    replace hT4 := hT4.below hbb hT4.lt
                    replace hsm5 := hsm5.bb hbb (Nat.le_refl _)
                    replace hd4 := hd4.below hbb hd4.lt
                    replace bX4 := bX4.below hbb hgx4
                    replace bY4 := bY4.below hbb hgy4
                    clear x0 x1 v0 v1 v2 hgx4 hgy4 hra hbb
                    obtain ⟨x0, x1⟩ := blkG bX4
                    have v0 := Blk.cell bY4 0
                    have v1 := Blk.cell bY4 1
                    simp at v0 v1
                    have hna : na ≤ 256 := by have := hra2.len; omega
                    have hlen2 : ∀ x ∈ allL nx ex ta tb tc, x.length ≤ 1099511627776 := fun x hx => by have := hal.2 x hx; omega
                    generalize allL nx ex ta tb tc = LA at *
                    generalize errA nx ex ta tb tc = ea at *
                    have hea : (ea != ea) = false := by simp
                    have kq := Lib.hid (kRd.out ta tb wb hE4 hT4)
                    clear hal
                    go_wp2_with fail
                    refine kq.out.mono ?_
                    clear kq kRd
                    rintro e wc ⟨l1, ⟨Ac, nc, cc, rfl, hcc, hrc, hbc, -⟩, hl1⟩
                    have hgx4 := bX4.lt
                    have hgy4 := bY4.lt
                    replace hra2 := hra2.below hbc (Nat.le_refl _)
                    replace hrb := hrb.below hbc (Nat.le_refl _)
                    replace hE4 := hE4.below hbc (Nat.le_refl _)
                    replace hT4 := hT4.below hbc hT4.lt
                    replace hsm5 := hsm5.bb hbc (Nat.le_refl _)
                    replace hd4 := hd4.below hbc hd4.lt
                    replace bX4 := bX4.below hbc hgx4
                    replace bY4 := bY4.below hbc hgy4
                    clear x0 x1 v0 v1 hgx4 hgy4 hbc
                    obtain ⟨x0, x1⟩ := blkG bX4
                    have v0 := Blk.cell bY4 0
                    have v1 := Blk.cell bY4 1
                    simp at v0 v1
                    have kq := Lib.hid (kRr.out ta tb wc hE4)
                    go_wp2_with fail
                    refine kq.out.mono ?_
                    clear kq kRr
                    rintro e wd ⟨l2, ⟨Ae, ne, ce, rfl, hce, hre, hbe, -⟩, hl2⟩
                    have hl12 : l2 = l1 := redL_unique hl2 hl1
                    subst hl12
                    have hsm6 := redL_small hn8.out hl1
                    replace hra2 := hra2.below hbe (Nat.le_refl _)
                    replace hrb := hrb.below hbe (Nat.le_refl _)
                    have hrc2 := hrc.below hbe (Nat.le_refl _)
                    replace hsm5 := hsm5.bb hbe (Nat.le_refl _)
                    replace hd4 := hd4.below hbe hd4.lt
                    have hnc : nc ≤ 64 := by have := hrc.len; omega
                    have hne : ne ≤ 64 := by have := hre.len; omega
                    clear x0 x1 v0 v1 hE4 hT4 bX4 bY4 hrc hbe hl1 hl2 hsm6
                    generalize errP nx ex ta tb = ep at *
                    have hep : (ep != ep) = false := by simp
                    have ks := Lib.hid (r28same_any Aa Ab na ca nb cb LA wd hra2 hrb (by omega) hlen2)
                    have kc := Lib.hid (fun w h h' => cmp2_any Ac Ae nc cc ne ce l2 l2 w h (by omega) h' (by omega))
                    go_wp2_with (first
                      | (go_at_call 36; refine ks.out.mono ?_; rintro e we ⟨rfl, hbe⟩)
                      | (go_at_call 25; refine (kc.out we (hrc2.below hbe (Nat.le_refl _)) (hre.below hbe (Nat.le_refl _))).mono ?_; rw [cmp_self]; rintro e wf ⟨rfl, qf, rfl⟩)
                      | fail)
                    have hsm7 := (hsm5.bb hbe (Nat.le_refl _)).drewN qf
                    have hd7 := (hd4.below hbe hd4.lt).drewN qf
                    go_roundw
                    case rel => exact ⟨t0 + 1, by omega, by go_num, hsm7, hd7⟩
                    case measure => simp [intOf]; omega
            · have i3 : ¬ (t0 : Int) < 3 := by omega
              have hsm3 : Same (fun k => k = gd) W0 wr := hsm1.trans hsm2 (fun _ _ h => h)
              clear kNx kRx kAl kRa kRd kRr kIs kRi kMx kRm
              go_wp2_with fail
              go_roundw
              case rel => exact ⟨k0 + 1, by omega, by go_num, hsm3, hdk2⟩
              case measure => simp [intOf]; omega
      · as_aux_lemma =>
          have i0 : ¬ (k0 : Int) < 3 := by omega
          have ka2 := Lib.hid (ka.out wr (hT.below hWr hT.lt))
          go_wp2_with (first | (go_at_call 9; refine ka2.out.mono ?_; rintro e wz ⟨rfl, hbz⟩) | fail)
          go_ret
          exact ⟨rfl, hWr.trans (hbz.mono hWr.size)⟩
  · as_aux_lemma =>
      have hcase : (m0 ≤ 500 ∧ decide (20 < (m1 : Int)) = true) ∨ (decide (m0 ≤ 500) = false) ∨ (m0 ≤ 500 ∧ decide (20 < (m1 : Int)) = false ∧ decide (nr ≤ 7 ∧ mr ≤ 49) = false) := by
        by_cases g1 : m0 ≤ 500
        · by_cases g2 : m1 ≤ 20
          · exact .inr (.inr ⟨g1, by simp; omega, decide_eq_false (fun h => hgood ⟨g1, g2, h.1, h.2⟩)⟩)
          · exact .inl ⟨g1, by simp; omega⟩
        · exact .inr (.inl (decide_eq_false g1))
      clear hgood
      rcases hcase with ⟨g1, i20⟩ | g1 | ⟨g1, i20, g3⟩
      case' inl => rw [decide_eq_true g1] at kf
      case' inr.inl => rw [g1] at kf
      case' inr.inr =>
        rw [decide_eq_true g1] at kf
        rw [g3] at kl
      all_goals
        replace kf := Lib.hid kf
        replace kl := Lib.hid kl
        clear g1
        go_enter Tryd.func6, Tryd.ntmps6
        go_wp2_with (first
          | (go_at_call 8; refine (kf.out _).mono ?_; rintro e wf ⟨rfl, hwf⟩; obtain rfl := hwf)
          | (go_at_call 26; refine (kl.out _).mono ?_; rintro e w1 ⟨rfl, hb1⟩
             have hW1 : Below w.heap.size w w1 := hB1.trans (hb1.mono (by simp))
             have ka1 := Lib.hid (ka.out w1 (hT.below hW1 hT.lt)))
          | (go_at_call 9; refine ka1.out.mono ?_; rintro e w2 ⟨rfl, hb2⟩
             have hWz : Below w.heap.size w w2 := hW1.trans (hb2.mono hW1.size))
          | (go_at_call 9; refine (ka.out _ (hT.below hB1 hT.lt)).mono ?_; rintro e w2 ⟨rfl, hb2⟩
             have hWz : Below w.heap.size w w2 := hB1.trans (hb2.mono (by simp)))
          | fail)
        go_ret
        exact ⟨rfl, hWz⟩
end Go.Proofs.YtfefginhlliccaaDoor.Pl
