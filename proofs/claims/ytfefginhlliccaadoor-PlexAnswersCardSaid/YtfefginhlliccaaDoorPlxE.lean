/- Package plex: All. -/
import Derived.Test.YtfefginhlliccaaDoorPlxD
import Derived.Test.YtfefginhlliccaaDoorLoB
set_option linter.unusedVariables false
set_option linter.unusedSimpArgs false
namespace Go.Proofs.YtfefginhlliccaaDoor.Pl
open Go.RowKit Go.Shelf CoBit CoCli Go.Proofs.YtfefginhlliccaaDoor
attribute [local go_sem] Oper.semAt_some

theorem Tab.lt {w : World} (h : Tab w) : 0 < w.heap.size := Nat.lt_of_not_le fun hh => by
  have h0 := h 0 (by decide)
  unfold World.cell? at h0
  rw [Array.getElem?_eq_none hh] at h0
  cases h0
def errA (n : Int) (es : List (Int × Int)) (k least most : Int) : Int := if errP n es k least ≠ 0 then errP n es k least else if most < 0 ∨ 4096 < most then 1 else if most < (plexs n.toNat es k.toNat least.toNat []).length then 3 else 0
def allL (n : Int) (es : List (Int × Int)) (k least most : Int) : List (List Int) := if errA n es k least most = 0 then (plexs n.toNat es k.toNat least.toNat []).map nt else []
/-- A list of lists and an error are returned. -/
def RetLL (w : World) (L : List (List Int)) (err : Int) (e : Ending) (w' : World) : Prop := ∃ A n c, e = .returned (.tuple #[.slice A n c, .int .i64 err]) ∧ n ≤ c ∧ RL IE w' A n L ∧ Below w.heap.size w w'

/-- What lies in the boxes of behind. -/
theorem beW_blk {w W7 : World} {A : Option Addr} {m c : Nat} {n k least : Int} {Aa : Option Addr} {na ca : Nat} (h : W7 = beW w A m c n k least Aa na ca) :
    Blk W7 w.heap.size 27 #[.int .i64 n, .slice A m c] ∧ Blk W7 (w.heap.size + 1) 3 #[.int .i64 k] ∧ Blk W7 (w.heap.size + 2) 3 #[.int .i64 least] ∧ Blk W7 (w.heap.size + 3) 22 #[.slice Aa na ca] ∧ Below w.heap.size w W7 ∧ W7.heap.size = w.heap.size + 4 := by
  subst h
  unfold beW
  have b1 := Blk.new (w.alloc (.cells #[.int .i64 n, .slice A m c] 27)) 3 #[.int .i64 k]
  have b2 := Blk.new ((w.alloc (.cells #[.int .i64 n, .slice A m c] 27)).alloc (.cells #[.int .i64 k] 3)) 3 #[.int .i64 least]
  have b3 := Blk.new (((w.alloc (.cells #[.int .i64 n, .slice A m c] 27)).alloc (.cells #[.int .i64 k] 3)).alloc (.cells #[.int .i64 least] 3)) 22 #[.slice Aa na ca]
  simp only [World.size_alloc] at b1 b2 b3
  exact ⟨(((Blk.new w _ _).alloc _).alloc _).alloc _, (b1.alloc _).alloc _, b2.alloc _, b3, ((((Below.refl _ w).alloc (Nat.le_refl _) _).alloc (by simp) _).alloc (by simp; omega) _).alloc (by simp; omega) _, by simp⟩

set_option maxRecDepth 100000 in
set_option maxHeartbeats 4000000 in
theorem all_in (A : Option Addr) (m c : Nat) (n : Int) (es : List (Int × Int)) (k least most : Int) (w : World) (hE : RE w A m es) (hm : m ≤ 68719476736) (hT : Tab w) :
    CallsIn Fence.wide 6 Tryd.prog 12 #[.agg #[.int .i64 n, .slice A m c], .int .i64 k, .int .i64 least, .int .i64 most] w (RetLL w (allL n es k least most) (errA n es k least most)) := by
  have kc := fun w h => pcheck_any A m c n es k least w h (by omega)
  refine callsIn_of_wp_marks Tryd.func12 rfl trivial ?_ rfl
  simp only [Tryd.ntmps12, List.size_toArray, List.length_cons, List.length_nil, Nat.reduceAdd, Nat.reduceSub, Array.replicate_succ, Array.replicate_zero, List.push_toArray, List.append_toArray, List.nil_append, List.cons_append]
  -- the boxes
  obtain ⟨w4, hw4⟩ : ∃ w4, (((w.alloc (.cells #[.int .i64 n, .slice A m c] 27)).alloc (.cells #[.int .i64 most] 3)).alloc (.cells #[.slice none 0 0] 31)).alloc (.cells #[.int .i64 0] 32) = w4 := ⟨_, rfl⟩
  have bg : Blk w4 w.heap.size 27 #[.int .i64 n, .slice A m c] := by rw [← hw4]; exact (((Blk.new w _ _).alloc _).alloc _).alloc _
  have bm : Blk w4 (w.heap.size + 1) 3 #[.int .i64 most] := by rw [← hw4]; have := Blk.new (w.alloc (.cells #[.int .i64 n, .slice A m c] 27)) 3 #[.int .i64 most]; rw [World.size_alloc] at this; exact (this.alloc _).alloc _
  have br : Blk w4 (w.heap.size + 1 + 1) 31 #[.slice none 0 0] := by rw [← hw4]; have := Blk.new ((w.alloc (.cells #[.int .i64 n, .slice A m c] 27)).alloc (.cells #[.int .i64 most] 3)) 31 #[.slice none 0 0]; rw [World.size_alloc, World.size_alloc] at this; exact this.alloc _
  have be : Blk w4 (w.heap.size + 1 + 1 + 1) 32 #[.int .i64 0] := by rw [← hw4]; have := Blk.new (((w.alloc (.cells #[.int .i64 n, .slice A m c] 27)).alloc (.cells #[.int .i64 most] 3)).alloc (.cells #[.slice none 0 0] 31)) 32 #[.int .i64 0]; rw [World.size_alloc, World.size_alloc, World.size_alloc] at this; exact this
  have hB4 : Below w.heap.size w w4 := by rw [← hw4]; exact ((((Below.refl _ w).alloc (Nat.le_refl _) _).alloc (by simp) _).alloc (by simp; omega) _).alloc (by simp; omega) _
  have hz4 : w4.heap.size = w.heap.size + 1 + 1 + 1 + 1 := by rw [← hw4]; simp
  have g0 := Blk.cell bg 0
  have g1 := Blk.cell bg 1
  simp at g0 g1
  by_cases h0 : errP n es k least ≠ 0
  · have hfe : errA n es k least most = errP n es k least := by unfold errA; rw [if_pos h0]
    have hfl : allL n es k least most = [] := by unfold allL; rw [hfe, if_neg h0]
    rw [hfe, hfl]
    have hq : (errP n es k least != 0) = true := by simpa using h0
    generalize errP n es k least = z at *
    clear hfe hfl
    replace h0 := Lib.hid h0
    replace kc := Lib.hid kc
    gi_wp2_with (first | (refine ⟨trivial, ?_⟩; gi_at_call 39; refine (callsIn_wide.2 (kc.out w4 (hE.below hB4 (Nat.le_refl _)))).mono ?_; rintro e w5 ⟨rfl, hb5⟩; have br5 := br.below hb5 br.lt; have be5 := be.below hb5 be.lt; have r0 := Blk.cell br5 0; have r1 := Blk.cell be5 0; simp at r0 r1; have rf := Blk.frozen br5 0; have ef := Blk.frozen be5 0) | fail)
    have r8 := Blk.cell ((br5.set 0 (.slice none 0 0)).far (p := ⟨w.heap.size + 1 + 1 + 1, 0, none⟩) (by simp) (.int .i64 z)) 0
    have r9 := Blk.cell (((be5.far (p := ⟨w.heap.size + 1 + 1, 0, none⟩) (by simp) (.slice none 0 0))).set 0 (.int .i64 z)) 0
    simp at r8 r9
    refine ⟨.tuple #[.slice none 0 0, .int .i64 z], by simp [results, Tryd.results12, go_sem, r8, r9], _, _, _, rfl, Nat.le_refl _, RL.none_, ?_⟩
    exact ((hB4.trans (hb5.mono (by omega))).setCell (p := ⟨w.heap.size + 1 + 1, 0, none⟩) (by simp; omega) _).setCell (p := ⟨w.heap.size + 1 + 1 + 1, 0, none⟩) (by simp; omega) _
  · have h00 : errP n es k least = 0 := by omega
    obtain ⟨z0, z1, z2, z3, z4⟩ := errP_zero h00
    by_cases hmo : most < 0 ∨ 4096 < most
    · have hfe : errA n es k least most = 1 := by unfold errA; rw [if_neg h0, if_pos hmo]
      have hfl : allL n es k least most = [] := by unfold allL; rw [hfe, if_neg (by omega)]
      rw [hfe, hfl]
      simp only [h00] at kc
      have m0 := Blk.cell bm 0
      simp at m0
      replace kc := Lib.hid kc
      have hcase : decide (most < 0) = true ∨ (decide (most < 0) = false ∧ decide (4096 < most) = true) := by
        by_cases h1 : most < 0
        · exact .inl (decide_eq_true h1)
        · exact .inr ⟨decide_eq_false h1, decide_eq_true (by omega)⟩
      clear hfe hfl h0 h00 z0 z1 z2 z3 z4 hmo
      rcases hcase with q1 | ⟨q1, q2⟩
      all_goals
        gi_wp2_with (first | (refine ⟨trivial, ?_⟩; gi_at_call 39; refine (callsIn_wide.2 (kc.out w4 (hE.below hB4 (Nat.le_refl _)))).mono ?_; rintro e w5 ⟨rfl, hb5⟩; have br5 := br.below hb5 br.lt; have be5 := be.below hb5 be.lt; have bm5 := bm.below hb5 bm.lt; have r0 := Blk.cell br5 0; have r1 := Blk.cell be5 0; have r2 := Blk.cell bm5 0; simp at r0 r1 r2; have rf := Blk.frozen br5 0; have ef := Blk.frozen be5 0) | fail)
        have r8 := Blk.cell ((br5.set 0 (.slice none 0 0)).far (p := ⟨w.heap.size + 1 + 1 + 1, 0, none⟩) (by simp) (.int .i64 1)) 0
        have r9 := Blk.cell (((be5.far (p := ⟨w.heap.size + 1 + 1, 0, none⟩) (by simp) (.slice none 0 0))).set 0 (.int .i64 1)) 0
        simp at r8 r9
        refine ⟨.tuple #[.slice none 0 0, .int .i64 1], by simp [results, Tryd.results12, go_sem, r8, r9], _, _, _, rfl, Nat.le_refl _, RL.none_, ?_⟩
        exact ((hB4.trans (hb5.mono (by omega))).setCell (p := ⟨w.heap.size + 1 + 1, 0, none⟩) (by simp; omega) _).setCell (p := ⟨w.heap.size + 1 + 1 + 1, 0, none⟩) (by simp; omega) _
    · obtain ⟨N, rfl⟩ := Int.eq_ofNat_of_zero_le (chkG_zero z0).1
      obtain ⟨kk, rfl⟩ := Int.eq_ofNat_of_zero_le (show 0 ≤ k by omega)
      obtain ⟨ls, rfl⟩ := Int.eq_ofNat_of_zero_le (show 0 ≤ least by omega)
      obtain ⟨mo, rfl⟩ := Int.eq_ofNat_of_zero_le (show 0 ≤ most by omega)
      have hmo4 : mo ≤ 4096 := by omega
      have q1 : decide ((mo : Int) < 0) = false := by simp
      have q2 : decide (4096 < (mo : Int)) = false := by simp; omega
      have hPL : Hid (errA N es kk ls mo = if mo < (plexs N es kk ls []).length then 3 else 0) := Lib.hid (by
        unfold errA; rw [if_neg h0, if_neg hmo]
        show (if (mo : Int) < ((plexs N es kk ls []).length : Int) then (3 : Int) else 0) = _
        by_cases h : mo < (plexs N es kk ls []).length
        · rw [if_pos h, if_pos (by omega)]
        · rw [if_neg h, if_neg (by omega)])
      have hLL : Hid (allL N es kk ls mo = if errA N es kk ls mo = 0 then (plexs N es kk ls []).map nt else []) := Lib.hid rfl
      simp only [h00] at kc
      have m0 := Blk.cell bm 0
      simp at m0
      replace kc := Lib.hid kc
      have z0' := Lib.hid z0
      have hTl := hT.lt
      clear h0 h00 hmo z0
      gi_wp2_with (first
        | (refine ⟨trivial, ?_⟩; gi_at_call 39; refine (callsIn_wide.2 (kc.out w4 (hE.below hB4 (Nat.le_refl _)))).mono ?_; rintro e w5 ⟨rfl, hb5⟩
           have bg5 := bg.below hb5 bg.lt
           have br5 := br.below hb5 br.lt
           have be5 := be.below hb5 be.lt
           have bm5 := bm.below hb5 bm.lt
           have r2 := Blk.cell bm5 0
           simp at r2
           have bo := Blk.new w5 31 #[.slice none 0 0]
           have bg6 := bg5.alloc (.cells #[.slice none 0 0] 31)
           have br6 := br5.alloc (.cells #[.slice none 0 0] 31)
           have be6 := be5.alloc (.cells #[.slice none 0 0] 31)
           have bm6 := bm5.alloc (.cells #[.slice none 0 0] 31)
           have gg0 := Blk.cell bg6 0
           have gg1 := Blk.cell bg6 1
           simp only [List.getElem?_toArray, List.getElem?_cons_zero, List.getElem?_cons_succ] at gg0 gg1)
        | (refine ⟨trivial, ?_⟩; gi_at_call 40; refine (callsIn_wide.2 (pbehind_any A m c N kk ls none 0 0 _)).mono ?_; rintro e w7 ⟨rfl, hw7⟩)
        | fail)
      obtain ⟨w7, hw7⟩ : ∃ w7, w7 = beW (w5.alloc (.cells #[.slice none 0 0] 31)) A m c N kk ls none 0 0 := ⟨_, rfl⟩
      rw [← hw7]
      obtain ⟨x0, x1, x2, x3, hB67, hz7⟩ := beW_blk hw7
      clear hw7
      rw [World.size_alloc] at x0 x1 x2 x3 hB67 hz7
      have hz5 := hb5.size
      have bo7 : Blk w7 w5.heap.size 31 #[.slice none 0 0] := bo.below hB67 (by omega)
      have br7 := br6.below hB67 (by omega)
      have be7 := be6.below hB67 (by omega)
      have bm7 := bm6.below hB67 (by omega)
      have hB5 : Below w.heap.size w w5 := hB4.trans (hb5.mono (by omega))
      have hB7 : Below w.heap.size w w7 := (hB5.alloc hB5.size _).trans (hB67.mono (by omega))
      have hE7 := hE.below hB7 (Nat.le_refl _)
      have hT7 := hT.below hB7 hTl
      have hseq := behind_seq w.heap.size A m c N es kk ls none 0 0 [] (w5.heap.size + 1) w7 x0 x1 x2 x3 hE7 hm z0'.out (by omega) (by omega) (by omega) (by omega) RI.none_ (by omega) (by omega) (fun ad e => (by cases e)) (by omega) hT7 hTl
      obtain ⟨o5, ho5⟩ : ∃ o5, o5 = w5.heap.size := ⟨_, rfl⟩
      rw [← ho5] at hseq bo7 x0 x1 x2 x3 hz7 hz5
      rw [← ho5]
      clear x0 x1 x2 x3 hT7 hE7 hB67 bo bg6 br6 be6 bm6 gg0 gg1 bg5 br5 be5 bm5 r2 hb5 hB5 kc ho5 bg bm br be g0 g1 m0 hw4 hB4
      refine wpIn_rangeFunc_O (n := 6) (gf := 64) (lb := #[.pointer (some ⟨o5 + 1, 0, none⟩), .pointer (some ⟨o5 + 1 + 2, 0, none⟩), .pointer (some ⟨o5 + 1 + 1, 0, none⟩), .pointer (some ⟨o5 + 1 + 3, 0, none⟩)]) rfl (enters_of Tryd.func64 (by kernel_rfl) rfl) hseq (Below.refl _ _) (by omega) rfl
        (fun O pre W => ∃ v Q, Blk W o5 31 #[v] ∧ LO IE 22 W v (pre.map Lst.xs) Q ∧ (∀ k, Q k → ¬ O k ∧ w7.heap.size ≤ k) ∧ Blk W (w.heap.size + 1) 3 #[.int .i64 mo] ∧ Blk W (w.heap.size + 1 + 1) 31 #[.slice none 0 0] ∧ Blk W (w.heap.size + 1 + 1 + 1) 32 #[.int .i64 0] ∧ pre.length ≤ mo ∧ Below w.heap.size w W)
        (fun c O pre W => c = .ret ∧ Blk W (w.heap.size + 1 + 1) 31 #[.slice none 0 0] ∧ Blk W (w.heap.size + 1 + 1 + 1) 32 #[.int .i64 3] ∧ pre.length = mo + 1 ∧ Below w.heap.size w W)
        ?hI ?hIx ?h0
        (fun x => { tmps := #[.agg #[.int .i64 N, .slice A m c], .int .i64 kk, .int .i64 ls, .int .i64 mo, .pointer (some ⟨w.heap.size, 0, none⟩), undef, undef, .pointer (some ⟨w.heap.size + 1, 0, none⟩), .pointer (some ⟨w.heap.size + 1 + 1, 0, none⟩), .pointer (some ⟨w.heap.size + 1 + 1 + 1, 0, none⟩), .int .i64 0, .pointer (some ⟨o5, 0, none⟩), .slice x.A x.n x.c, .agg #[.int .i64 N, .slice A m c], .int .i64 kk, .int .i64 ls, .int .i64 0, .int .i64 0, .bool false, undef, .int .i64 mo, .bool false, .bool false, .int .i64 mo, .bool false, .bool false, .agg #[.int .i64 N, .slice A m c], .int .i64 kk, .int .i64 ls, .func (.func 64) #[] #[.pointer (some ⟨o5 + 1, 0, none⟩), .pointer (some ⟨o5 + 1 + 2, 0, none⟩), .pointer (some ⟨o5 + 1 + 1, 0, none⟩), .pointer (some ⟨o5 + 1 + 3, 0, none⟩)], .slice x.A x.n x.c, undef, undef, undef, undef, undef, undef, undef, undef, undef], defers := [] }) ?assign ?body ?done ?stop
      case hI =>
        rintro O O' pre W W' ⟨v, Q, h1, h2, h3, h4, h5, h6, h7, h8⟩ hO hs hO'
        have low : ∀ k, k < w7.heap.size → ¬ O k := fun k hk hh => by have := hO k hh; omega
        exact ⟨v, Q, hs.blk h1 (low _ (by omega)), h2.keep (hs.mono fun k _ hk hq => (h3 k hq).1 hk), fun k hq => ⟨fun hk => (hO' k hk).elim (h3 k hq).1 (fun h => by have := h2.lt k hq; omega), (h3 k hq).2⟩, hs.blk h4 (low _ (by omega)), hs.blk h5 (low _ (by omega)), hs.blk h6 (low _ (by omega)), h7, h8.trans (hs.below h8.size (fun k hk => low k (by omega)))⟩
      case hIx =>
        rintro cc O O' pre W W' ⟨h1, h5, h6, h7, h8⟩ hO hs hO'
        have low : ∀ k, k < w7.heap.size → ¬ O k := fun k hk hh => by have := hO k hh; omega
        exact ⟨h1, hs.blk h5 (low _ (by omega)), hs.blk h6 (low _ (by omega)), h7, h8.trans (hs.below h8.size (fun k hk => low k (by omega)))⟩
      case h0 => exact ⟨_, _, bo7, LO.nil_, fun _ h => h.elim, bm7, br7, be7, Nat.zero_le _, hB7⟩
      case assign =>
        intro l x W K hK
        gi_wp2
        exact hK
      case body =>
        rintro l O pre x W0 W ⟨v, Q, h1, h2, h3, h4, h5, h6, h7, h8⟩ hs hO hsz hx hfr
        have low : ∀ k, k < w7.heap.size → ¬ O k := fun k hk hh => by have := (hO k hh).1; omega
        have hz0 := hs.size
        have h2' : LO IE 22 W v (pre.map Lst.xs) Q := h2.keep (hs.mono fun k _ hk hq => (h3 k hq).1 hk)
        have hQx : ∀ ad, x.A = some ad → 0 < x.n → ¬ Q ad.block := fun ad e hp hq => by have := h2.lt _ hq; have := hfr ad e hp; omega
        have hOW : ∀ k, O k → k < W.heap.size := fun k hk => Nat.lt_of_lt_of_le (hO k hk).2 hz0
        replace h8 : Below w.heap.size w W := h8.trans (hs.below h8.size (fun k hk => low k (by omega)))
        replace h1 := hs.blk h1 (low _ (by omega))
        replace h4 := hs.blk h4 (low _ (by omega))
        replace h5 := hs.blk h5 (low _ (by omega))
        replace h6 := hs.blk h6 (low _ (by omega))
        clear h2 hs hfr
        obtain ⟨Av, cv, hv, hcv, -⟩ := h2'.len
        rw [List.length_map] at hv hcv
        subst hv
        have hown := h2'.own
        have c1 := Blk.cell h1 0
        have c4 := Blk.cell h4 0
        have c5 := Blk.cell h5 0
        have c6 := Blk.cell h6 0
        have f1 := Blk.frozen h1 0
        have f5 := Blk.frozen h5 0
        have f6 := Blk.frozen h6 0
        simp at c1 c4 c5 c6
        have notK : ∀ k, k < w7.heap.size → w.heap.size ≤ k → ¬ (O k ∨ k < w.heap.size) := fun k hk hk2 h => h.elim (low k hk) (fun h => by omega)
        by_cases heq : pre.length = mo
        · have q3 : ((pre.length : Int) == (mo : Int)) = true := by simp; omega
          have heq' := Lib.hid heq
          clear heq
          gi_wp2
          have s1 := Same.set W (w.heap.size + 1 + 1) 0 (.slice none 0 0)
          have s2 := Same.set (W.setCell ⟨w.heap.size + 1 + 1, 0, none⟩ (.slice none 0 0)) (w.heap.size + 1 + 1 + 1) 0 (.int .i64 3)
          refine ⟨(s1.mono fun k _ e => by rw [e]; exact notK _ (by omega) (by omega)).trans s2 (fun k _ e => by rw [e]; exact notK _ (by omega) (by omega)), rfl, ?_, ?_, by simp; exact heq'.out, ?_⟩
          · exact s2.blk (Blk.set h5 0 (.slice none 0 0)) (by omega)
          · exact Blk.set (s1.blk h6 (by omega)) 0 (.int .i64 3)
          · exact (h8.setCell (p := ⟨w.heap.size + 1 + 1, 0, none⟩) (by simp; omega) _).setCell (p := ⟨w.heap.size + 1 + 1 + 1, 0, none⟩) (by simp; omega) _
        · have q3 : ((pre.length : Int) == (mo : Int)) = false := by simp; omega
          have h2a : LO IE 22 (W.alloc (.cells #[.slice x.A x.n x.c] 22)) (.slice Av pre.length cv) (pre.map Lst.xs) Q := h2'.keep ((Same.refl _ _).alloc _)
          have hxa := rs_ri.2 (hx.1.alloc (.cells #[.slice x.A x.n x.c] 22))
          have hHa := reads_one (Blk.new W 22 #[.slice x.A x.n x.c])
          have hAa : ∀ ad, x.A = some ad → 0 < x.n → some ad.block ≠ (Value.slice Av pre.length cv).ownBlock := fun ad e hp h => hQx ad e hp (hown _ h.symm)
          have h1a := h1.alloc (.cells #[.slice x.A x.n x.c] 22)
          have hlm : (pre.map Lst.xs).length ≤ 1099511627776 := by rw [List.length_map]; omega
          have heq' := Lib.hid heq
          clear heq
          gi_wp2_with (first
            | (gi_at_builtin; refine wpListIn_pushLO (E := IE) (st := 31) (t := 22) Tryd.underlying31 (by kernel_rfl) rfl _ _ rfl rfl rfl h2a hx.2.1 hxa hAa hHa hlm ?_; intro v2 w2 Q2 h22 hs2 hq2
               have b12 := hs2.blk h1a (fun e => by have := (h3 _ (hown _ e)).2; omega)
               have c12 := Blk.cell b12 0
               have f12 := Blk.frozen b12 0
               simp at c12
               have h22l := h22.len
               obtain ⟨A2, c2, hv2, -, -⟩ := h22l
               subst hv2)
            | fail)
          have hsW : Same (fun k => (Value.slice Av pre.length cv).ownBlock = some k) W w2 := (((Same.refl (fun _ => False) W).alloc _).mono (fun _ _ h => h.elim)).trans hs2 (fun _ _ h => h)
          have hq2' : ∀ k, Q2 k → ¬ O k ∧ w7.heap.size ≤ k := fun k hk => by
            rcases hq2 k hk with h | ⟨ad, e, hp, rfl⟩ | h
            · exact h3 k h
            · exact ⟨(hx.2.2 ad e hp).1, (hx.2.2 ad e hp).2.1⟩
            · simp at h
              exact ⟨fun hh => by have := hOW k hh; omega, by omega⟩
          have hnb : ∀ k, k < w7.heap.size → ¬ (Value.slice Av pre.length cv).ownBlock = some k := fun k hk e => by have := (h3 _ (hown _ e)).2; omega
          have s1 := Same.set w2 o5 0 (.slice A2 (pre.length + 1) c2)
          refine ⟨(hsW.mono fun k _ e h => h.elim (h3 _ (hown _ e)).1 (fun h => by have := (h3 _ (hown _ e)).2; omega)).trans s1 (fun k _ e => by rw [e]; exact notK _ (by omega) (by omega)), _, Q2, Blk.set b12 0 _, ?_, hq2', ?_, ?_, ?_, ?_, ?_⟩
          · have h23 := h22.keep (s1.mono fun k _ e hq => by have := (hq2' k hq).2; omega)
            rw [List.length_append, List.length_map, List.length_singleton] at h23
            rw [List.map_append]
            exact h23
          · exact s1.blk (hsW.blk h4 (hnb _ (by omega))) (by omega)
          · exact s1.blk (hsW.blk h5 (hnb _ (by omega))) (by omega)
          · exact s1.blk (hsW.blk h6 (hnb _ (by omega))) (by omega)
          · rw [List.length_append, List.length_singleton]; have := heq'.out; omega
          · exact (h8.trans (hsW.below h8.size (fun k hk => hnb k (by omega)))).setCell (p := ⟨o5, 0, none⟩) (by simp; omega) _
      case done =>
        rintro D O xs W hOD hO hS ⟨v, Q, h1, h2, h3, h4, h5, h6, h7, h8⟩ hK
        have hD := hO D hOD
        have hlen : xs.length = (plexs N es kk ls []).length := by have := congrArg List.length hS; simpa using this
        have he0 : errA N es kk ls mo = 0 := by rw [hPL.out, if_neg (by omega)]
        have hl0 : allL N es kk ls mo = (plexs N es kk ls []).map nt := by rw [hLL.out, if_pos he0]
        rw [hS] at h2
        replace he0 := Lib.hid he0
        replace hl0 := Lib.hid hl0
        obtain ⟨Av, cv, hv, hcv, -⟩ := h2.len
        subst hv
        generalize (plexs N es kk ls []).map nt = L at *
        have c1 := Blk.cell h1 0
        have c5 := Blk.cell h5 0
        have c6 := Blk.cell h6 0
        have f5 := Blk.frozen h5 0
        have f6 := Blk.frozen h6 0
        simp at c1 c5 c6
        clear hPL hLL hlen hS hseq
        gi_wp2
        have hK' := ((KeepsOthers.setCell W ⟨w.heap.size + 1 + 1, 0, none⟩ (.slice Av L.length cv)).trans (KeepsOthers.setCell _ ⟨w.heap.size + 1 + 1 + 1, 0, none⟩ (.int .i64 0))).same D _ hK rfl
        refine ⟨by simp, .inl ⟨_, _, rfl, run_takeDeferred hK', ?_⟩⟩
        have s1 := Same.set W (w.heap.size + 1 + 1) 0 (.slice Av L.length cv)
        have s2 := Same.set (W.setCell ⟨w.heap.size + 1 + 1, 0, none⟩ (.slice Av L.length cv)) (w.heap.size + 1 + 1 + 1) 0 (.int .i64 0)
        have s3 := Same.put ((W.setCell ⟨w.heap.size + 1 + 1, 0, none⟩ (.slice Av L.length cv)).setCell ⟨w.heap.size + 1 + 1 + 1, 0, none⟩ (.int .i64 0)) D (.deferred none)
        have r8 := Blk.cell (s3.blk (s2.blk (Blk.set h5 0 (.slice Av L.length cv)) (by omega)) (by omega)) 0
        have r9 := Blk.cell (s3.blk (Blk.set (s1.blk h6 (by omega)) 0 (.int .i64 0)) (by omega)) 0
        simp at r8 r9
        have hS3 : Same (fun k => k = w.heap.size + 1 + 1 ∨ k = w.heap.size + 1 + 1 + 1 ∨ k = D) W (((W.setCell ⟨w.heap.size + 1 + 1, 0, none⟩ (.slice Av L.length cv)).setCell ⟨w.heap.size + 1 + 1 + 1, 0, none⟩ (.int .i64 0)).putObj D (.deferred none)) :=
          ((s1.mono fun _ _ h => .inl h).trans s2 (fun _ _ h => .inr (.inl h))).trans s3 (fun _ _ h => .inr (.inr h))
        obtain ⟨A9, c9, hv9, hc9, hr9⟩ := (h2.keep (hS3.mono fun k _ e hq => by
          have h9 := h3 k hq
          rcases e with e | e | e
          · omega
          · omega
          · rw [e] at h9; exact h9.1 hOD)).len
        rw [he0.out, hl0.out]
        refine ⟨.tuple #[.slice Av L.length cv, .int .i64 0], by simp [results, Tryd.results12, go_sem, r8, r9], Av, _, cv, rfl, hcv, ?_, ?_⟩
        · injection hv9 with e1 e2 e3
          subst e1
          exact hr9
        · exact h8.trans (hS3.below h8.size (fun k hk e => by rcases e with e | e | e <;> omega))
      case stop =>
        rintro D cc O pre W hOD hO hSp ⟨rfl, h5, h6, h7, h8⟩ hK
        have hD := hO D hOD
        have hlen : pre.length ≤ (plexs N es kk ls []).length := by have := hSp.length_le; simpa using this
        have he0 : errA N es kk ls mo = 3 := by rw [hPL.out, if_pos (by omega)]
        have hl0 : allL N es kk ls mo = [] := by rw [hLL.out, if_neg (by omega)]
        rw [he0, hl0]
        clear hPL hLL he0 hl0 hlen hSp hseq
        gi_wp2
        refine ⟨by simp, .inl ⟨_, _, rfl, run_takeDeferred hK, ?_⟩⟩
        have s3 := Same.put W D (.deferred none)
        have r8 := Blk.cell (s3.blk h5 (by omega)) 0
        have r9 := Blk.cell (s3.blk h6 (by omega)) 0
        simp at r8 r9
        refine ⟨.tuple #[.slice none 0 0, .int .i64 3], by simp [results, Tryd.results12, go_sem, r8, r9], _, _, _, rfl, Nat.le_refl _, RL.none_, ?_⟩
        exact h8.trans (s3.below h8.size (fun k hk e => by omega))
end Go.Proofs.YtfefginhlliccaaDoor.Pl
