/- Package plex: Next. -/
import Derived.Test.YtfefginhlliccaaDoorPlxE
set_option linter.unusedVariables false
set_option linter.unusedSimpArgs false
namespace Go.Proofs.YtfefginhlliccaaDoor.Pl
open Go.RowKit Go.Shelf CoBit CoCli Go.Proofs.YtfefginhlliccaaDoor
attribute [local go_sem] Oper.semAt_some

/-- The first maximal k-plex behind a list. -/
def nextO (n : Int) (es : List (Int × Int)) (k least : Int) (after : List Int) : Option (List Nat) := if errP n es k least = 0 then (plexs n.toNat es k.toNat least.toNat after).head? else none
/-- A list, whether there is one, and an error are returned. -/
def RetN (w : World) (o : Option (List Nat)) (err : Int) (e : Ending) (w' : World) : Prop := ∃ A n c, e = .returned (.tuple #[.slice A n c, .bool o.isSome, .int .i64 err]) ∧ n ≤ c ∧ RI w' A n ((o.map nt).getD []) ∧ Below w.heap.size w w'

set_option maxRecDepth 100000 in
set_option maxHeartbeats 4000000 in
theorem next_in (A : Option Addr) (m c : Nat) (n : Int) (es : List (Int × Int)) (k least : Int) (Aa : Option Addr) (na ca : Nat) (after : List Int) (w : World) (hE : RE w A m es) (hm : m ≤ 68719476736) (hT : Tab w) (ha : RI w Aa na after) (hna : na ≤ 1099511627776) (hnc : na ≤ ca) :
    CallsIn Fence.wide 6 Tryd.prog 30 #[.agg #[.int .i64 n, .slice A m c], .int .i64 k, .int .i64 least, .slice Aa na ca] w (RetN w (nextO n es k least after) (errP n es k least)) := by
  have kc := fun w h => pcheck_any A m c n es k least w h (by omega)
  refine callsIn_of_wp_marks Tryd.func30 rfl trivial ?_ rfl
  simp only [Tryd.ntmps30, List.size_toArray, List.length_cons, List.length_nil, Nat.reduceAdd, Nat.reduceSub, Array.replicate_succ, Array.replicate_zero, List.push_toArray, List.append_toArray, List.nil_append, List.cons_append]
  obtain ⟨w4, hw4⟩ : ∃ w4, (((w.alloc (.cells #[.int .i64 n, .slice A m c] 27)).alloc (.cells #[.slice none 0 0] 22)).alloc (.cells #[.bool false] 4)).alloc (.cells #[.int .i64 0] 32) = w4 := ⟨_, rfl⟩
  have bg : Blk w4 w.heap.size 27 #[.int .i64 n, .slice A m c] := by rw [← hw4]; exact (((Blk.new w _ _).alloc _).alloc _).alloc _
  have br : Blk w4 (w.heap.size + 1) 22 #[.slice none 0 0] := by rw [← hw4]; have := Blk.new (w.alloc (.cells #[.int .i64 n, .slice A m c] 27)) 22 #[.slice none 0 0]; rw [World.size_alloc] at this; exact (this.alloc _).alloc _
  have bk : Blk w4 (w.heap.size + 1 + 1) 4 #[.bool false] := by rw [← hw4]; have := Blk.new ((w.alloc (.cells #[.int .i64 n, .slice A m c] 27)).alloc (.cells #[.slice none 0 0] 22)) 4 #[.bool false]; rw [World.size_alloc, World.size_alloc] at this; exact this.alloc _
  have be : Blk w4 (w.heap.size + 1 + 1 + 1) 32 #[.int .i64 0] := by rw [← hw4]; have := Blk.new (((w.alloc (.cells #[.int .i64 n, .slice A m c] 27)).alloc (.cells #[.slice none 0 0] 22)).alloc (.cells #[.bool false] 4)) 32 #[.int .i64 0]; rw [World.size_alloc, World.size_alloc, World.size_alloc] at this; exact this
  have hB4 : Below w.heap.size w w4 := by rw [← hw4]; exact ((((Below.refl _ w).alloc (Nat.le_refl _) _).alloc (by simp) _).alloc (by simp; omega) _).alloc (by simp; omega) _
  have hz4 : w4.heap.size = w.heap.size + 1 + 1 + 1 + 1 := by rw [← hw4]; simp
  have g0 := Blk.cell bg 0
  have g1 := Blk.cell bg 1
  simp at g0 g1
  by_cases h0 : errP n es k least ≠ 0
  · have hfl : nextO n es k least after = none := by unfold nextO; rw [if_neg h0]
    rw [hfl]
    have hq : (errP n es k least != 0) = true := by simpa using h0
    generalize errP n es k least = z at *
    clear hfl
    replace h0 := Lib.hid h0
    replace kc := Lib.hid kc
    gi_wp2_with (first | (refine ⟨trivial, ?_⟩; gi_at_call 39; refine (callsIn_wide.2 (kc.out w4 (hE.below hB4 (Nat.le_refl _)))).mono ?_; rintro e w5 ⟨rfl, hb5⟩; have br5 := br.below hb5 br.lt; have bk5 := bk.below hb5 bk.lt; have be5 := be.below hb5 be.lt; have r0 := Blk.cell br5 0; have r3 := Blk.cell bk5 0; have r1 := Blk.cell be5 0; simp at r0 r1 r3; have rf := Blk.frozen br5 0; have kf := Blk.frozen bk5 0; have ef := Blk.frozen be5 0) | fail)
    have s1 := Same.set w5 (w.heap.size + 1) 0 (.slice none 0 0)
    have s2 := Same.set (w5.setCell ⟨w.heap.size + 1, 0, none⟩ (.slice none 0 0)) (w.heap.size + 1 + 1) 0 (.bool false)
    have s3 := Same.set ((w5.setCell ⟨w.heap.size + 1, 0, none⟩ (.slice none 0 0)).setCell ⟨w.heap.size + 1 + 1, 0, none⟩ (.bool false)) (w.heap.size + 1 + 1 + 1) 0 (.int .i64 z)
    have r7 := Blk.cell (s3.blk (s2.blk (Blk.set br5 0 (.slice none 0 0)) (by omega)) (by omega)) 0
    have r8 := Blk.cell (s3.blk (Blk.set (s1.blk bk5 (by omega)) 0 (.bool false)) (by omega)) 0
    have r9 := Blk.cell (Blk.set (s2.blk (s1.blk be5 (by omega)) (by omega)) 0 (.int .i64 z)) 0
    simp at r7 r8 r9
    refine ⟨.tuple #[.slice none 0 0, .bool false, .int .i64 z], by simp [results, Tryd.results30, go_sem, r7, r8, r9], _, _, _, rfl, Nat.le_refl _, RI.none_, ?_⟩
    exact (((hB4.trans (hb5.mono (by omega))).setCell (p := ⟨w.heap.size + 1, 0, none⟩) (by simp) _).setCell (p := ⟨w.heap.size + 1 + 1, 0, none⟩) (by simp; omega) _).setCell (p := ⟨w.heap.size + 1 + 1 + 1, 0, none⟩) (by simp; omega) _
  · have h00 : errP n es k least = 0 := by omega
    obtain ⟨z0, z1, z2, z3, z4⟩ := errP_zero h00
    obtain ⟨N, rfl⟩ := Int.eq_ofNat_of_zero_le (chkG_zero z0).1
    obtain ⟨kk, rfl⟩ := Int.eq_ofNat_of_zero_le (show 0 ≤ k by omega)
    obtain ⟨ls, rfl⟩ := Int.eq_ofNat_of_zero_le (show 0 ≤ least by omega)
    have hNO : Hid (nextO N es kk ls after = (plexs N es kk ls after).head?) := Lib.hid (by unfold nextO; rw [if_pos h00]; rfl)
    have h00' := Lib.hid h00
    simp only [h00] at kc
    replace kc := Lib.hid kc
    have z0' := Lib.hid z0
    have hTl := hT.lt
    clear h0 h00 z0
    gi_wp2_with (first
      | (refine ⟨trivial, ?_⟩; gi_at_call 39; refine (callsIn_wide.2 (kc.out w4 (hE.below hB4 (Nat.le_refl _)))).mono ?_; rintro e w5 ⟨rfl, hb5⟩
         have bg5 := bg.below hb5 bg.lt
         have br5 := br.below hb5 br.lt
         have bk5 := bk.below hb5 bk.lt
         have be5 := be.below hb5 be.lt
         have gg0 := Blk.cell bg5 0
         have gg1 := Blk.cell bg5 1
         simp at gg0 gg1)
      | (refine ⟨trivial, ?_⟩; gi_at_call 40; refine (callsIn_wide.2 (pbehind_any A m c N kk ls Aa na ca _)).mono ?_; rintro e w7 ⟨rfl, hw7⟩)
      | fail)
    obtain ⟨w7, hw7⟩ : ∃ w7, w7 = beW w5 A m c N kk ls Aa na ca := ⟨_, rfl⟩
    rw [← hw7]
    obtain ⟨x0, x1, x2, x3, hB67, hz7⟩ := beW_blk hw7
    clear hw7
    have hz5 := hb5.size
    have br7 := br5.below hB67 br5.lt
    have bk7 := bk5.below hB67 bk5.lt
    have be7 := be5.below hB67 be5.lt
    have hB5 : Below w.heap.size w w5 := hB4.trans (hb5.mono (by omega))
    have hB7 : Below w.heap.size w w7 := hB5.trans (hB67.mono hB5.size)
    have hE7 := hE.below hB7 (Nat.le_refl _)
    have hT7 := hT.below hB7 hTl
    have ha7 := ha.below hB7 (Nat.le_refl _)
    have hal : ∀ ad, Aa = some ad → 0 < na → ad.block < w.heap.size := fun ad e hp => by
      obtain ⟨ad', e', hlt, _⟩ := ha.2 hp
      have : ad' = ad := Option.some.inj (e'.symm.trans e)
      rw [← this]; exact hlt
    have hseq := behind_seq w.heap.size A m c N es kk ls Aa na ca after w5.heap.size w7 x0 x1 x2 x3 hE7 hm z0'.out (by omega) (by omega) (by omega) (by omega) ha7 hna hnc hal hB7.size hT7 hTl
    obtain ⟨o5, ho5⟩ : ∃ o5, o5 = w5.heap.size := ⟨_, rfl⟩
    rw [← ho5] at hseq x0 x1 x2 x3 hz7 hz5
    rw [← ho5]
    clear x0 x1 x2 x3 hT7 hE7 hB67 gg0 gg1 bg5 br5 be5 bk5 hb5 hB5 kc ho5 bg br bk be g0 g1 hw4 hB4 ha7 hal
    refine wpIn_rangeFunc_O (n := 6) (gf := 64) (lb := #[.pointer (some ⟨o5, 0, none⟩), .pointer (some ⟨o5 + 2, 0, none⟩), .pointer (some ⟨o5 + 1, 0, none⟩), .pointer (some ⟨o5 + 3, 0, none⟩)]) rfl (enters_of Tryd.func64 (by kernel_rfl) rfl) hseq (Below.refl _ _) (by omega) rfl
      (fun O pre W => pre = [] ∧ Blk W (w.heap.size + 1) 22 #[.slice none 0 0] ∧ Blk W (w.heap.size + 1 + 1) 4 #[.bool false] ∧ Blk W (w.heap.size + 1 + 1 + 1) 32 #[.int .i64 0] ∧ Below w.heap.size w W)
      (fun c O pre W => c = .ret ∧ ∃ x : Lst, pre = [x] ∧ Blk W (w.heap.size + 1) 22 #[.slice x.A x.n x.c] ∧ Blk W (w.heap.size + 1 + 1) 4 #[.bool true] ∧ Blk W (w.heap.size + 1 + 1 + 1) 32 #[.int .i64 0] ∧ RO w7.heap.size O x W ∧ Below w.heap.size w W)
      ?hI ?hIx ?h0
      (fun x => { tmps := #[.agg #[.int .i64 N, .slice A m c], .int .i64 kk, .int .i64 ls, .slice Aa na ca, .pointer (some ⟨w.heap.size, 0, none⟩), undef, undef, undef, .pointer (some ⟨w.heap.size + 1, 0, none⟩), .pointer (some ⟨w.heap.size + 1 + 1, 0, none⟩), .pointer (some ⟨w.heap.size + 1 + 1 + 1, 0, none⟩), .int .i64 0, .slice x.A x.n x.c, .agg #[.int .i64 N, .slice A m c], .int .i64 kk, .int .i64 ls, .int .i64 0, .int .i64 0, .bool false, undef, .agg #[.int .i64 N, .slice A m c], .int .i64 kk, .int .i64 ls, .slice Aa na ca, .func (.func 64) #[] #[.pointer (some ⟨o5, 0, none⟩), .pointer (some ⟨o5 + 2, 0, none⟩), .pointer (some ⟨o5 + 1, 0, none⟩), .pointer (some ⟨o5 + 3, 0, none⟩)], .slice x.A x.n x.c, undef], defers := [] }) ?assign ?body ?done ?stop
    case hI =>
      rintro O O' pre W W' ⟨rfl, h4, h5, h6, h8⟩ hO hs hO'
      have low : ∀ k, k < w7.heap.size → ¬ O k := fun k hk hh => by have := hO k hh; omega
      exact ⟨rfl, hs.blk h4 (low _ (by omega)), hs.blk h5 (low _ (by omega)), hs.blk h6 (low _ (by omega)), h8.trans (hs.below h8.size (fun k hk => low k (by omega)))⟩
    case hIx =>
      rintro cc O O' pre W W' ⟨h1, x, rfl, h4, h5, h6, h7, h8⟩ hO hs hO'
      have low : ∀ k, k < w7.heap.size → ¬ O k := fun k hk hh => by have := hO k hh; omega
      refine ⟨h1, x, rfl, hs.blk h4 (low _ (by omega)), hs.blk h5 (low _ (by omega)), hs.blk h6 (low _ (by omega)), ⟨hs.ri h7.1 (fun ad e hp => (h7.2.2 ad e hp).1), h7.2.1, fun ad e hp => ?_⟩, h8.trans (hs.below h8.size (fun k hk => low k (by omega)))⟩
      obtain ⟨k1, k2, k3⟩ := h7.2.2 ad e hp
      exact ⟨fun hh => (hO' _ hh).elim k1 (fun h => by omega), k2, Nat.lt_of_lt_of_le k3 hs.size⟩
    case h0 => exact ⟨rfl, br7, bk7, be7, hB7⟩
    case assign =>
      intro l x W K hK
      gi_wp2
      exact hK
    case body =>
      rintro l O pre x W0 W ⟨rfl, h4, h5, h6, h8⟩ hs hO hsz hx hfr
      have low : ∀ k, k < w7.heap.size → ¬ O k := fun k hk hh => by have := (hO k hh).1; omega
      have hz0 := hs.size
      replace h8 : Below w.heap.size w W := h8.trans (hs.below h8.size (fun k hk => low k (by omega)))
      replace h4 := hs.blk h4 (low _ (by omega))
      replace h5 := hs.blk h5 (low _ (by omega))
      replace h6 := hs.blk h6 (low _ (by omega))
      clear hs hfr
      have c4 := Blk.cell h4 0
      have c5 := Blk.cell h5 0
      have c6 := Blk.cell h6 0
      have f4 := Blk.frozen h4 0
      have f5 := Blk.frozen h5 0
      have f6 := Blk.frozen h6 0
      simp at c4 c5 c6
      have notK : ∀ k, k < w7.heap.size → w.heap.size ≤ k → ¬ (O k ∨ k < w.heap.size) := fun k hk hk2 h => h.elim (low k hk) (fun h => by omega)
      gi_wp2
      have s1 := Same.set W (w.heap.size + 1) 0 (.slice x.A x.n x.c)
      have s2 := Same.set (W.setCell ⟨w.heap.size + 1, 0, none⟩ (.slice x.A x.n x.c)) (w.heap.size + 1 + 1) 0 (.bool true)
      have s3 := Same.set ((W.setCell ⟨w.heap.size + 1, 0, none⟩ (.slice x.A x.n x.c)).setCell ⟨w.heap.size + 1 + 1, 0, none⟩ (.bool true)) (w.heap.size + 1 + 1 + 1) 0 (.int .i64 0)
      have sA : Same (fun k => w.heap.size ≤ k ∧ k < w7.heap.size) W (((W.setCell ⟨w.heap.size + 1, 0, none⟩ (.slice x.A x.n x.c)).setCell ⟨w.heap.size + 1 + 1, 0, none⟩ (.bool true)).setCell ⟨w.heap.size + 1 + 1 + 1, 0, none⟩ (.int .i64 0)) :=
        ((s1.mono fun k _ e => by omega).trans s2 (fun k _ e => by omega)).trans s3 (fun k _ e => by omega)
      refine ⟨sA.mono fun k _ e => notK k e.2 e.1, rfl, x, rfl, s3.blk (s2.blk (Blk.set h4 0 (.slice x.A x.n x.c)) (by omega)) (by omega), s3.blk (Blk.set (s1.blk h5 (by omega)) 0 (.bool true)) (by omega), Blk.set (s2.blk (s1.blk h6 (by omega)) (by omega)) 0 (.int .i64 0), ⟨sA.ri hx.1 (fun ad e hp hh => by have := (hx.2.2 ad e hp).2.1; omega), hx.2.1, fun ad e hp => ⟨(hx.2.2 ad e hp).1, (hx.2.2 ad e hp).2.1, Nat.lt_of_lt_of_le (hx.2.2 ad e hp).2.2 sA.size⟩⟩, ?_⟩
      exact h8.trans (sA.below h8.size (fun k hk e => by omega))
    case done =>
      rintro D O xs W hOD hO hS ⟨rfl, h4, h5, h6, h8⟩ hK
      have hD := hO D hOD
      have hn0 : nextO N es kk ls after = none := by
        rw [hNO.out]
        have : plexs N es kk ls after = [] := by
          have := congrArg List.length hS
          simp at this
          exact List.eq_nil_of_length_eq_zero this.symm
        rw [this]; rfl
      replace hn0 := Lib.hid hn0
      have c4 := Blk.cell h4 0
      have c5 := Blk.cell h5 0
      have c6 := Blk.cell h6 0
      have f4 := Blk.frozen h4 0
      have f5 := Blk.frozen h5 0
      have f6 := Blk.frozen h6 0
      simp at c4 c5 c6
      clear hS hseq hNO
      gi_wp2
      have hK' := (((KeepsOthers.setCell W ⟨w.heap.size + 1, 0, none⟩ (.slice none 0 0)).trans (KeepsOthers.setCell _ ⟨w.heap.size + 1 + 1, 0, none⟩ (.bool false))).trans (KeepsOthers.setCell _ ⟨w.heap.size + 1 + 1 + 1, 0, none⟩ (.int .i64 0))).same D _ hK rfl
      refine ⟨by simp, .inl ⟨_, _, rfl, run_takeDeferred hK', ?_⟩⟩
      have s1 := Same.set W (w.heap.size + 1) 0 (.slice none 0 0)
      have s2 := Same.set (W.setCell ⟨w.heap.size + 1, 0, none⟩ (.slice none 0 0)) (w.heap.size + 1 + 1) 0 (.bool false)
      have s3 := Same.set ((W.setCell ⟨w.heap.size + 1, 0, none⟩ (.slice none 0 0)).setCell ⟨w.heap.size + 1 + 1, 0, none⟩ (.bool false)) (w.heap.size + 1 + 1 + 1) 0 (.int .i64 0)
      have s4 := Same.put (((W.setCell ⟨w.heap.size + 1, 0, none⟩ (.slice none 0 0)).setCell ⟨w.heap.size + 1 + 1, 0, none⟩ (.bool false)).setCell ⟨w.heap.size + 1 + 1 + 1, 0, none⟩ (.int .i64 0)) D (.deferred none)
      have r7 := Blk.cell (s4.blk (s3.blk (s2.blk (Blk.set h4 0 (.slice none 0 0)) (by omega)) (by omega)) (by omega)) 0
      have r8 := Blk.cell (s4.blk (s3.blk (Blk.set (s1.blk h5 (by omega)) 0 (.bool false)) (by omega)) (by omega)) 0
      have r9 := Blk.cell (s4.blk (Blk.set (s2.blk (s1.blk h6 (by omega)) (by omega)) 0 (.int .i64 0)) (by omega)) 0
      simp at r7 r8 r9
      rw [hn0.out, h00'.out]
      refine ⟨.tuple #[.slice none 0 0, .bool false, .int .i64 0], by simp [results, Tryd.results30, go_sem, r7, r8, r9], none, 0, 0, rfl, Nat.le_refl _, RI.none_, ?_⟩
      exact h8.trans (((((s1.mono fun k _ e => by omega).trans s2 (fun k _ e => by omega)).trans s3 (fun k _ e => by omega)).trans s4 (fun k _ e => by omega) : Same (fun k => w.heap.size ≤ k) _ _).below h8.size (fun k hk e => by omega))
    case stop =>
      rintro D cc O pre W hOD hO hSp ⟨rfl, x, rfl, h4, h5, h6, h7, h8⟩ hK
      have hD := hO D hOD
      have hn0 : ∃ S, nextO N es kk ls after = some S ∧ nt S = x.xs := by
        rw [hNO.out]
        cases hp : plexs N es kk ls after with
        | nil => rw [hp] at hSp; simp at hSp
        | cons S rest =>
          rw [hp] at hSp
          obtain ⟨t, ht⟩ := hSp
          simp at ht
          exact ⟨S, rfl, ht.1.symm⟩
      obtain ⟨S, hn1, hn2⟩ := hn0
      rw [hn1, h00'.out]
      clear hn1 hSp hseq hNO
      gi_wp2
      refine ⟨by simp, .inl ⟨_, _, rfl, run_takeDeferred hK, ?_⟩⟩
      have s4 := Same.put W D (.deferred none)
      have r7 := Blk.cell (s4.blk h4 (by omega)) 0
      have r8 := Blk.cell (s4.blk h5 (by omega)) 0
      have r9 := Blk.cell (s4.blk h6 (by omega)) 0
      simp at r7 r8 r9
      refine ⟨.tuple #[.slice x.A x.n x.c, .bool true, .int .i64 0], by simp [results, Tryd.results30, go_sem, r7, r8, r9], x.A, x.n, x.c, rfl, h7.2.1, ?_, ?_⟩
      · show RI _ x.A x.n (nt S)
        rw [hn2]
        exact s4.ri h7.1 (fun ad e hp hh => (h7.2.2 ad e hp).1 (by rw [hh]; exact hOD))
      · exact h8.trans (s4.below h8.size (fun k hk e => by omega))
end Go.Proofs.YtfefginhlliccaaDoor.Pl
