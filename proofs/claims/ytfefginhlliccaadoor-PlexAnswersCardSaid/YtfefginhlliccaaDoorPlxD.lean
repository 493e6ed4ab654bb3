/- Package plex: check, behind, and what behind hands out. -/
import Derived.Test.YtfefginhlliccaaDoorPlxC
import Derived.Test.YtfefginhlliccaaDoorPlxN
import Derived.Laws.EntriesVeiled
set_option linter.unusedVariables false
set_option linter.unusedSimpArgs false
namespace Go.Proofs.YtfefginhlliccaaDoor.Pl
open Go.RowKit Go.Shelf CoBit CoCli Go.Proofs.YtfefginhlliccaaDoor

/-- The first error of a graph, a slack and a least size. -/
def errP (n : Int) (es : List (Int × Int)) (k least : Int) : Int := if chkG n es ≠ 0 then chkG n es else if 1 ≤ k ∧ k ≤ 3 ∧ 1 ≤ least ∧ least ≤ 64 then 0 else 1
theorem errP_zero {n : Int} {es : List (Int × Int)} {k least : Int} (h : errP n es k least = 0) : chkG n es = 0 ∧ 1 ≤ k ∧ k ≤ 3 ∧ 1 ≤ least ∧ least ≤ 64 := by
  unfold errP at h
  by_cases h0 : chkG n es ≠ 0
  · rw [if_pos h0] at h; exact absurd h h0
  · rw [if_neg h0] at h
    by_cases h1 : 1 ≤ k ∧ k ≤ 3 ∧ 1 ≤ least ∧ least ≤ 64
    · exact ⟨by omega, h1⟩
    · rw [if_neg h1] at h; cases h
set_option maxHeartbeats 1000000 in
theorem pcheck_any (A : Option Addr) (m c : Nat) (n : Int) (es : List (Int × Int)) (k least : Int) (w : World) (h : RE w A m es) (hm : m ≤ 1099511627776) :
    Calls Tryd.prog 39 #[.agg #[.int .i64 n, .slice A m c], .int .i64 k, .int .i64 least] w fun e w' => e = .returned (.int .i64 (errP n es k least)) ∧ Below w.heap.size w w' := by
  have hg := fun w h => gcheck_any A m c n es w h hm
  by_cases h0 : chkG n es = 0
  · have hz : errP n es k least = if 1 ≤ k ∧ k ≤ 3 ∧ 1 ≤ least ∧ least ≤ 64 then 0 else 1 := by unfold errP; rw [if_neg (by omega)]
    simp only [h0] at hg
    by_cases h1 : 1 ≤ k ∧ k ≤ 3
    · have q1 : decide (1 ≤ k ∧ k ≤ 3) = true := decide_eq_true h1
      by_cases h2 : least < 1
      · have hf : errP n es k least = 1 := by rw [hz, if_neg (by omega)]
        have q2 : decide (least < 1) = true := decide_eq_true h2
        replace hf := Lib.hid hf
        replace hg := Lib.hid hg
        clear hz h0 h1
        have hs := slack_any k
        rw [q1] at hs
        replace hs := Lib.hid hs
        clear q1
        go_enter Tryd.func39, Tryd.ntmps39
        go_wp2_with (first | (go_at_call 45; refine (hg.out _ (h.alloc _)).mono ?_; rintro e w1 ⟨rfl, hb1⟩) | (go_at_call 46; refine (hs.out _).mono ?_; rintro e w2 ⟨rfl, hw2⟩; obtain rfl := hw2.symm) | fail)
        go_ret
        exact ⟨by rw [hf.out]; rfl, ((Below.refl _ _).alloc (Nat.le_refl _) _).trans (hb1.mono (by simp))⟩
      · have q2 : decide (least < 1) = false := decide_eq_false h2
        by_cases h3 : 64 < least
        · have hf : errP n es k least = 1 := by rw [hz, if_neg (by omega)]
          have q3 : decide (64 < least) = true := decide_eq_true h3
          replace hf := Lib.hid hf
          replace hg := Lib.hid hg
          clear hz h0 h1
          have hs := slack_any k
          rw [q1] at hs
          replace hs := Lib.hid hs
          clear q1
          go_enter Tryd.func39, Tryd.ntmps39
          go_wp2_with (first | (go_at_call 45; refine (hg.out _ (h.alloc _)).mono ?_; rintro e w1 ⟨rfl, hb1⟩) | (go_at_call 46; refine (hs.out _).mono ?_; rintro e w2 ⟨rfl, hw2⟩; obtain rfl := hw2.symm) | fail)
          go_ret
          exact ⟨by rw [hf.out]; rfl, ((Below.refl _ _).alloc (Nat.le_refl _) _).trans (hb1.mono (by simp))⟩
        · have hf : errP n es k least = 0 := by rw [hz, if_pos (by omega)]
          have q3 : decide (64 < least) = false := decide_eq_false h3
          replace hf := Lib.hid hf
          replace hg := Lib.hid hg
          clear hz h0 h1
          have hs := slack_any k
          rw [q1] at hs
          replace hs := Lib.hid hs
          clear q1
          go_enter Tryd.func39, Tryd.ntmps39
          go_wp2_with (first | (go_at_call 45; refine (hg.out _ (h.alloc _)).mono ?_; rintro e w1 ⟨rfl, hb1⟩) | (go_at_call 46; refine (hs.out _).mono ?_; rintro e w2 ⟨rfl, hw2⟩; obtain rfl := hw2.symm) | fail)
          go_ret
          exact ⟨by rw [hf.out]; rfl, ((Below.refl _ _).alloc (Nat.le_refl _) _).trans (hb1.mono (by simp))⟩
    · have q1 : decide (1 ≤ k ∧ k ≤ 3) = false := decide_eq_false h1
      have hf : errP n es k least = 1 := by rw [hz, if_neg (by omega)]
      replace hf := Lib.hid hf
      replace hg := Lib.hid hg
      clear hz h0 h1
      have hs := slack_any k
      rw [q1] at hs
      replace hs := Lib.hid hs
      clear q1
      go_enter Tryd.func39, Tryd.ntmps39
      go_wp2_with (first | (go_at_call 45; refine (hg.out _ (h.alloc _)).mono ?_; rintro e w1 ⟨rfl, hb1⟩) | (go_at_call 46; refine (hs.out _).mono ?_; rintro e w2 ⟨rfl, hw2⟩; obtain rfl := hw2.symm) | fail)
      go_ret
      exact ⟨by rw [hf.out]; rfl, ((Below.refl _ _).alloc (Nat.le_refl _) _).trans (hb1.mono (by simp))⟩
  · have hf : errP n es k least = chkG n es := by unfold errP; rw [if_pos h0]
    generalize chkG n es = z at *
    have q1 : (z != 0) = true := by simp [h0]
    replace hf := Lib.hid hf
    replace hg := Lib.hid hg
    clear h0
    go_enter Tryd.func39, Tryd.ntmps39
    go_wp2_with (first | (go_at_call 45; refine (hg.out _ (h.alloc _)).mono ?_; rintro e w1 ⟨rfl, hb1⟩) | fail)
    go_ret
    exact ⟨by rw [hf.out]; rfl, ((Below.refl _ _).alloc (Nat.le_refl _) _).trans (hb1.mono (by simp))⟩

/-- What behind lays: the boxes of its parameters. -/
def beW (w : World) (A : Option Addr) (m c : Nat) (n k least : Int) (Aa : Option Addr) (na ca : Nat) : World :=
  (((w.alloc (.cells #[.int .i64 n, .slice A m c] 27)).alloc (.cells #[.int .i64 k] 3)).alloc (.cells #[.int .i64 least] 3)).alloc (.cells #[.slice Aa na ca] 22)
set_option maxHeartbeats 1000000 in
theorem pbehind_any (A : Option Addr) (m c : Nat) (n k least : Int) (Aa : Option Addr) (na ca : Nat) (w : World) :
    Calls Tryd.prog 40 #[.agg #[.int .i64 n, .slice A m c], .int .i64 k, .int .i64 least, .slice Aa na ca] w fun e w' =>
      e = .returned (.func (.func 64) #[] #[.pointer (some ⟨w.heap.size, 0, none⟩), .pointer (some ⟨w.heap.size + 2, 0, none⟩), .pointer (some ⟨w.heap.size + 1, 0, none⟩), .pointer (some ⟨w.heap.size + 3, 0, none⟩)]) ∧
      w' = beW w A m c n k least Aa na ca := by
  unfold beW
  go_enter Tryd.func40, Tryd.ntmps40
  go_wp2
  go_ret
  exact ⟨rfl, rfl⟩
theorem nt_toNat {l : List Int} {n : Nat} (h : Vld l n) : nt (l.map Int.toNat) = l ∧ (l.map Int.toNat).Pairwise (· < ·) ∧ ∀ x ∈ l.map Int.toNat, x < n := by
  refine ⟨?_, ?_, fun x hx => ?_⟩
  · unfold nt
    rw [List.map_map]
    refine (List.map_congr_left fun x hx => ?_).trans (List.map_id _)
    exact Int.toNat_of_nonneg (h.1 x hx).1
  · refine List.pairwise_map.2 (h.2.imp_of_mem fun {a b} ha hb hab => ?_)
    have := (h.1 a ha).1
    have := (h.1 b hb).1
    omega
  · rw [List.mem_map] at hx
    obtain ⟨y, hy, rfl⟩ := hx
    have := h.1 y hy
    omega

set_option maxRecDepth 100000 in
set_option maxHeartbeats 4000000 in
/-- The iterator of behind hands out the maximal k-plexes in order. -/
theorem behind_seq (n0 : Nat) (A : Option Addr) (m c : Nat) (n : Nat) (es : List (Int × Int)) (k least : Nat) (Aa : Option Addr) (na ca : Nat) (after : List Int) (b : Nat) (w : World)
    (hg : Blk w b 27 #[.int .i64 n, .slice A m c]) (hbk : Blk w (b + 1) 3 #[.int .i64 k]) (hbl : Blk w (b + 2) 3 #[.int .i64 least]) (hba : Blk w (b + 3) 22 #[.slice Aa na ca])
    (hE : RE w A m es) (hm : m ≤ 68719476736) (hc : chkG n es = 0) (hk1 : 1 ≤ k) (hk : k ≤ 3) (hl1 : 1 ≤ least) (hl : least ≤ 64) (ha : RI w Aa na after) (hna : na ≤ 1099511627776) (hnc : na ≤ ca) (hal : ∀ ad, Aa = some ad → 0 < na → ad.block < n0) (hn0 : n0 ≤ w.heap.size)
    (hT : Tab w) (hgt : 0 < n0) :
    SeqO 5 n0 64 #[.pointer (some ⟨b, 0, none⟩), .pointer (some ⟨b + 2, 0, none⟩), .pointer (some ⟨b + 1, 0, none⟩), .pointer (some ⟨b + 3, 0, none⟩)]
      (fun ys => ys.map Lst.xs = (plexs n es k least after).map nt) (fun pre => pre.map Lst.xs <+: (plexs n es k least after).map nt) w := fun l J Jx W hW hJ hJx hY h0 => by
  have hn64 : n ≤ 64 := by have := (chkG_zero hc).2.1; omega
  refine callsIn_wide.2 ?_
  show Calls Tryd.prog 64 #[.func (.yield l) #[] #[], .pointer (some ⟨b, 0, none⟩), .pointer (some ⟨b + 2, 0, none⟩), .pointer (some ⟨b + 1, 0, none⟩), .pointer (some ⟨b + 3, 0, none⟩)] W _
  have hsz := hW.size
  replace hE := hE.below hW (Nat.le_refl _)
  replace ha := ha.below hW (Nat.le_refl _)
  replace hT := hT.below hW (by omega)
  replace hg := hg.below hW hg.lt
  replace hbk := hbk.below hW hbk.lt
  replace hbl := hbl.below hW hbl.lt
  replace hba := hba.below hW hba.lt
  clear hW
  have hlt3 := hba.lt
  have i1 : IntKind.i64.wrap ((least : Int) - (k : Int)) = (least : Int) - (k : Int) := by rw [IntKind.wrap_i64]; omega
  have e0 := Blk.cell hg 0
  have e1 := Blk.cell hg 1
  have e2 := Blk.cell hbk 0
  have e3 := Blk.cell hbl 0
  have e4 := Blk.cell hba 0
  simp at e0 e1 e2 e3 e4
  have kc := cCore_any A m c n ((least : Int) - (k : Int)) es W hT hE hm
  have hc' := Lib.hid hc
  simp only [hc] at kc
  replace kc := Lib.hid kc
  clear hc
  go_enter Tryd.func64, Tryd.ntmps64
  go_upto_region 1 with (first | (go_at_call 54; refine kc.out.mono ?_; rintro e w1 ⟨lc, ⟨A1, n1, c1, rfl, hc1, hr1, hb1, hf1⟩, hcl⟩) | fail)
  obtain ⟨hv1, hv2⟩ := hcl.1 hc'.out
  obtain ⟨hnt, hsL, hLn⟩ := nt_toNat hv1
  have hcoreL : ∀ v : Nat, inC (nbG n es) n ((least : Int) - (k : Int)) v → v ∈ lc.map Int.toNat := fun v hv => List.mem_map.2 ⟨(v : Int), (hv2 v).2 hv, by simp⟩
  have hL64 : ∀ x ∈ lc.map Int.toNat, x < 64 := fun x hx => Nat.lt_of_lt_of_le (hLn x hx) hn64
  have hfe := found_eq hc'.out hn64 hk1 (after := after) hsL hLn hcoreL
  have hn1 : n1 = (lc.map Int.toNat).length := by rw [List.length_map]; exact hr1.len.symm
  have hll : (lc.map Int.toNat).length ≤ n := by
    have := List.Nodup.length_le_of_subset (l₁ := lc.map Int.toNat) (l₂ := List.range n) (hsL.imp (fun h => Nat.ne_of_lt h)) (fun x hx => List.mem_range.2 (hLn x hx))
    rwa [List.length_range] at this
  rw [← hnt] at hr1
  generalize lc.map Int.toNat = L at *
  have hbl2 := bl_msk hsL hL64
  have hXlt := mskN_lt hL64
  have hXn : ∀ i, (mskN L).testBit i = true → i < n := fun i hi => by rw [mskN_bit, decide_eq_true_iff] at hi; exact hLn i hi
  -- the worlds behind the core
  replace hE := hE.below hb1 (Nat.le_refl _)
  replace ha := ha.below hb1 (Nat.le_refl _)
  replace hT := hT.below hb1 (by omega)
  replace hg := hg.below hb1 hg.lt
  replace hbk := hbk.below hb1 hbk.lt
  replace hbl := hbl.below hb1 hbl.lt
  replace hba := hba.below hb1 hba.lt
  have hsz1 := hb1.size
  have hlt1 := hba.lt
  clear e0 e1 e2 e3 e4 kc hcl hv1 hv2 hnt hcoreL i1
  have e0 := Blk.cell hg 0
  have e1 := Blk.cell hg 1
  have e2 := Blk.cell hbk 0
  have e3 := Blk.cell hbl 0
  have e4 := Blk.cell hba 0
  simp at e0 e1 e2 e3 e4
  have hmk := fun w h => pmasks_any A m c n es w h (by omega) hn64 hc'.out
  replace hmk := Lib.hid hmk
  replace hn1 := Lib.hid hn1
  replace hfe := Lib.hid hfe
  replace hbl2 := Lib.hid hbl2
  have hc'2 := hc'
  clear hc'
  go_cut [8] (fun q wc => ∃ sb gr : Nat, q = .pointer (some ⟨sb, 0, none⟩) ∧ Blk wc sb 88 #[.slice (some ⟨gr, 0, none⟩) n n, .int .i64 k, .int .i64 least, .slice Aa na ca, .slice none 0 0] ∧ AU wc gr (rowsL n es) ∧ Hid (gr ≠ sb) ∧ w1.heap.size ≤ gr ∧ w1.heap.size ≤ sb ∧ Below w1.heap.size w1 wc)
  case first =>
    go_region_held3 (fun w' => w'.cell? ⟨b, 0, none⟩ = some (.int .i64 n) ∧ w'.cell? ⟨b, 1, none⟩ = some (.slice A m c) ∧ w'.cell? ⟨b + 1, 0, none⟩ = some (.int .i64 k) ∧ w'.cell? ⟨b + 2, 0, none⟩ = some (.int .i64 least) ∧ w'.cell? ⟨b + 3, 0, none⟩ = some (.slice Aa na ca))
      ((first | (exact ⟨(hbm.cell (p := ⟨b, 0, none⟩) (show b < w1.heap.size by omega)).trans e0, (hbm.cell (p := ⟨b, 1, none⟩) (show b < w1.heap.size by omega)).trans e1, (hbm.cell (p := ⟨b + 1, 0, none⟩) (show b + 1 < w1.heap.size by omega)).trans e2, (hbm.cell (p := ⟨b + 2, 0, none⟩) (show b + 2 < w1.heap.size by omega)).trans e3, (hbm.cell (p := ⟨b + 3, 0, none⟩) (show b + 3 < w1.heap.size by omega)).trans e4⟩) | go_keep))
      ((go_at_call 49; refine (hmk.out _ (by first | exact hE | exact hE.drewN _)).mono ?_; rintro e w2 ⟨gr, rfl, hgr, hA2, hbm⟩))
    all_goals
      go_wp2_with fail
      go_meet
      case rel =>
        have hlt2 := hA2.lt
        exact ⟨_, gr, rfl, Blk.new _ _ _, hA2.alloc _, Lib.hid (by omega), hgr, hbm.size, (((Below.refl w1.heap.size w1).drew).trans hbm).alloc hbm.size _⟩
  case rest =>
    obtain ⟨sb, gr, rfl, hsb, hA, hne, hgr, hsb1, hB⟩ := hcut
    have hBW : Below W.heap.size W wc := hb1.trans (hB.mono hsz1)
    have hltO : ∀ x, (x = sb ∨ x = gr) → W.heap.size ≤ x ∧ x < wc.heap.size := fun x hx => by
      have h1 := hsb.lt
      have h2 := hA.lt
      rcases hx with rfl | rfl
      · exact ⟨by omega, h1⟩
      · exact ⟨by omega, h2⟩
    have hS : St n0 W.heap.size gr sb n (rowsL n es) k least Aa na ca after (fun x => x = sb ∨ x = gr) wc (.slice none 0 0) [] :=
      ⟨hsb, hA, OI.nil_, .inl rfl, .inr rfl, (fun _ h => (by cases h)), hT.below hB (by omega), ha.below hB (Nat.le_refl _), hal, hltO, hne.out, hgt⟩
    have hJ1 : J (fun x => x = sb ∨ x = gr) [] wc := hJ _ _ _ _ _ h0 (fun _ h => h.elim) (Same.of_below hBW (Nat.le_refl _) _) (fun x hx => .inr (by rcases hx with rfl | rfl <;> omega))
    have hY2 : ∀ O pre x W0 W1, J O pre W0 → Same (fun _ => False) W0 W1 → (∀ k, O k → W.heap.size ≤ k ∧ k < W0.heap.size) → W.heap.size ≤ W0.heap.size → RO W.heap.size O x W1 → (∀ ad, x.A = some ad → 0 < x.n → W0.heap.size ≤ ad.block) → YieldAt Fence.wide 4 Tryd.prog l #[.slice x.A x.n x.c] W1 fun e W' =>
        ∃ b : Bool, e = .returned (.bool b) ∧ Same (fun k => ¬ (O k ∨ k < n0)) W1 W' ∧ (b = true → J O (pre ++ [x]) W') ∧ (b = false → Jx O (pre ++ [x]) W') := fun O pre x W0 W1 h1 h2 h3 h4 h5 h6 => YieldAt.mono (hY O pre x W0 W1 h1 h2 h3 h4 h5 h6) fun e W' h => by
      rcases h with ⟨h5, h6, h7⟩ | ⟨h5, h6, h7⟩
      · exact ⟨true, h5, h7, fun _ => h6, fun h => (by cases h)⟩
      · exact ⟨false, h5, h7, fun h => (by cases h), fun _ => h6⟩
    have hblL : bl (mskN L) = L := hbl2.out
    have hin := inner_any n0 W.heap.size l gr sb n (rowsL n es) (rowsL_length n es) hn64 (rows_lt es hn64) k least hk hl Aa na ca after hna hnc (by omega) J Jx hJ hJx hY2 ((bl (mskN L)).length + 1) (mskN L) 0 [] [] true _ [] (.slice none 0 0) wc (by omega) hXlt (by omega) hXn (fun i h => by simp at h) (fun i => by simp) (fun _ h => by simp at h) List.Pairwise.nil (fun _ h => by simp at h) (by rw [hblL]; simp; omega) hJ1 hS
    rw [hblL] at hin
    have hmsk := fun w h => mask_any A1 n1 c1 L w h (by have := hn1.out; omega) hL64
    have hr2 := hr1.below hB (Nat.le_refl _)
    replace hin := Lib.hid hin
    replace hmsk := Lib.hid hmsk
    clear hY2 hY hJ1 hS hblL hbl2 hJ hJx hmk hE ha hT hg hbk hbl hba e0 e1 e2 e3 e4
    generalize hX : mskN L = X at *
    replace hX := Lib.hid hX
    go_wp2_with (first | (go_at_call 50; refine (hmsk.out _ hr2).mono ?_; rintro e w3 ⟨rfl, hw3⟩; obtain rfl := hw3.symm) | (go_at_call 65; refine hin.out.mono ?_; rintro e w4 ⟨bb, O4, xs4, pv4, rfl, hS4, hT4, hF4⟩) | fail)
    go_end0
    refine ⟨⟨_, rfl⟩, ?_⟩
    cases bb with
    | true => exact .inl ⟨O4, xs4, fun k hk => (hS4.lt k hk).1, (hT4.out rfl).1.trans (by rw [hfe.out]), (hT4.out rfl).2⟩
    | false => exact .inr ⟨O4, xs4, fun k hk => (hS4.lt k hk).1, (by rw [← hfe.out]; exact (hF4.out rfl).1), (hF4.out rfl).2⟩
end Go.Proofs.YtfefginhlliccaaDoor.Pl
