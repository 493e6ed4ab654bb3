/- levels.Build and levels.Numbers. -/
import Derived.Test.YticekkjambkifaaDoorBldA
set_option linter.unusedVariables false
set_option linter.unusedSimpArgs false
namespace Go.Proofs.YticekkjambkifaaDoor.Fl
open Go.RowKit Go.Proofs.YticekkjambkifaaDoor CoBit CoRat Rt

theorem rs_get5 {w : World} {A : Option Addr} {k j : Nat} {rs : List Dn} (h : RS DE w A k rs) (hj : j < k) : ∃ ad r, A = some ad ∧ ad.block < w.heap.size ∧ Hid (rs[j]? = some r) ∧ w.cell? (ad.add (j * 5)) = some (.slice r.A r.n r.c) ∧ w.cell? ⟨(ad.add (j * 5)).block, (ad.add (j * 5)).off + 1, none⟩ = some (.int .i64 r.N) ∧ w.cell? ⟨(ad.add (j * 5)).block, (ad.add (j * 5)).off + 2, none⟩ = some (.int .i64 r.D) ∧ w.cell? ⟨(ad.add (j * 5)).block, (ad.add (j * 5)).off + 3, none⟩ = some (.int .i64 r.e) ∧ w.cell? ⟨(ad.add (j * 5)).block, (ad.add (j * 5)).off + 4, none⟩ = some (.slice r.P r.m r.k) := by
  obtain ⟨ad, r, e, hb, hr, hc⟩ := h.get hj
  exact ⟨ad, r, e, hb, hr, hc 0 _ rfl, hc 1 _ rfl, hc 2 _ rfl, hc 3 _ rfl, hc 4 _ rfl⟩
theorem LvR.kept {w w' : World} {A : Option Addr} {k g b : Nat} {ls : List (Nat × Nat × Nat)} {rs : List Dn} (h : LvR w A k ls rs) (hg : w.grownBy w' (some g)) (hA : Fr b A) (hr : ∀ r ∈ rs, ∀ ad, r.A = some ad → b ≤ ad.block) (hgb : g < b) : LvR w' A k ls rs :=
  ⟨h.rd.kept hg (fun ad e => by intro e2; injection e2 with e2; have := hA ad e; omega), h.len, fun i r l h1 h2 => by
    obtain ⟨a1, a2, a3, a4, a5, a6, a7, a8⟩ := h.el i r l h1 h2
    exact ⟨a1, a2, a3, a4, a5, a6, RI.kept a7 hg (fun ad e => by intro e2; injection e2 with e2; have := hr r (List.mem_of_getElem? h1) ad e; omega), a8⟩⟩
theorem gb_alloc_ {w w' : World} {g : Nat} (h : w.grownBy w' (some g)) (o : Obj) : w.grownBy (w'.alloc o) (some g) := grown_below h ((Below.refl w'.heap.size w').alloc (Nat.le_refl _) o) h.size
/-- levels.Build of a valid graph. -/
def RetBuild (w : World) (n : Nat) (es : List (Int × Int)) (e : Ending) (w' : World) : Prop := ∃ (A : Option Addr) (k c : Nat) (ls : List (Nat × Nat × Nat)) (rs : List Dn), e = .returned (.tuple #[.slice A k c, .int .i64 0]) ∧ k ≤ c ∧ LvP n es 0 ls ∧ LvR w' A k ls rs ∧ Below w.heap.size w w' ∧ k ≤ 64 ∧ Fr w.heap.size A ∧ (∀ r ∈ rs, ∀ ad, r.A = some ad → w.heap.size ≤ ad.block) ∧ At0 A
set_option maxRecDepth 100000 in
set_option maxHeartbeats 4000000 in
theorem lbuild_any (A : Option Addr) (m c n : Nat) (es : List (Int × Int)) (w : World) (h : RE w A m es) (hT : Tab w) (hm : m ≤ 4096) (hz : chkG n es = 0) (hn : n ≤ 64) :
    Calls Tryd.prog 17 #[.agg #[.int .i64 (n : Nat), .slice A m c]] w (RetBuild w n es) := by
  have kc := fun w h => gcheck_any A m c n es w h (by omega)
  rw [hz] at kc
  replace kc := Lib.hid kc
  have kb := Lib.hid (fun w h hT => build_any A m c n es w h hT hm hz hn)
  have G0 := Blk.new w 25 #[.int .i64 (n : Nat), .slice A m c]
  have E0 := h.alloc (.cells #[.int .i64 (n : Nat), .slice A m c] 25)
  have B0 : Below w.heap.size w (w.alloc (.cells #[.int .i64 (n : Nat), .slice A m c] 25)) := (Below.refl _ w).alloc (Nat.le_refl _) _
  have T0 := hT.keep B0
  clear h hT hz
  go_enter Tryd.func17, Tryd.ntmps17
  go_upto_region 1 with fail
  generalize w.alloc (.cells #[.int .i64 (n : Nat), .slice A m c] 25) = W at *
  obtain ⟨d0, d1⟩ := blkG G0
  go_upto_region 2 with (first | (go_at_call 52; (with_reducible refine (kc.out _ E0).mono ?_); rintro e w1 ⟨rfl, hb1⟩) | fail)
  have G1 := G0.below hb1 G0.lt
  have E1 := E0.below hb1 (Nat.le_refl _)
  have T1 := T0.keep hb1
  have B1 := B0.trans (hb1.mono B0.size)
  clear G0 E0 T0 B0 d0 d1 hb1
  obtain ⟨d0, d1⟩ := blkG G1
  go_wp2_with (first | (go_at_call 53; (with_reducible refine (kb.out _ E1 T1).mono ?_); intro e w2 hq; obtain ⟨A', k, c', ls, rs, rfl, hkc, h1, h2, h3, h4, h5, h6, h7⟩ := hq) | fail)
  go_ret2
  have hs := B1.size
  exact ⟨A', k, c', ls, rs, rfl, hkc, h1, h2, B1.trans (h3.mono hs), h4, fun ad e => Nat.le_trans hs (h5 ad e), fun r hr ad e => Nat.le_trans hs (h6 r hr ad e), h7⟩

theorem frac_info' : (Tryd.prog.info? 36).map (fun i => (i.zero, i.size, i.bytes)) = some (some (.agg #[.int .i64 0, .int .i64 0]), 2, 16) := by kernel_rfl
theorem edgs_rep (k : Nat) (a b : Int) : edgs (List.replicate k (a, b)) = (List.replicate k [Value.int .i64 a, .int .i64 b]).flatten := by
  induction k with
  | zero => rfl
  | succ k ih => rw [List.replicate_succ, edgs_cons, ih, List.replicate_succ]; rfl
theorem made_two (z : Value) (n : Nat) : (madeCells #[z, z] n).toList = List.replicate n z := by
  unfold madeCells
  rw [Array.toList_map, Array.toList_range, List.eq_replicate_iff]
  refine ⟨by simp, fun b hb => ?_⟩
  obtain ⟨i, -, rfl⟩ := List.mem_map.1 hb
  have h : i % (#[z, z] : Array Value).size = 0 ∨ i % (#[z, z] : Array Value).size = 1 := by
    have : (#[z, z] : Array Value).size = 2 := rfl
    rw [this]; omega
  rcases h with h | h <;> rw [h] <;> rfl
theorem edgs_zero (k : Nat) : edgs (List.replicate k (0, 0)) = List.replicate (k * 2) (.int .i64 0) := by
  induction k with
  | zero => rfl
  | succ k ih => rw [List.replicate_succ, edgs_cons, ih, show (k + 1) * 2 = k * 2 + 1 + 1 by omega, List.replicate_succ, List.replicate_succ]
theorem edgs_set {xs : List (Int × Int)} {v : Nat} (a b : Int) : ((edgs xs).set (v * 2) (.int .i64 a)).set (v * 2 + 1) (.int .i64 b) = edgs (xs.set v (a, b)) := by
  induction xs generalizing v with
  | nil => rfl
  | cons e xs ih =>
    cases v with
    | zero => rfl
    | succ v =>
      rw [edgs_cons, List.set_cons_succ, edgs_cons, show (v + 1) * 2 = v * 2 + 1 + 1 by omega, List.set_cons_succ, List.set_cons_succ, List.set_cons_succ, List.set_cons_succ, ih]
/-- Block g holds a fraction for each node. -/
def FL (w : World) (g n : Nat) (f : Nat → Int × Int) : Prop := Blk w g 36 (edgs ((List.range n).map f)).toArray
section
variable {w w' : World} {g n : Nat} {f f' : Nat → Int × Int}
theorem FL.congr (h : FL w g n f) (he : ∀ v, v < n → f v = f' v) : FL w g n f' := by
  unfold FL
  rw [← List.map_congr_left fun v hv => he v (List.mem_range.1 hv)]
  exact h
theorem FL.cell (h : FL w g n f) {v : Nat} (hv : v < n) : w.cell? ⟨g, v * 2, none⟩ = some (.int .i64 (f v).1) ∧ w.cell? ⟨g, v * 2 + 1, none⟩ = some (.int .i64 (f v).2) := by
  have hx : ((List.range n).map f)[v]? = some (f v) := by rw [List.getElem?_map, List.getElem?_range hv]; rfl
  obtain ⟨h1, h2⟩ := edgs_at hx
  exact ⟨by rw [Blk.cell h]; simpa using h1, by rw [Blk.cell h]; simpa using h2⟩
theorem FL.set (h : FL w g n f) {v : Nat} (hv : v < n) (a b : Int) : FL ((w.setCell ⟨g, v * 2, none⟩ (.int .i64 a)).setCell ⟨g, v * 2 + 1, none⟩ (.int .i64 b)) g n (fun u => if u = v then (a, b) else f u) := by
  have h1 := Blk.set (Blk.set h (v * 2) (.int .i64 a)) (v * 2 + 1) (.int .i64 b)
  unfold FL
  have e : ((List.range n).map fun u => if u = v then (a, b) else f u) = ((List.range n).map f).set v (a, b) := by
    refine List.ext_getElem (by simp) fun k k1 k2 => ?_
    rw [List.getElem_set]
    simp only [List.getElem_map, List.getElem_range]
    by_cases e : v = k
    · rw [if_pos e, if_pos e.symm]
    · rw [if_neg e, if_neg (fun e' => e e'.symm)]
  rw [e, ← edgs_set]
  simpa using h1
theorem FL.below (h : FL w g n f) (hb : Below w.heap.size w w') : FL w' g n f := Blk.below h hb (Blk.lt h)
end
theorem blk_of_own2 {w : World} {B g n : Nat} {e : TypeId} {xs : List Value} (h : w.ownsRow B e 2 (.slice (some ⟨g, 0, none⟩) n n) n xs) : Blk w g e xs.toArray := by
  rcases h.2 with ⟨hv, _⟩ | ⟨g', cap, cur, hv, _, hh, _, _, hs, ht⟩
  · cases hv
  · injection hv with h1 h2 h3
    injection h1 with h1
    injection h1 with h1
    subst h1; subst h3
    unfold Blk
    rw [hh]
    have : cur = xs.toArray := by
      rw [← ht, List.take_of_length_le (by simp [hs])]
    rw [this]
theorem make_F (n : Nat) (hn : n ≤ 1099511627776) : ∃ F : World → World, (∀ w, Sem.run Tryd.prog (Instr.makeSlice 29 (.int .i64 (n : Int)) (.int .i64 (n : Int))) w = .ok (.slice (some ⟨w.heap.size, 0, none⟩) n n) (F w)) ∧ (∀ w, FL (F w) w.heap.size n (fun _ => (0, 0))) ∧ ∀ w : World, w.grownBy (F w) none := by
  have h : ∀ w : World, ∃ w', Sem.run Tryd.prog (Instr.makeSlice 29 (.int .i64 (n : Int)) (.int .i64 (n : Int))) w = .ok (.slice (some ⟨w.heap.size, 0, none⟩) n n) w' ∧ FL w' w.heap.size n (fun _ => (0, 0)) ∧ w.grownBy w' none := fun w => by
    obtain ⟨i0, hi0, hz0, hz1, hz2⟩ := info_parts frac_info'
    obtain ⟨w', hrun, r1, r2⟩ := run_make_full (P := Tryd.prog) w w.heap.size 29 36 i0 _ 2 Tryd.underlying29 hi0 hz0 hz1 .i64 .i64 n (by rw [hz2]; omega) (by unfold maxLen; omega) (Nat.le_refl _)
    refine ⟨w', hrun, ?_, r2⟩
    have := blk_of_own2 r1
    rw [show (Value.agg #[.int .i64 0, .int .i64 0]).cells = #[.int .i64 0, .int .i64 0] from rfl, made_two, ← edgs_zero] at this
    unfold FL
    have e : ((List.range n).map fun _ : Nat => ((0 : Int), (0 : Int))) = List.replicate n (0, 0) := by
      rw [List.eq_replicate_iff]; refine ⟨by simp, fun b hb => ?_⟩
      obtain ⟨i, -, rfl⟩ := List.mem_map.1 hb; rfl
    rw [e]; exact this
  exact ⟨fun w => Classical.choose (h w), fun w => (Classical.choose_spec (h w)).1, fun w => (Classical.choose_spec (h w)).2.1, fun w => (Classical.choose_spec (h w)).2.2⟩
/-- The number of each node after some levels. -/
def nmb (ls : List (Nat × Nat × Nat)) (v : Nat) : Int × Int := ls.foldl (fun a l => if l.1.testBit v = true then ((l.2.1 : Nat), (l.2.2 : Nat)) else a) (0, 0)
theorem nmb_snoc (ls : List (Nat × Nat × Nat)) (l : Nat × Nat × Nat) (v : Nat) : nmb (ls ++ [l]) v = if l.1.testBit v = true then (((l.2.1 : Nat) : Int), ((l.2.2 : Nat) : Int)) else nmb ls v := by
  unfold nmb; rw [List.foldl_append]; rfl
theorem LvP.sub {n : Nat} {es : List (Int × Int)} : ∀ {ls : List (Nat × Nat × Nat)} {i : Nat}, LvP n es i ls → ∀ l ∈ ls, ∃ j, Lvl n es j l.1 l.2.1 l.2.2
  | [], _, _, l, hl => by cases hl
  | (x, N, D) :: ls, i, h, l, hl => by
    rcases List.mem_cons.1 hl with rfl | hl
    · exact ⟨i, h.2.1⟩
    · exact LvP.sub h.2.2 l hl
def RetNum (w : World) (n : Nat) (es : List (Int × Int)) (e : Ending) (w' : World) : Prop := ∃ (g : Nat) (ls : List (Nat × Nat × Nat)), e = .returned (.tuple #[.slice (some ⟨g, 0, none⟩) n n, .int .i64 0]) ∧ LvP n es 0 ls ∧ FL w' g n (nmb ls) ∧ Below w.heap.size w w' ∧ w.heap.size ≤ g
set_option maxRecDepth 100000 in
set_option maxHeartbeats 4000000 in
theorem numbers_any (A : Option Addr) (m c n : Nat) (es : List (Int × Int)) (w : World) (h : RE w A m es) (hT : Tab w) (hm : m ≤ 4096) (hz : chkG n es = 0) (hn : n ≤ 64) :
    Calls Tryd.prog 14 #[.agg #[.int .i64 (n : Nat), .slice A m c]] w (RetNum w n es) := by
  have kc := fun w h => gcheck_any A m c n es w h (by omega)
  rw [hz] at kc
  replace kc := Lib.hid kc
  have kb := Lib.hid (fun w h hT => build_any A m c n es w h hT hm hz hn)
  obtain ⟨Fm, hF0, hF1, hF2⟩ := make_F n (by omega)
  have G0 := Blk.new w 25 #[.int .i64 (n : Nat), .slice A m c]
  have E0 := h.alloc (.cells #[.int .i64 (n : Nat), .slice A m c] 25)
  have B0 : Below w.heap.size w (w.alloc (.cells #[.int .i64 (n : Nat), .slice A m c] 25)) := (Below.refl _ w).alloc (Nat.le_refl _) _
  have T0 := hT.keep B0
  clear h hT hz
  go_enter Tryd.func14, Tryd.ntmps14
  go_upto_region 1 with fail
  generalize w.alloc (.cells #[.int .i64 (n : Nat), .slice A m c] 25) = W at *
  obtain ⟨d0, d1⟩ := blkG G0
  go_upto_region 2 with (first | (go_at_call 52; (with_reducible refine (kc.out _ E0).mono ?_); rintro e w1 ⟨rfl, hb1⟩) | fail)
  have G1 := G0.below hb1 G0.lt
  have E1 := E0.below hb1 (Nat.le_refl _)
  have T1 := T0.keep hb1
  have B1 := B0.trans (hb1.mono B0.size)
  clear G0 E0 T0 B0 d0 d1 hb1 kc
  obtain ⟨d0, d1⟩ := blkG G1
  go_upto_region 5 with fail
  have b2 := grown_none_below (hF2 w1) w1.heap.size (Nat.le_refl _)
  have F2 := hF1 w1
  have G2 := G1.below b2 G1.lt
  have E2 := E1.below b2 (Nat.le_refl _)
  have T2 := T1.keep b2
  have B2 := B1.trans (b2.mono B1.size)
  have hg1 : Hid (w.heap.size ≤ w1.heap.size) := Lib.hid B1.size
  have hg2 : w1.heap.size < (Fm w1).heap.size := Blk.lt F2
  clear G1 E1 T1 B1 d0 d1 b2 hF0 hF1 hF2
  generalize Fm w1 = w2 at *
  generalize w1.heap.size = g at *
  obtain ⟨d0, d1⟩ := blkG G2
  go_upto_region 6 with (first | (go_at_call 53; (with_reducible refine (kb.out _ E2 T2).mono ?_); intro e w3 hq; obtain ⟨A', k, c', ls, rs, rfl, hkc, hP, hR, hb3, hk64, hfA, hfr, -⟩ := hq) | fail)
  have F3 := F2.below hb3
  have B3 := B2.trans (hb3.mono B2.size)
  have hll := hR.llen
  have hsub := Lib.hid hP.sub
  have hPh := Lib.hid hP
  have hfr' := Lib.hid hfr
  have hfA' := Lib.hid hfA
  have hg3 : g < w3.heap.size := Blk.lt F3
  clear G2 E2 T2 B2 F2 d0 d1 hb3 hP kb hfr hfA hkc
  go_loopw [21] (fun i wr => ∃ j : Nat, j ≤ k ∧ i = .int .i64 (j : Nat) ∧ FL wr g n (nmb (ls.take j)) ∧ w3.grownBy wr (some g)) (fun i _ => k - (intOf i).toNat)
  case atStart => exact ⟨0, Nat.zero_le _, rfl, (by
    have h0 := F3
    exact h0), World.grownBy.refl _ _⟩
  case round =>
    obtain ⟨j, hj, rfl, hF, hg⟩ := hrel
    by_cases hlt : j < k
    · have i0 : (j : Int) < (k : Int) := by omega
      have i1 : (0 : Int) ≤ (j : Int) := by omega
      have hRr := hR.kept hg hfA'.out hfr'.out hg2
      obtain ⟨ad, r, hAd, hab, hr, y0, y1, y2, y3, y4⟩ := rs_get5 hRr.rd hlt
      have hlj : ls[j]? = some (ls[j]'(by omega)) := List.getElem?_eq_getElem _
      generalize ls[j]'(by omega) = lj at hlj
      obtain ⟨x, N, D⟩ := lj
      obtain ⟨rA, rn, rc, rN, rD, re, rP, rm, rk⟩ := r
      obtain ⟨a1, a2, a3, a4, a5, a6, a7, a8⟩ := hRr.el j _ _ hr.out hlj
      simp only at a1 a2 a3 a4 a5 a6 a7 a8 y0 y1 y2 y3 y4
      subst a1; subst a2; subst a3; subst a4; subst a5; subst a6
      have hrA : Hid (∀ ad, rA = some ad → some ad.block ≠ some g) := Lib.hid (fun ad e e2 => by injection e2 with e2; have := hfr'.out _ (List.mem_of_getElem? hr.out) ad e; omega)
      have hst := List.take_add_one (l := ls) (i := j)
      rw [hlj] at hst
      obtain ⟨i', hLv⟩ := hsub.out _ (List.mem_of_getElem? hlj)
      have hn1 : Hid (∀ v, nmb (ls.take (j + 1)) v = if x.testBit v = true then (((N : Nat) : Int), ((D : Nat) : Int)) else nmb (ls.take j) v) := Lib.hid (fun v => by rw [hst]; exact nmb_snoc _ _ v)
      have hxn : Hid (∀ v, x.testBit v = true → v < n) := Lib.hid (fun v hv => (hLv.off v hv).1)
      have hrl := a7.len
      have hrn : rn ≤ 64 := by
        have h1 : rn = pop x := (by rw [← hrl]; unfold bset; rw [nts_length, pop_bl])
        rw [h1]; exact pop_le x
      subst hAd
      clear hr hlj hst hLv hRr
      go_upto_region 8 with fail
      have X5 := Blk.new wr 48 #[.slice rA rn rc, .int .i64 (N : Nat), .int .i64 (D : Nat), .int .i64 0, .slice none 0 0]
      have F5 := hF.below ((Below.refl wr.heap.size wr).alloc (Nat.le_refl _) (.cells #[.slice rA rn rc, .int .i64 (N : Nat), .int .i64 (D : Nat), .int .i64 0, .slice none 0 0] 48))
      have g5 := gb_alloc_ hg (.cells #[.slice rA rn rc, .int .i64 (N : Nat), .int .i64 (D : Nat), .int .i64 0, .slice none 0 0] 48)
      have S5 := a7.alloc (.cells #[.slice rA rn rc, .int .i64 (N : Nat), .int .i64 (D : Nat), .int .i64 0, .slice none 0 0] 48)
      have hgx : g < wr.heap.size := Blk.lt hF
      clear y0 y1 y2 y3 y4 hF a7
      generalize wr.alloc (.cells #[.slice rA rn rc, .int .i64 (N : Nat), .int .i64 (D : Nat), .int .i64 0, .slice none 0 0] 48) = w5 at *
      generalize wr.heap.size = gx at *
      have z0 := Blk.cell X5 0
      simp at z0
      go_upto_region 9 with fail
      clear z0
      go_loopw [28] (fun i wt => ∃ t : Nat, t ≤ rn ∧ i = .int .i64 (t : Nat) ∧ FL wt g n (fun u => if ((u : Nat) : Int) ∈ (bset x).take t then (((N : Nat) : Int), ((D : Nat) : Int)) else nmb (ls.take j) u) ∧ w5.grownBy wt (some g)) (fun i _ => rn - (intOf i).toNat)
      case atStart => exact ⟨0, Nat.zero_le _, rfl, F5.congr (fun v _ => by simp), World.grownBy.refl _ _⟩
      case round =>
        obtain ⟨t, ht, rfl, hF, hgt⟩ := hrel
        by_cases hlt2 : t < rn
        · have i0 : (t : Int) < (rn : Int) := by omega
          have i1 : (0 : Int) ≤ (t : Int) := by omega
          have St := RI.kept S5 hgt hrA.out
          obtain ⟨sd, hAs, hs0⟩ := St.at_ hlt2
          have hvt : (bset x)[t]? = some ((bset x).getD t 0) := by rw [List.getD_eq_getElem?_getD, List.getElem?_eq_getElem (by omega)]; rfl
          generalize (bset x).getD t 0 = v at *
          have hvm := List.mem_of_getElem? hvt
          have htk : (bset x).take (t + 1) = (bset x).take t ++ [v] := take_snoc hvt
          obtain ⟨v, rfl⟩ : ∃ u : Nat, v = (u : Int) := by
            unfold bset nts at hvm
            obtain ⟨u, -, e⟩ := List.mem_map.1 hvm
            exact ⟨u, e.symm⟩
          have hvn : v < n := hxn.out v (mem_bset.1 hvm).2
          have Xt := Blk.grown X5 hgt (fun e => by injection e with e; omega)
          have z1 := Blk.cell Xt 1
          have z2 := Blk.cell Xt 2
          simp at z1 z2
          obtain ⟨u0, u1⟩ := hF.cell hvn
          have f0 := Blk.frozen hF (v * 2)
          have f1 := Blk.frozen hF (v * 2 + 1)
          have F6 := hF.set hvn (N : Nat) (D : Nat)
          have g6 := grown_setO (grown_setO hgt (v * 2) (.int .i64 (N : Nat))) (v * 2 + 1) (.int .i64 (D : Nat))
          have j0 : (0 : Int) ≤ (v : Int) := by omega
          have j1 : (v : Int) < (n : Int) := by omega
          have hF7 : Hid (FL ((wr.setCell ⟨g, v * 2, none⟩ (.int .i64 (N : Nat))).setCell ⟨g, v * 2 + 1, none⟩ (.int .i64 (D : Nat))) g n (fun u => if ((u : Nat) : Int) ∈ (bset x).take (t + 1) then (((N : Nat) : Int), ((D : Nat) : Int)) else nmb (ls.take j) u)) := Lib.hid (F6.congr (fun u _ => by
            rw [htk]
            by_cases e : u = v
            · subst e; rw [if_pos rfl, if_pos (List.mem_append.2 (.inr (List.mem_singleton.2 rfl)))]
            · rw [if_neg e]
              by_cases e2 : ((u : Nat) : Int) ∈ (bset x).take t
              · rw [if_pos e2, if_pos (List.mem_append.2 (.inl e2))]
              · rw [if_neg e2, if_neg (fun e3 => (List.mem_append.1 e3).elim e2 (fun e4 => e (by have := List.mem_singleton.1 e4; omega)))]))
          subst hAs
          clear F6 hF htk hvt hvm St Xt
          go_wp2_with fail
          go_roundw
          case rel => exact ⟨t + 1, by omega, by go_num, hF7.out, g6⟩
          case measure => simp [intOf]; omega
        · obtain rfl : t = rn := by omega
          have i0 : ¬ (t : Int) < (t : Int) := by omega
          have hF8 := hF.congr (f' := nmb (ls.take (j + 1))) (fun v hv => by
            rw [hn1.out v, List.take_of_length_le (show (bset x).length ≤ t by rw [hrl]; exact Nat.le_refl _)]
            by_cases e : x.testBit v = true
            · rw [if_pos e, if_pos ((bit_mem (show v < 64 by omega)).2 e)]
            · rw [if_neg e, if_neg (fun e2 => e ((bit_mem (show v < 64 by omega)).1 e2))])
          clear hF X5 S5 F5
          go_wp2_with fail
          go_roundw
          case rel => exact ⟨j + 1, by omega, by go_num, hF8, grown_trans g5 hgt⟩
          case measure => simp [intOf]; omega
    · obtain rfl : j = k := by omega
      have i0 : ¬ (j : Int) < (j : Int) := by omega
      rw [List.take_of_length_le (by omega)] at hF
      have hBf := B3.grown hg B3.size (fun q hq => by injection hq with hq; have := hg1.out; omega)
      go_wp2_with fail
      go_ret2
      exact ⟨g, ls, rfl, hPh.out, hF, hBf, hg1.out⟩
end Go.Proofs.YticekkjambkifaaDoor.Fl
