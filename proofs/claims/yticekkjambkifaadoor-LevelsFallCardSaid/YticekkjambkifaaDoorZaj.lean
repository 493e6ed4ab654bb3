/- Printed by merge.py from CloC, CloL, DenA. -/
import Derived.Test.YticekkjambkifaaDoorCloS
import Derived.Test.YticekkjambkifaaDoorZai
import Derived.Test.YticekkjambkifaaDoorZrt
import Derived.BigRegion
import Derived.Test.YticekkjambkifaaDoorZag
import Derived.Deep.RegionLaw
/- Package closure: Densest. -/
set_option linter.unusedVariables false
set_option linter.unusedSimpArgs false
namespace Go.Proofs.YticekkjambkifaaDoor.Fl
open Go.RowKit Go.Proofs.YticekkjambkifaaDoor CoBit CoRat Rt

theorem crossL {a b c d e f : Nat} (hb : 0 < b) (h1 : a * d ≤ c * b) (h2 : c * f < e * d) : a * f < e * b := by
  refine Nat.lt_of_mul_lt_mul_left (a := d) ?_
  have e1 : d * (a * f) = (a * d) * f := by grind
  have e2 : d * (e * b) = (e * d) * b := by grind
  rw [e1, e2]
  refine Nat.lt_of_le_of_lt (Nat.mul_le_mul_right f h1) ?_
  have e3 : c * b * f = c * f * b := by grind
  rw [e3]
  exact Nat.mul_lt_mul_of_pos_right h2 hb
theorem filter_lt {α : Type} {p q : α → Bool} {l : List α} (h : ∀ y ∈ l, q y = true → p y = true) (hx : ∃ x ∈ l, p x = true ∧ q x = false) : (l.filter q).length < (l.filter p).length := by
  have hle : ∀ l : List α, (∀ y ∈ l, q y = true → p y = true) → (l.filter q).length ≤ (l.filter p).length := fun l => by
    induction l with
    | nil => intro _; exact Nat.le_refl _
    | cons a l ih =>
      intro h
      have := ih fun y hy => h y (List.mem_cons_of_mem _ hy)
      rw [List.filter_cons, List.filter_cons]
      cases hq : q a with
      | false =>
        rw [if_neg (by decide)]
        split
        · rw [List.length_cons]; omega
        · exact this
      | true => rw [h a (List.mem_cons_self ..) hq]; simp; omega
  induction l with
  | nil => obtain ⟨x, hx, _⟩ := hx; cases hx
  | cons a l ih =>
    obtain ⟨x, hx, h1, h2⟩ := hx
    have h3 := hle l fun y hy => h y (List.mem_cons_of_mem _ hy)
    rw [List.filter_cons, List.filter_cons]
    rcases List.mem_cons.1 hx with rfl | hx
    · rw [h1, h2]; simp; omega
    · have := ih (fun y hy => h y (List.mem_cons_of_mem _ hy)) ⟨x, hx, h1, h2⟩
      cases hq : q a with
      | false =>
        rw [if_neg (by decide)]
        split
        · rw [List.length_cons]; omega
        · exact this
      | true => rw [h a (List.mem_cons_self ..) hq]; simp; omega
/-- How many sets are denser than a set. -/
def cntD (es : List (Int × Int)) (bs : List Nat) (C s : Nat) : Nat := ((List.range (2 ^ C)).filter fun y => decide (wtI es bs s * pop y < wtI es bs y * pop s)).length
theorem cntD_lt {es : List (Int × Int)} {bs : List Nat} {C s b : Nat} (hs : 0 < pop s) (hb : b < 2 ^ C) (h : wtI es bs s * pop b < wtI es bs b * pop s) : cntD es bs C b < cntD es bs C s := by
  refine filter_lt (fun y _ hy => ?_) ⟨b, List.mem_range.2 hb, decide_eq_true h, decide_eq_false (by omega)⟩
  rw [decide_eq_true_eq] at hy ⊢
  exact crossL hs (by omega) hy
theorem bonus_le {bs : List Nat} (hb : ∀ b ∈ bs, b ≤ 4096) (x : Nat) : bonus bs x ≤ 262144 := by
  rw [← bonK_all (k := (bl x).length) (Nat.le_refl _)]
  exact bonK_le hb x _
theorem wtI_le {es : List (Int × Int)} {bs : List Nat} {C F : Nat} (hp : Prb es bs C F) (x : Nat) : wtI es bs x ≤ 266240 := by
  unfold wtI
  have h1 := insE_le es (bset x)
  have h2 := hp.elen
  have h3 := bonus_le hp.bsm x
  omega
theorem pop_le (x : Nat) : pop x ≤ 64 := by rw [pop_bl]; exact bl_length x
theorem mask_pow {x C : Nat} (hx : ∀ v, x.testBit v = true → v < C) : x < 2 ^ C := Nat.lt_pow_two_of_testBit x fun i hi => by
  cases h : x.testBit i with
  | false => rfl
  | true => have := hx i h; omega
theorem RI.farF {w : World} {A : Option Addr} {n : Nat} {xs : List Int} (h : RI w A n xs) {g : Nat} (i : Nat) (hne : ∀ ad, A = some ad → ad.block ≠ g) (u : Value) : RI (w.setCell ⟨g, i, none⟩ u) A n xs := (Same.set w g i u).ri h (fun ad e _ hx => hne ad e hx)
/-- A problem in memory. -/
structure PM (w : World) (EA WA BA CA : Option Addr) (m C : Nat) (es : List (Int × Int)) (bs : List Nat) : Prop where
  e : RE w EA m es
  wt : RI w WA m (List.replicate m 1)
  b : RI w BA C (nts bs)
  c : RI w CA C (List.replicate C 1)
  t : Tab w
theorem PM.below {w w' : World} {EA WA BA CA : Option Addr} {m C : Nat} {es : List (Int × Int)} {bs : List Nat} (h : PM w EA WA BA CA m C es bs) (hb : Below w.heap.size w w') : PM w' EA WA BA CA m C es bs :=
  ⟨h.e.below hb (Nat.le_refl _), h.wt.below hb (Nat.le_refl _), h.b.below hb (Nat.le_refl _), h.c.below hb (Nat.le_refl _), h.t.keep hb⟩
/-- What Densest finds: m is the greatest set with the greatest density, and P / D is this density. -/
structure IsDen (es : List (Int × Int)) (bs : List Nat) (C F m P D : Nat) : Prop where
  mx : IsMax es bs F D P m
  zero : val es bs D P m = 0
  pos : 0 < pop m
  frac : (P : Int) = mkN (wtI es bs m : Nat) (pop m : Nat) ∧ (D : Int) = mkD (wtI es bs m : Nat) (pop m : Nat)
  lim : P ≤ 266240 ∧ D ≤ 64 ∧ 0 < D
theorem val_zero (es : List (Int × Int)) (bs : List Nat) (D P : Nat) (hl : ∀ e ∈ es, 0 ≤ e.1 ∧ e.1 < e.2) : val es bs D P 0 = 0 := by
  have h1 : bl 0 = [] := bl_zero
  have h2 : insE es (bset 0) = 0 := by
    unfold insE bset
    rw [h1]
    rw [List.filter_eq_nil_iff.2 (fun e _ => by simp [nts])]; rfl
  unfold val wtI bonus
  rw [h2, pop_bl, h1]; simp
/-- A set of the price's density is never better than the best one; if the best one is worth nothing, it is the greatest densest one. -/
theorem den_of {es : List (Int × Int)} {bs : List Nat} {C F m s P D : Nat} (hp : Prb es bs C F) (hs : ∀ v, s.testBit v = true → F.testBit v = true) (hs0 : 0 < pop s) (hP : (P : Int) = mkN (wtI es bs s : Nat) (pop s : Nat)) (hD : (D : Int) = mkD (wtI es bs s : Nat) (pop s : Nat)) (hm : IsMax es bs F D P m) (hle : wtI es bs m * D ≤ P * pop m) : IsDen es bs C F m P D := by
  obtain ⟨a, b, h1, h2, h3, h4, h5, h6⟩ := mk_val (wtI es bs s) (pop s) hs0 (by have := wtI_le hp s; omega) (by have := pop_le s; omega)
  obtain rfl : P = a := by omega
  obtain rfl : D = b := by omega
  have hvs : val es bs D P s = 0 := by
    unfold val
    have : ((P * pop s : Nat) : Int) = ((wtI es bs s * D : Nat) : Int) := by rw [h6]
    rw [Int.natCast_mul, Int.natCast_mul] at this
    rw [this, Int.mul_comm]; omega
  have hvm : val es bs D P m = 0 := by
    have h7 := hm.max s hs
    have h8 : val es bs D P m ≤ 0 := by
      unfold val
      have : ((wtI es bs m * D : Nat) : Int) ≤ ((P * pop m : Nat) : Int) := by omega
      rw [Int.natCast_mul, Int.natCast_mul] at this
      rw [Int.mul_comm]; omega
    omega
  have hsm := hm.great s hs (by omega)
  have hpm : 0 < pop m := by
    rw [pop_bl] at hs0 ⊢
    obtain ⟨v, hv⟩ := List.exists_mem_of_length_pos hs0
    rw [mem_bl] at hv
    exact List.length_pos_of_mem (mem_bl.2 ⟨hv.1, hsm v hv.2⟩)
  have hcr : wtI es bs s * pop m = wtI es bs m * pop s := by
    have h9 : (D : Int) * (wtI es bs m : Nat) = (P : Int) * (pop m : Nat) := by unfold val at hvm; omega
    have h10 : D * wtI es bs m = P * pop m := by
      have : ((D * wtI es bs m : Nat) : Int) = ((P * pop m : Nat) : Int) := by rw [Int.natCast_mul, Int.natCast_mul]; exact h9
      omega
    refine Nat.eq_of_mul_eq_mul_left h3 ?_
    have e1 : D * (wtI es bs s * pop m) = (wtI es bs s * D) * pop m := by grind
    have e2 : D * (wtI es bs m * pop s) = (D * wtI es bs m) * pop s := by grind
    rw [e1, ← h6, e2, h10]; grind
  obtain ⟨c1, c2, -⟩ := mk_cross (wtI es bs s) (pop s) (wtI es bs m) (pop m) hs0 hpm hcr
  exact ⟨hm, hvm, hpm, ⟨by rw [hP, c1], by rw [hD, c2]⟩, by have := wtI_le hp s; omega, by have := pop_le s; omega, h3⟩
/-- If the best set is worth something, it is denser. -/
theorem den_up {es : List (Int × Int)} {bs : List Nat} {C F m s P D : Nat} (hp : Prb es bs C F) (hs : ∀ v, s.testBit v = true → F.testBit v = true) (hs0 : 0 < pop s) (hP : (P : Int) = mkN (wtI es bs s : Nat) (pop s : Nat)) (hD : (D : Int) = mkD (wtI es bs s : Nat) (pop s : Nat)) (hm : IsMax es bs F D P m) (hlt : P * pop m < wtI es bs m * D) : 0 < pop m ∧ cntD es bs C m < cntD es bs C s := by
  obtain ⟨a, b, h1, h2, h3, h4, h5, h6⟩ := mk_val (wtI es bs s) (pop s) hs0 (by have := wtI_le hp s; omega) (by have := pop_le s; omega)
  obtain rfl : P = a := by omega
  obtain rfl : D = b := by omega
  have hpm : 0 < pop m := by
    rcases Nat.eq_zero_or_pos (pop m) with h0 | h0
    · exfalso
      have hbl : bl m = [] := List.eq_nil_of_length_eq_zero (by rw [← pop_bl]; exact h0)
      have hw : wtI es bs m = 0 := by
        unfold wtI bonus insE bset
        rw [hbl, List.filter_eq_nil_iff.2 (fun e _ => by simp [nts])]; rfl
      rw [hw] at hlt; omega
    · exact h0
  refine ⟨hpm, cntD_lt hs0 (mask_pow fun v hv => hp.sub v (hm.sub v hv)) ?_⟩
  refine Nat.lt_of_mul_lt_mul_left (a := D) ?_
  have e1 : D * (wtI es bs s * pop m) = (wtI es bs s * D) * pop m := by grind
  have e2 : D * (wtI es bs m * pop s) = (wtI es bs m * D) * pop s := by grind
  rw [e1, ← h6, e2]
  have e3 : P * pop s * pop m = P * pop m * pop s := by grind
  rw [e3]
  exact Nat.mul_lt_mul_of_pos_right hlt hs0
def RetDen (w : World) (es : List (Int × Int)) (bs : List Nat) (C F : Nat) (e : Ending) (w' : World) : Prop := ∃ (x P D : Nat) (A : Option Addr) (n c : Nat) (L : List Nat) (S : Nat → Bool), e = .returned (.tuple #[.agg #[.int .u64 (x : Nat), .slice A n c], .agg #[.int .i64 (P : Nat), .int .i64 (D : Nat)]]) ∧ IsDen es bs C F x P D ∧ MinCut (netA es bs C F D P) 0 1 L S ∧ (∀ v, x.testBit v = (F.testBit v && S (2 + v))) ∧ RI w' A n (partL es bs C F D P L es.length) ∧ n ≤ c ∧ Fr w.heap.size A ∧ Below w.heap.size w w'
set_option maxRecDepth 100000 in
set_option maxHeartbeats 8000000 in
theorem densest_any (EA WA BA CA : Option Addr) (ec wc bc cc m C F : Nat) (es : List (Int × Int)) (bs : List Nat) (hp : Prb es bs C F) (w : World) (hM : PM w EA WA BA CA m C es bs) (hF : 0 < pop F) :
    Calls Tryd.prog 81 #[.agg #[.slice EA m ec, .slice WA m wc, .slice BA C bc, .slice CA C cc, .int .u64 (F : Nat), .int .u64 0]] w (RetDen w es bs C F) := by
  have hFl := mask_lt hp.small hp.sub
  obtain ⟨W, hW0⟩ : ∃ W, W = ((w.alloc (.cells #[.slice EA m ec, .slice WA m wc, .slice BA C bc, .slice CA C cc, .int .u64 (F : Nat), .int .u64 0] 114)).alloc (.cells #[.int .u64 0, .slice none 0 0] 111)).alloc (.cells #[.int .i64 0, .int .i64 0] 36) := ⟨_, rfl⟩
  have bP : Blk W w.heap.size 114 #[.slice EA m ec, .slice WA m wc, .slice BA C bc, .slice CA C cc, .int .u64 (F : Nat), .int .u64 0] := by rw [hW0]; exact ((Blk.new' _ _ _ (by simp)).alloc _).alloc _
  have bR : Blk W (w.heap.size + 1) 111 #[.int .u64 0, .slice none 0 0] := by rw [hW0]; exact (Blk.new' _ _ _ (by simp)).alloc _
  have bF : Blk W (w.heap.size + 1 + 1) 36 #[.int .i64 0, .int .i64 0] := by rw [hW0]; exact Blk.new' _ _ _ (by simp)
  have BW : Below w.heap.size w W := by rw [hW0]; exact (((Below.refl _ w).alloc (Nat.le_refl _) _).alloc (by simp) _).alloc (by simp; omega) _
  have hWs : W.heap.size = w.heap.size + 3 := by rw [hW0]; simp
  have hMW := hM.below BW
  replace bP := Lib.hid bP
  replace bF := Lib.hid bF
  replace bR := Lib.hid bR
  replace BW := Lib.hid BW
  replace hWs := Lib.hid hWs
  replace hp := Lib.hid hp
  replace hMW := Lib.hid hMW
  replace hW0 := Lib.hid hW0
  clear hM
  go_enter Tryd.func81, Tryd.ntmps81
  go_upto_region 1 with fail
  rw [← hW0.out]
  have hb : Hid (w.heap.size < W.heap.size ∧ w.heap.size + 1 < W.heap.size ∧ w.heap.size + 1 + 1 < W.heap.size ∧ w.heap.size ≤ w.heap.size) := Lib.hid (by have := hWs.out; omega)
  have hb2 : Hid (w.heap.size ≤ w.heap.size ∧ w.heap.size ≤ w.heap.size + 1 ∧ w.heap.size ≤ w.heap.size + 1 + 1) := Lib.hid (by omega)
  generalize hq2 : w.heap.size + 1 + 1 = b2 at *
  generalize hq1 : w.heap.size + 1 = b1 at *
  have hb3 : Hid (b1 ≠ b2) := Lib.hid (by omega)
  have cP := bP.out
  have hBW := BW.out
  generalize hq0 : w.heap.size = b0 at cP
  have hb0 : Hid (b0 < W.heap.size) := Lib.hid (by have := hb.out; omega)
  clear hq2 hq1 hW0 hWs bP
  have p0 := Blk.cell cP 0
  have p1 := Blk.cell cP 1
  have p2 := Blk.cell cP 2
  have p3 := Blk.cell cP 3
  have p4 := Blk.cell cP 4
  have p5 := Blk.cell cP 5
  simp at p0 p1 p2 p3 p4 p5
  replace hq0 := Lib.hid hq0
  replace hBW := Lib.hid hBW
  clear cP
  go_upto_region 2 with fail
  go_loopg [4] (cntD es bs C F) (fun g s wr => ∃ x : Nat, s = .int .u64 (x : Nat) ∧ Hid (∀ v, x.testBit v = true → F.testBit v = true) ∧ Hid (0 < pop x) ∧ Hid (cntD es bs C x ≤ g) ∧ Below W.heap.size W wr)
  case atStart => exact ⟨F, rfl, Lib.hid (fun v h => h), Lib.hid hF, Lib.hid (Nat.le_refl _), Below.refl _ _⟩
  case round =>
    obtain ⟨x, rfl, hsub, hpx, hcx, hb4⟩ := hrel
    obtain ⟨G, hG⟩ : ∃ G, G = gk := ⟨_, rfl⟩
    rw [← hG] at hcx
    replace hG := Lib.hid (And.intro hG True.intro)
    have kc : ∀ {w' : World}, Below W.heap.size W w' → ∀ {o : Nat} {u : Value}, W.cell? ⟨b0, o, none⟩ = some u → w'.cell? ⟨b0, o, none⟩ = some u := fun {w'} h {o u} hu => (h.cell (p := ⟨b0, o, none⟩) hb0.out).trans hu
    have r0 := kc hb4 p0
    have r1 := kc hb4 p1
    have r2 := kc hb4 p2
    have r3 := kc hb4 p3
    have r4 := kc hb4 p4
    have r5 := kc hb4 p5
    have hM4 := hMW.out.below hb4
    have k1 := Lib.hid (gain_any EA WA BA CA ec wc bc cc m C F x es bs hp.out (fun v hv => hp.out.sub v (hsub.out v hv)) wr hM4.e hM4.wt hM4.b hM4.c hM4.t)
    have wb := wtI_le hp.out x
    have pb := pop_le x
    obtain ⟨P, D, hPm, hDm, hD0, hPle, hDle, hPD⟩ := mk_val (wtI es bs x) (pop x) hpx.out (by omega) (by omega)
    have hfr := Lib.hid (And.intro hPm (And.intro hDm hD0))
    have km := fun w => make_any (wtI es bs x : Nat) (pop x : Nat) w (by omega) (by omega) (by omega) (by omega)
    simp only [hPm, hDm] at km
    have hPb : P ≤ 1048576 := by omega
    have hDb : D ≤ 64 := by omega
    obtain ⟨wx, hwx⟩ : ∃ wx, wx = wtI es bs x := ⟨_, rfl⟩
    obtain ⟨px, hpxx⟩ : ∃ px, px = pop x := ⟨_, rfl⟩
    rw [← hwx, ← hpxx] at k1 km
    replace km := Lib.hid km
    clear hPm hDm hPle hDle hPD hwx hpxx wb pb hM4
    go_upto_region 3 with (first | (go_at_call 92; (with_reducible refine k1.out.mono ?_); rintro e w5 ⟨rfl, hb5⟩) | fail)
    have hb5' := hb4.trans (hb5.mono hb4.size)
    clear k1 r0 r1 r2 r3 r4 r5 hb4 hb5
    go_upto_region 4 with (first | (go_at_call 62; (with_reducible refine (km.out _).mono ?_); rintro e w6 ⟨rfl, hb6⟩) | fail)
    have bQ := Blk.new w6 36 #[.int .i64 (P : Nat), .int .i64 (D : Nat)]
    have hb6' := hb5'.trans (hb6.mono hb5'.size)
    have hb7 := hb6'.alloc hb6'.size (.cells #[.int .i64 (P : Nat), .int .i64 (D : Nat)] 36)
    have hqb : Hid (W.heap.size ≤ w6.heap.size) := Lib.hid hb6'.size
    clear km hb5' hb6 hb6'
    generalize w6.alloc (.cells #[.int .i64 (P : Nat), .int .i64 (D : Nat)] 36) = w7 at *
    generalize w6.heap.size = qb at *
    have t0 := Blk.cell bQ 0
    have t1 := Blk.cell bQ 1
    simp at t0 t1
    have r0 := kc hb7 p0
    have r1 := kc hb7 p1
    have r2 := kc hb7 p2
    have r3 := kc hb7 p3
    have r4 := kc hb7 p4
    have r5 := kc hb7 p5
    have hM7 := hMW.out.below hb7
    have k2 := Lib.hid (solve_any EA WA BA CA ec wc bc cc m C F P D es bs hp.out w7 hM7.e hM7.wt hM7.b hM7.c hPb (by omega))
    clear hM7
    go_upto_region 5 with (first | (go_at_call 91; (with_reducible refine k2.out.mono ?_); intro e w8 hq; obtain ⟨mm, A, n, c, L, S, rfl, hmin, hmk, hri, hnc, hfA, hb8⟩ := hq) | fail)
    have bB := Blk.new w8 111 #[.int .u64 (mm : Nat), .slice A n c]
    have hq8 := bQ.below hb8 bQ.lt
    have hfW : Hid (Fr W.heap.size A) := Lib.hid (hfA.mono hb7.size)
    clear hfA
    have hq9 := hq8.alloc (.cells #[.int .u64 (mm : Nat), .slice A n c] 111)
    have hb8' := hb7.trans (hb8.mono hb7.size)
    have hgs0 : Hid (W.heap.size ≤ w8.heap.size) := Lib.hid hb8'.size
    have hb9 := hb8'.alloc hb8'.size (.cells #[.int .u64 (mm : Nat), .slice A n c] 111)
    have hri9 := RI.alloc hri (.cells #[.int .u64 (mm : Nat), .slice A n c] 111)
    have hcm := Lib.hid (cut_max hp.out hmin hmk).1
    replace hmin := Lib.hid hmin
    replace hmk := Lib.hid hmk
    clear k2 r0 r1 r2 r3 r4 r5 hb8 hb7 bQ hq8 t0 t1 hri hb8'
    generalize w8.alloc (.cells #[.int .u64 (mm : Nat), .slice A n c] 111) = w9 at *
    generalize w8.heap.size = gb at *
    have r0 := kc hb9 p0
    have r1 := kc hb9 p1
    have r2 := kc hb9 p2
    have r3 := kc hb9 p3
    have r4 := kc hb9 p4
    have r5 := kc hb9 p5
    have v0 := Blk.cell bB 0
    have hM9 := hMW.out.below hb9
    have k3 := Lib.hid (gain_any EA WA BA CA ec wc bc cc m C F mm es bs hp.out (fun v hv => hp.out.sub v (hcm.out.sub v hv)) w9 hM9.e hM9.wt hM9.b hM9.c hM9.t)
    clear hM9
    simp at v0
    go_upto_region 6 with (first | (go_at_call 92; (with_reducible refine k3.out.mono ?_); rintro e w10 ⟨rfl, hb10⟩) | fail)
    have bB10 := bB.below hb10 bB.lt
    have bQ10 := hq9.below hb10 hq9.lt
    have hb11 := hb9.trans (hb10.mono hb9.size)
    have hri10 := RI.below hri9 hb10 (Nat.le_refl _)
    have wb := wtI_le hp.out mm
    have pb := pop_le mm
    obtain ⟨wm, hwm⟩ : ∃ wm, wm = wtI es bs mm := ⟨_, rfl⟩
    obtain ⟨pm, hpm⟩ : ∃ pm, pm = pop mm := ⟨_, rfl⟩
    rw [← hwm, ← hpm]
    have x1 : wm * D ≤ 266240 * 64 := Nat.mul_le_mul (by omega) hDb
    have x2 : P * pm ≤ 1048576 * 64 := Nat.mul_le_mul hPb (by omega)
    have m1 : (wm : Int) * (D : Int) = ((wm * D : Nat) : Int) := (Int.natCast_mul _ _).symm
    have m2 : (P : Int) * (pm : Int) = ((P * pm : Nat) : Int) := (Int.natCast_mul _ _).symm
    have w0 : -9223372036854775808 ≤ (wm : Int) * (D : Int) := by rw [m1]; omega
    have w1 : (wm : Int) * (D : Int) ≤ 9223372036854775807 := by rw [m1]; omega
    have w2 : -9223372036854775808 ≤ (P : Int) * (pm : Int) := by rw [m2]; omega
    have w3 : (P : Int) * (pm : Int) ≤ 9223372036854775807 := by rw [m2]; omega
    have s0 := Blk.cell bQ10 0
    have s1 := Blk.cell bQ10 1
    have u0 := Blk.cell bB10 0
    have u1 := Blk.cell bB10 1
    simp at s0 s1 u0 u1
    replace hri10 := Lib.hid hri10
    by_cases hle : wm * D ≤ P * pm
    · have hle' : (wm : Int) * (D : Int) ≤ (P : Int) * (pm : Int) := by rw [m1, m2]; omega
      have hfin : Hid (IsDen es bs C F mm P D) := Lib.hid (den_of hp.out hsub.out hpx.out hfr.out.1.symm hfr.out.2.1.symm hcm.out (by rw [← hwm, ← hpm]; exact hle))
      have hRw := bR.out.below hb11 hb.out.2.1
      have hFw := bF.out.below hb11 hb.out.2.2.1
      have a0 := Blk.cell hRw 0
      have a1 := Blk.cell hRw 1
      have a2 := Blk.frozen hRw 0
      have a3 := Blk.frozen hRw 1
      have d0 := Blk.cell hFw 0
      have d1 := Blk.cell hFw 1
      have d2 := Blk.frozen hFw 0
      have d3 := Blk.frozen hFw 1
      simp at a0 a1 d0 d1
      have ne := hb3.out
      have n1 : b1 ≠ gb := by have := hgs0.out; have := hb.out; omega
      have n2 : b2 ≠ gb := by have := hgs0.out; have := hb.out; omega
      have n3 : b1 ≠ qb := by have := hqb.out; have := hb.out; omega
      have n4 : b2 ≠ qb := by have := hqb.out; have := hb.out; omega
      have RB := Blk.drew ((((hRw.set 0 (.int .u64 (mm : Nat))).set 1 (.slice A n c)).far (p := ⟨b2, 0, none⟩) ne (.int .i64 (P : Nat))).far (p := ⟨b2, 1, none⟩) ne (.int .i64 (D : Nat)))
      have FB := Blk.drew ((((hFw.far (p := ⟨b1, 0, none⟩) (fun e => ne e.symm) (.int .u64 (mm : Nat))).far (p := ⟨b1, 1, none⟩) (fun e => ne e.symm) (.slice A n c)).set 0 (.int .i64 (P : Nat))).set 1 (.int .i64 (D : Nat)))
      simp at RB FB
      have g0 := Blk.cell RB 0
      have g1 := Blk.cell RB 1
      have g2 := Blk.cell FB 0
      have g3 := Blk.cell FB 1
      simp at g0 g1 g2 g3
      have hbs := hb2.out
      have hfb : Hid (∀ ad, A = some ad → ad.block ≠ b1 ∧ ad.block ≠ b2) := Lib.hid fun ad hA => by
        have := hfW.out ad hA
        have := hb.out
        omega
      have hre := Lib.hid (RI.farF (RI.farF (RI.farF (RI.farF hri10.out 0 (g := b1) (fun ad hA => (hfb.out ad hA).1) (.int .u64 (mm : Nat))) 1 (g := b1) (fun ad hA => (hfb.out ad hA).1) (.slice A n c)) 0 (g := b2) (fun ad hA => (hfb.out ad hA).2) (.int .i64 (P : Nat))) 1 (g := b2) (fun ad hA => (hfb.out ad hA).2) (.int .i64 (D : Nat)))
      have hbe := Lib.hid (((((hBW.out.trans (hb11.mono (by have := hBW.out.size; exact this))).setCell (p := ⟨b1, 0, none⟩) (show w.heap.size ≤ b1 by omega) (.int .u64 (mm : Nat))).setCell (p := ⟨b1, 1, none⟩) (show w.heap.size ≤ b1 by omega) (.slice A n c)).setCell (p := ⟨b2, 0, none⟩) (show w.heap.size ≤ b2 by omega) (.int .i64 (P : Nat))).setCell (p := ⟨b2, 1, none⟩) (show w.heap.size ≤ b2 by omega) (.int .i64 (D : Nat))).drew
      have hfw := Lib.hid (hfW.out.mono (show w.heap.size ≤ W.heap.size by exact hBW.out.size))
      clear hle m1 m2 x1 x2 wb pb hwm hpm bB bB10 bQ10 hq9 hb9 hb10 hri9 k3 r0 r1 r2 r3 r4 r5 v0 hRw hFw RB FB hbs
      replace g0 := Lib.hid g0
      replace g1 := Lib.hid g1
      replace g2 := Lib.hid g2
      replace g3 := Lib.hid g3
      go_upto_region 7 with fail
      go_region
      go_wp2_with fail
      have g0' := g0.out
      have g1' := g1.out
      have g2' := g2.out
      have g3' := g3.out
      refine bodyPost_ret (v := .tuple #[.agg #[.int .u64 (mm : Nat), .slice A n c], .agg #[.int .i64 (P : Nat), .int .i64 (D : Nat)]]) (by simp [results, Tryd.results81, go_sem, g0', g1', g2', g3']) rfl ?_
      exact ⟨mm, P, D, A, n, c, L, S, rfl, hfin.out, hmin.out, hmk.out, hre.out, hnc, hfw.out, hbe.out⟩
    · have hle' : ¬ (wm : Int) * (D : Int) ≤ (P : Int) * (pm : Int) := by rw [m1, m2]; omega
      have hup : Hid (0 < pop mm ∧ cntD es bs C mm < cntD es bs C x) := Lib.hid (den_up hp.out hsub.out hpx.out hfr.out.1.symm hfr.out.2.1.symm hcm.out (by rw [← hwm, ← hpm]; omega))
      have hsm : Hid (∀ v, mm.testBit v = true → F.testBit v = true) := Lib.hid hcm.out.sub
      clear hle m1 m2 x1 x2 wb pb hwm hpm bB bB10 bQ10 hq9 hb9 hb10 hri9 k3 r0 r1 r2 r3 r4 r5 v0
      go_wp2_with fail
      go_roundg (cntD es bs C mm)
      case rel => exact ⟨mm, rfl, hsm, Lib.hid hup.out.1, Lib.hid (Nat.le_refl _), hb11⟩
      case measure => have := hup.out.2; have := hcx.out; have := hG.out.1; omega
end Go.Proofs.YticekkjambkifaaDoor.Fl

/- The loads of the best set's split, in plain Lean. -/
set_option linter.unusedVariables false
set_option linter.unusedSimpArgs false
namespace Go.Proofs.YticekkjambkifaaDoor.Fl
open Go.RowKit Go.Proofs.YticekkjambkifaaDoor CoBit

theorem sumZ_split (a b : Nat) (f : Nat → Int) : sumZ (a + b) f = sumZ a f + sumZ b fun k => f (a + k) := by
  induction b with
  | zero => simp [sumZ_zero]
  | succ b ih => rw [show a + (b + 1) = (a + b) + 1 by omega, sumZ_succ, ih, sumZ_succ]; omega
theorem sumZ_one {M j : Nat} {f : Nat → Int} (hj : j < M) (h : ∀ k, k < M → k ≠ j → f k = 0) : sumZ M f = f j := by
  have := sum_range_one M j f (fun _ => 0) (f j) hj (fun k hk hne => h k hk hne) (by simp)
  change sumZ M f = sumZ M (fun _ => 0) + f j at this
  rw [this, sumZ_nil (fun _ _ => rfl)]; omega
theorem sumZ_three (M : Nat) (f : Nat → Int) : sumZ (3 * M) f = sumZ M fun i => f (3 * i) + f (3 * i + 1) + f (3 * i + 2) := by
  induction M with
  | zero => rfl
  | succ M ih => rw [show 3 * (M + 1) = 3 * M + 1 + 1 + 1 by omega, sumZ_succ, sumZ_succ, sumZ_succ, ih, sumZ_succ]; omega
section
variable {es : List (Int × Int)} {bs : List Nat} {C F D P : Nat} {L : List Nat}
theorem netA_low {k : Nat} (hk : k < (nArcs bs F D P C).length) : (netA es bs C F D P).getD k (0, 0, 0) = (nArcs bs F D P C).getD k (0, 0, 0) := by
  unfold netA
  rw [List.getD_eq_getElem?_getD, List.getD_eq_getElem?_getD, List.getElem?_append_left hk]
theorem eArcs_get (es : List (Int × Int)) (C D : Nat) {m i : Nat} (hi : i < m) (r : Nat) (hr : r < 3) : (eArcs es C D m)[3 * i + r]? = (eArc C D i (es.getD i (0, 0)))[r]? := by
  induction m with
  | zero => omega
  | succ m ih =>
    rw [eArcs_succ]
    rcases Nat.lt_or_ge i m with hlt | hge
    · rw [List.getElem?_append_left (by rw [eArcs_len]; omega)]
      exact ih hlt
    · obtain rfl : i = m := by omega
      rw [List.getElem?_append_right (by rw [eArcs_len]; omega), eArcs_len, show 3 * i + r - 3 * i = r by omega]
theorem netA_high {i : Nat} (hi : i < es.length) (r : Nat) (hr : r < 3) : (netA es bs C F D P)[(nArcs bs F D P C).length + (3 * i + r)]? = (eArc C D i (es.getD i (0, 0)))[r]? := by
  unfold netA
  rw [List.getElem?_append_right (by omega), show (nArcs bs F D P C).length + (3 * i + r) - (nArcs bs F D P C).length = 3 * i + r by omega]
  exact eArcs_get es C D hi r hr
theorem netA_len : (netA es bs C F D P).length = (nArcs bs F D P C).length + 3 * es.length := by
  unfold netA
  rw [List.length_append, eArcs_len]
/-- What goes out of a node, less what comes in, by the node's own arcs and the edges'. -/
theorem ex_parts (hp : Prb es bs C F) (x : Nat) : ex (netA es bs C F D P) L x = (sumZ (nArcs bs F D P C).length fun k => (flw L k : Int) * (ind (((nArcs bs F D P C).getD k (0, 0, 0)).1 = x) - ind (((nArcs bs F D P C).getD k (0, 0, 0)).2.1 = x))) +
    sumZ es.length fun i => (flw L ((nArcs bs F D P C).length + 3 * i) : Int) * (ind (0 = x) - ind (2 + C + i = x)) + (flw L ((nArcs bs F D P C).length + 3 * i + 1) : Int) * (ind (2 + C + i = x) - ind (2 + (es.getD i (0, 0)).1.toNat = x)) + (flw L ((nArcs bs F D P C).length + 3 * i + 2) : Int) * (ind (2 + C + i = x) - ind (2 + (es.getD i (0, 0)).2.toNat = x)) := by
  rw [ex_eq, netA_len, sumZ_split, sumZ_three]
  congr 1
  · refine sumZ_congr fun k hk => ?_
    unfold frA toA
    rw [netA_low hk]
  · refine sumZ_congr fun i hi => ?_
    have h0 := netA_high (bs := bs) (F := F) (P := P) (C := C) (D := D) hi 0 (by omega)
    have h1 := netA_high (bs := bs) (F := F) (P := P) (C := C) (D := D) hi 1 (by omega)
    have h2 := netA_high (bs := bs) (F := F) (P := P) (C := C) (D := D) hi 2 (by omega)
    rw [Nat.add_zero] at h0
    unfold frA toA
    simp only [List.getD_eq_getElem?_getD] at h0 h1 h2 ⊢
    rw [h0, h1, h2]
    simp only [eArc, List.getElem?_cons_zero, List.getElem?_cons_succ, Option.getD_some, Nat.add_assoc]
/-- Where the best set is worth nothing, the source's arcs are full. -/
theorem sat_source (hp : Prb es bs C F) {S : Nat → Bool} {m : Nat} (hc : MinCut (netA es bs C F D P) 0 1 L S) (hm : ∀ v, m.testBit v = (F.testBit v && S (2 + v))) (hv : val es bs D P m = 0) {i : Nat} (hi : i < es.length) :
    flw L ((nArcs bs F D P C).length + 3 * i) = D := by
  obtain ⟨hmax, hex⟩ := cut_max hp hc hm
  have hz := val_zero es bs D P (fun e he => by have := hp.lt e he; exact ⟨this.1, this.2.1⟩)
  have hcut := cut_TS (D := D) (P := P) hp (x := 0) (fun v h => by rw [Nat.zero_testBit] at h; cases h)
  have h0 := netA_high (bs := bs) (F := F) (P := P) (C := C) (D := D) hi 0 (by omega)
  rw [Nat.add_zero] at h0
  have h1 := hc.sat (TS es C 0) rfl rfl (by rw [hcut, hex, hz, hv]; exact Int.le_refl _) ((nArcs bs F D P C).length + 3 * i) (by rw [netA_len]; omega)
    (by unfold frA; rw [List.getD_eq_getElem?_getD, h0]; rfl)
    (by
      unfold toA
      rw [List.getD_eq_getElem?_getD, h0]
      show TS es C 0 (2 + C + i) = false
      rw [TS_edge, Nat.zero_testBit]; rfl)
  rw [h1]
  unfold cpA
  rw [List.getD_eq_getElem?_getD, h0]; rfl
/-- What goes over an edge to its first end is what does not go to its second one. -/
theorem edge_flow (hp : Prb es bs C F) {S : Nat → Bool} {m : Nat} (hc : MinCut (netA es bs C F D P) 0 1 L S) (hm : ∀ v, m.testBit v = (F.testBit v && S (2 + v))) (hv : val es bs D P m = 0) {i : Nat} (hi : i < es.length) :
    flw L ((nArcs bs F D P C).length + 3 * i + 1) + flw L ((nArcs bs F D P C).length + 3 * i + 2) = D := by
  have hs := sat_source hp hc hm hv hi
  have hcons := hc.cons (2 + C + i) (by omega) (by omega)
  rw [ex_parts hp] at hcons
  rw [sumZ_nil (M := (nArcs bs F D P C).length) (fun k hk => by
    have hmem : (nArcs bs F D P C).getD k (0, 0, 0) ∈ nArcs bs F D P C := by rw [List.getD_eq_getElem?_getD, List.getElem?_eq_getElem hk]; exact List.getElem_mem hk
    obtain ⟨v, hv, hmm⟩ := List.mem_flatMap.1 hmem
    rw [List.mem_range] at hv
    generalize (nArcs bs F D P C).getD k (0, 0, 0) = a at *
    unfold nArc at hmm
    split at hmm
    · simp at hmm
      rcases hmm with rfl | rfl
      · simp only [ind]; rw [if_neg (by omega), if_neg (by omega)]; omega
      · simp only [ind]; rw [if_neg (by omega), if_neg (by omega)]; omega
    · cases hmm), sumZ_one hi (fun j hj hne => by
    obtain ⟨u, v, he, h1, h2, -, -⟩ := hp.at_ hj
    rw [he]
    simp only [ind, Int.toNat_natCast]
    rw [if_neg (by omega), if_neg (by omega), if_neg (by omega), if_neg (by omega)]; omega)] at hcons
  obtain ⟨u, v, he, h1, h2, -, -⟩ := hp.at_ hi
  rw [he] at hcons
  simp only [ind, Int.toNat_natCast] at hcons
  rw [if_neg (show ¬ (0 = 2 + C + i) by omega), if_pos trivial, if_neg (show ¬ (2 + u = 2 + C + i) by omega), if_neg (show ¬ (2 + v = 2 + C + i) by omega), hs] at hcons
  omega
theorem nArcs_out (bs : List Nat) (F D P c v : Nat) : (sumZ (nArcs bs F D P c).length fun k => ((((nArcs bs F D P c).getD k (0, 0, 0)).2.2 : Nat) : Int) * ind (((nArcs bs F D P c).getD k (0, 0, 0)).1 = 2 + v)) ≤ if v < c then (P : Int) else 0 := by
  have e := sumL_range (fun _ a => (a.2.2 : Int) * ind (a.1 = 2 + v)) (nArcs bs F D P c) 0
  rw [e]
  generalize 0 = o
  induction c with
  | zero => simp [nArcs, sumL]
  | succ c ih =>
    rw [nArcs_succ, sumL_append]
    have ih' := ih (sumL_range (fun _ a => (a.2.2 : Int) * ind (a.1 = 2 + v)) (nArcs bs F D P c) 0)
    have h2 : sumL (fun _ a => (a.2.2 : Int) * ind (a.1 = 2 + v)) (nArc bs F D P c) (o + (nArcs bs F D P c).length) ≤ if c = v then (P : Int) else 0 := by
      unfold nArc
      split
      · simp only [sumL, ind]
        rw [if_neg (by omega)]
        by_cases h : c = v
        · subst h; rw [if_pos rfl, if_pos rfl]; omega
        · rw [if_neg (by omega), if_neg h]; omega
      · simp only [sumL]; split <;> omega
    by_cases h : c = v
    · subst h
      rw [if_neg (Nat.lt_irrefl _)] at ih'
      rw [if_pos rfl] at h2
      rw [if_pos (Nat.lt_succ_self _)]; omega
    · rw [if_neg h] at h2
      by_cases h3 : v < c
      · rw [if_pos h3] at ih'; rw [if_pos (by omega)]; omega
      · rw [if_neg h3] at ih'; rw [if_neg (by omega)]; omega
theorem ldV_sum (den : Int) (es : List (Int × Int)) (ps : List Int) (k : Nat) (v : Int) : ldV den es ps k v = sumZ k fun i => (if (es.getD i (0, 0)).1 = v then ps.getD i 0 else 0) + (if (es.getD i (0, 0)).2 = v then den - ps.getD i 0 else 0) := by
  induction k with
  | zero => rfl
  | succ k ih =>
    rw [sumZ_succ, ← ih]
    show ldV den es ps k v + _ + _ = _
    omega
theorem partL_get {i m : Nat} (hi : i < m) : (partL es bs C F D P L m).getD i 0 = (D : Int) - (flw L ((nArcs bs F D P C).length + 3 * i + 2) : Nat) := by
  unfold partL
  rw [List.getD_eq_getElem?_getD, List.getElem?_map, List.getElem?_range hi]; rfl
/-- No load is above the price. -/
theorem load_le (hp : Prb es bs C F) {S : Nat → Bool} {m : Nat} (hc : MinCut (netA es bs C F D P) 0 1 L S) (hm : ∀ v, m.testBit v = (F.testBit v && S (2 + v))) (hv : val es bs D P m = 0) {v : Nat} (hvC : v < C) :
    ldV (D : Int) es (partL es bs C F D P L es.length) es.length (v : Int) ≤ P := by
  have hcons := hc.cons (2 + v) (by omega) (by omega)
  rw [ex_parts hp] at hcons
  have hle : (sumZ (nArcs bs F D P C).length fun k => (flw L k : Int) * (ind (((nArcs bs F D P C).getD k (0, 0, 0)).1 = 2 + v) - ind (((nArcs bs F D P C).getD k (0, 0, 0)).2.1 = 2 + v))) ≤ P := by
    refine Int.le_trans (sumZ_le fun k hk => ?_) (Int.le_trans (nArcs_out bs F D P C v) (by rw [if_pos hvC]; exact Int.le_refl _))
    have h1 := hc.ok.cap (k := k) (by rw [netA_len]; omega)
    have h2 : cpA (netA es bs C F D P) k = ((nArcs bs F D P C).getD k (0, 0, 0)).2.2 := by unfold cpA; rw [netA_low hk]
    rw [h2] at h1
    generalize (nArcs bs F D P C).getD k (0, 0, 0) = a at *
    unfold ind
    by_cases c1 : a.1 = 2 + v <;> by_cases c2 : a.2.1 = 2 + v
    · rw [if_pos c1, if_pos c2]; simp
    · rw [if_pos c1, if_neg c2]; simp; omega
    · rw [if_neg c1, if_pos c2]; simp
    · rw [if_neg c1, if_neg c2]; simp
  rw [ldV_sum]
  have heq : (sumZ es.length fun i => (if (es.getD i (0, 0)).1 = (v : Int) then (partL es bs C F D P L es.length).getD i 0 else 0) + (if (es.getD i (0, 0)).2 = (v : Int) then (D : Int) - (partL es bs C F D P L es.length).getD i 0 else 0)) +
      (sumZ es.length fun i => (flw L ((nArcs bs F D P C).length + 3 * i) : Int) * (ind (0 = 2 + v) - ind (2 + C + i = 2 + v)) + (flw L ((nArcs bs F D P C).length + 3 * i + 1) : Int) * (ind (2 + C + i = 2 + v) - ind (2 + (es.getD i (0, 0)).1.toNat = 2 + v)) + (flw L ((nArcs bs F D P C).length + 3 * i + 2) : Int) * (ind (2 + C + i = 2 + v) - ind (2 + (es.getD i (0, 0)).2.toNat = 2 + v))) = 0 := by
    rw [← sumZ_add]
    refine sumZ_nil fun i hi => ?_
    have hf := edge_flow hp hc hm hv hi
    obtain ⟨a, b, he, h1, h2, -, -⟩ := hp.at_ hi
    rw [he, partL_get hi]
    simp only [Int.toNat_natCast, ind]
    generalize flw L ((nArcs bs F D P C).length + 3 * i) = f0
    generalize flw L ((nArcs bs F D P C).length + 3 * i + 1) = f1 at *
    generalize flw L ((nArcs bs F D P C).length + 3 * i + 2) = f2 at *
    rw [if_neg (show ¬ (0 = 2 + v) by omega), if_neg (show ¬ (2 + C + i = 2 + v) by omega)]
    by_cases c1 : a = v
    · rw [if_pos (show ((a : Int) = (v : Int)) by omega), if_pos (show 2 + a = 2 + v by omega), if_neg (show ¬ ((b : Int) = (v : Int)) by omega), if_neg (show ¬ (2 + b = 2 + v) by omega)]; omega
    · rw [if_neg (show ¬ ((a : Int) = (v : Int)) by omega), if_neg (show ¬ (2 + a = 2 + v) by omega)]
      by_cases c2 : b = v
      · rw [if_pos (show ((b : Int) = (v : Int)) by omega), if_pos (show 2 + b = 2 + v by omega)]; omega
      · rw [if_neg (show ¬ ((b : Int) = (v : Int)) by omega), if_neg (show ¬ (2 + b = 2 + v) by omega)]; omega
  omega
/-- The parts lie between nothing and the denominator. -/
theorem partL_bd (hp : Prb es bs C F) {S : Nat → Bool} {m : Nat} (hc : MinCut (netA es bs C F D P) 0 1 L S) (hm : ∀ v, m.testBit v = (F.testBit v && S (2 + v))) (hv : val es bs D P m = 0) : ∀ p ∈ partL es bs C F D P L es.length, 0 ≤ p ∧ p ≤ (D : Int) := by
  intro p hpp
  unfold partL at hpp
  obtain ⟨i, hi, rfl⟩ := List.mem_map.1 hpp
  rw [List.mem_range] at hi
  have := edge_flow hp hc hm hv hi
  omega
end
end Go.Proofs.YticekkjambkifaaDoor.Fl

/- closure.Plain. -/
set_option linter.unusedVariables false
set_option linter.unusedSimpArgs false
namespace Go.Proofs.YticekkjambkifaaDoor.Fl
open Go.RowKit Go.Proofs.YticekkjambkifaaDoor CoBit

theorem RI.farP {w : World} {A : Option Addr} {n : Nat} {xs : List Int} (h : RI w A n xs) {g : Nat} (i : Nat) (hne : ∀ ad, A = some ad → ad.block ≠ g) (u : Value) : RI (w.setCell ⟨g, i, none⟩ u) A n xs := (Same.set w g i u).ri h (fun ad e _ hx => hne ad e hx)
theorem RI.ofB {w : World} {g n : Nat} {t : TypeId} {xs : List Int} (h : Blk w g t (ints xs).toArray) (hn : xs.length = n) : RI w (some ⟨g, 0, none⟩) n xs := by
  refine ⟨by rw [ints_length, hn, Nat.mul_one], fun _ => ⟨_, rfl, h.lt, fun j u hu => ?_⟩⟩
  have hadd : (⟨g, 0, none⟩ : Addr).add j = ⟨g, j, none⟩ := by unfold Addr.add; split <;> simp_all
  rw [hadd, Blk.cell h]
  simpa using hu
/-- All nodes. -/
def allM (n : Nat) : Nat := 2 ^ n - 1
def RetPl (w : World) (A : Option Addr) (m c n : Nat) (e : Ending) (w' : World) : Prop := ∃ (WA BA CA : Option Addr) (wc bc cc : Nat), e = .returned (.agg #[.slice A m c, .slice WA m wc, .slice BA n bc, .slice CA n cc, .int .u64 (allM n : Nat), .int .u64 0]) ∧ RI w' WA m (List.replicate m 1) ∧ RI w' BA n (nts (List.replicate n 0)) ∧ RI w' CA n (List.replicate n 1) ∧ Below w.heap.size w w'
/-- The problem while it is made. -/
structure PlB (W wx : World) (A : Option Addr) (m c n x gb : Nat) : Prop where
  p : Blk wx x 114 #[.slice A m c, .slice none 0 0, .slice (some ⟨gb, 0, none⟩) n n, .slice none 0 0, .int .u64 (allM n : Nat), .int .u64 0]
  b : AI wx gb (List.replicate n 0)
  bel : Below W.heap.size W wx
  lo : W.heap.size ≤ x ∧ W.heap.size ≤ gb ∧ x ≠ gb
set_option maxRecDepth 100000 in
set_option maxHeartbeats 4000000 in
theorem plain_any (A : Option Addr) (m c n : Nat) (hn : n ≤ 64) (hm : m ≤ 68719476736) (w : World) :
    Calls Tryd.prog 80 #[.agg #[.int .i64 (n : Nat), .slice A m c]] w (RetPl w A m c n) := by
  obtain ⟨F, hF0, hF1, hF2⟩ := make_I n (by omega)
  obtain ⟨W, hW0⟩ : ∃ W, W = (w.alloc (.cells #[.int .i64 (n : Nat), .slice A m c] 25)).alloc (.cells #[.slice none 0 0, .slice none 0 0, .slice none 0 0, .slice none 0 0, .int .u64 0, .int .u64 0] 114) := ⟨_, rfl⟩
  have bG : Blk W w.heap.size 25 #[.int .i64 (n : Nat), .slice A m c] := by rw [hW0]; exact (Blk.new' _ _ _ rfl).alloc _
  have bR : Blk W (w.heap.size + 1) 114 #[.slice none 0 0, .slice none 0 0, .slice none 0 0, .slice none 0 0, .int .u64 0, .int .u64 0] := by rw [hW0]; exact Blk.new' _ _ _ (by simp)
  have BW : Below w.heap.size w W := by rw [hW0]; exact ((Below.refl _ w).alloc (Nat.le_refl _) _).alloc (by simp) _
  have hWs : W.heap.size = w.heap.size + 2 := by rw [hW0]; simp
  have ka := Lib.hid (fun w => (all_any n hn w).mono (fun (e : Ending) (w' : World) (h : e = .returned (.int .u64 (allM n : Nat)) ∧ w = w') => (⟨h.1, h.2.symm⟩ : e = .returned (.int .u64 (allM n : Nat)) ∧ w' = w)))
  replace bR := Lib.hid bR
  replace BW := Lib.hid BW
  replace hWs := Lib.hid hWs
  replace hW0 := Lib.hid hW0
  go_enter Tryd.func80, Tryd.ntmps80
  go_upto_region 1 with fail
  rw [← hW0.out]
  clear hW0
  have c0 : W.drew.cell? ⟨w.heap.size, 0, none⟩ = some (.int .i64 (n : Nat)) := by have := Blk.cell bG 0; simpa using this
  have c1 : W.drew.cell? ⟨w.heap.size, 1, none⟩ = some (.slice A m c) := by have := Blk.cell bG 1; simpa using this
  go_cut [3] (fun v wx => ∃ x gb : Nat, v = .pointer (some ⟨x, 0, none⟩) ∧ PlB W wx A m c n x gb)
  case first =>
    have q0 := kept_none (hF2 W.drew) c0
    have q1 := kept_none (hF2 W.drew) c1
    have o0 : (W.alloc (.cells #[.slice none 0 0, .slice none 0 0, .slice none 0 0, .slice none 0 0, .int .u64 0, .int .u64 0] 114)).drew.cell? ⟨w.heap.size, 0, none⟩ = some (.int .i64 (n : Nat)) := kept_alloc c0 (.cells #[.slice none 0 0, .slice none 0 0, .slice none 0 0, .slice none 0 0, .int .u64 0, .int .u64 0] 114)
    have o1 : (W.alloc (.cells #[.slice none 0 0, .slice none 0 0, .slice none 0 0, .slice none 0 0, .int .u64 0, .int .u64 0] 114)).drew.cell? ⟨w.heap.size, 1, none⟩ = some (.slice A m c) := kept_alloc c1 (.cells #[.slice none 0 0, .slice none 0 0, .slice none 0 0, .slice none 0 0, .int .u64 0, .int .u64 0] 114)
    have bz := Blk.new W.drew 114 #[.slice none 0 0, .slice none 0 0, .slice none 0 0, .slice none 0 0, .int .u64 0, .int .u64 0]
    have r0 : (F (W.alloc (.cells #[.slice none 0 0, .slice none 0 0, .slice none 0 0, .slice none 0 0, .int .u64 0, .int .u64 0] 114)).drew).cell? ⟨w.heap.size, 0, none⟩ = some (.int .i64 (n : Nat)) := kept_none (hF2 (W.drew.alloc (.cells #[.slice none 0 0, .slice none 0 0, .slice none 0 0, .slice none 0 0, .int .u64 0, .int .u64 0] 114))) o0
    have r1 : (F (W.alloc (.cells #[.slice none 0 0, .slice none 0 0, .slice none 0 0, .slice none 0 0, .int .u64 0, .int .u64 0] 114)).drew).cell? ⟨w.heap.size, 1, none⟩ = some (.slice A m c) := kept_none (hF2 (W.drew.alloc (.cells #[.slice none 0 0, .slice none 0 0, .slice none 0 0, .slice none 0 0, .int .u64 0, .int .u64 0] 114))) o1
    have s0 : ((F W.drew).alloc (.cells #[.slice none 0 0, .slice none 0 0, .slice none 0 0, .slice none 0 0, .int .u64 0, .int .u64 0] 114)).cell? ⟨w.heap.size, 0, none⟩ = some (.int .i64 (n : Nat)) := kept_alloc q0 (.cells #[.slice none 0 0, .slice none 0 0, .slice none 0 0, .slice none 0 0, .int .u64 0, .int .u64 0] 114)
    have s1 : ((F W.drew).alloc (.cells #[.slice none 0 0, .slice none 0 0, .slice none 0 0, .slice none 0 0, .int .u64 0, .int .u64 0] 114)).cell? ⟨w.heap.size, 1, none⟩ = some (.slice A m c) := kept_alloc q1 (.cells #[.slice none 0 0, .slice none 0 0, .slice none 0 0, .slice none 0 0, .int .u64 0, .int .u64 0] 114)
    have bz2 : Blk (F (W.alloc (.cells #[.slice none 0 0, .slice none 0 0, .slice none 0 0, .slice none 0 0, .int .u64 0, .int .u64 0] 114)).drew) W.heap.size 114 #[.slice none 0 0, .slice none 0 0, .slice none 0 0, .slice none 0 0, .int .u64 0, .int .u64 0] := Blk.grown bz (hF2 (W.drew.alloc (.cells #[.slice none 0 0, .slice none 0 0, .slice none 0 0, .slice none 0 0, .int .u64 0, .int .u64 0] 114))) (by simp)
    have f0 : (F (W.alloc (.cells #[.slice none 0 0, .slice none 0 0, .slice none 0 0, .slice none 0 0, .int .u64 0, .int .u64 0] 114)).drew).frozen? ⟨W.heap.size, 0, none⟩ = false := Blk.frozen bz2 0
    have z0 : (F (W.alloc (.cells #[.slice none 0 0, .slice none 0 0, .slice none 0 0, .slice none 0 0, .int .u64 0, .int .u64 0] 114)).drew).cell? ⟨W.heap.size, 0, none⟩ = some (.slice none 0 0) := Blk.cell bz2 0
    have f1 : (F (W.alloc (.cells #[.slice none 0 0, .slice none 0 0, .slice none 0 0, .slice none 0 0, .int .u64 0, .int .u64 0] 114)).drew).frozen? ⟨W.heap.size, 1, none⟩ = false := Blk.frozen bz2 1
    have z1 : (F (W.alloc (.cells #[.slice none 0 0, .slice none 0 0, .slice none 0 0, .slice none 0 0, .int .u64 0, .int .u64 0] 114)).drew).cell? ⟨W.heap.size, 1, none⟩ = some (.slice none 0 0) := Blk.cell bz2 1
    have f2 : (F (W.alloc (.cells #[.slice none 0 0, .slice none 0 0, .slice none 0 0, .slice none 0 0, .int .u64 0, .int .u64 0] 114)).drew).frozen? ⟨W.heap.size, 2, none⟩ = false := Blk.frozen bz2 2
    have z2 : (F (W.alloc (.cells #[.slice none 0 0, .slice none 0 0, .slice none 0 0, .slice none 0 0, .int .u64 0, .int .u64 0] 114)).drew).cell? ⟨W.heap.size, 2, none⟩ = some (.slice none 0 0) := Blk.cell bz2 2
    have f3 : (F (W.alloc (.cells #[.slice none 0 0, .slice none 0 0, .slice none 0 0, .slice none 0 0, .int .u64 0, .int .u64 0] 114)).drew).frozen? ⟨W.heap.size, 3, none⟩ = false := Blk.frozen bz2 3
    have z3 : (F (W.alloc (.cells #[.slice none 0 0, .slice none 0 0, .slice none 0 0, .slice none 0 0, .int .u64 0, .int .u64 0] 114)).drew).cell? ⟨W.heap.size, 3, none⟩ = some (.slice none 0 0) := Blk.cell bz2 3
    have f4 : (F (W.alloc (.cells #[.slice none 0 0, .slice none 0 0, .slice none 0 0, .slice none 0 0, .int .u64 0, .int .u64 0] 114)).drew).frozen? ⟨W.heap.size, 4, none⟩ = false := Blk.frozen bz2 4
    have z4 : (F (W.alloc (.cells #[.slice none 0 0, .slice none 0 0, .slice none 0 0, .slice none 0 0, .int .u64 0, .int .u64 0] 114)).drew).cell? ⟨W.heap.size, 4, none⟩ = some (.int .u64 0) := Blk.cell bz2 4
    have f5 : (F (W.alloc (.cells #[.slice none 0 0, .slice none 0 0, .slice none 0 0, .slice none 0 0, .int .u64 0, .int .u64 0] 114)).drew).frozen? ⟨W.heap.size, 5, none⟩ = false := Blk.frozen bz2 5
    have z5 : (F (W.alloc (.cells #[.slice none 0 0, .slice none 0 0, .slice none 0 0, .slice none 0 0, .int .u64 0, .int .u64 0] 114)).drew).cell? ⟨W.heap.size, 5, none⟩ = some (.int .u64 0) := Blk.cell bz2 5
    have wne : w.heap.size ≠ W.heap.size := by have := hWs.out; omega
    have far : ∀ (wx : World) (i : Nat) (u : Value) (o : Nat) (v : Value), wx.cell? ⟨w.heap.size, o, none⟩ = some v → (wx.setCell ⟨W.heap.size, i, none⟩ u).cell? ⟨w.heap.size, o, none⟩ = some v := fun wx i u o v hv => (World.cell?_setCell_other wx ⟨W.heap.size, i, none⟩ ⟨w.heap.size, o, none⟩ u (fun e => wne (by injection e with e _ _; first | exact e | exact e.symm))).trans hv
    have TA : Hid (PlB W ((F W.drew).alloc (.cells #[.slice A m c, .slice none 0 0, .slice (some ⟨W.heap.size, 0, none⟩) n n, .slice none 0 0, .int .u64 (allM n : Nat), .int .u64 0] 114)) A m c n (F W.drew).heap.size W.heap.size) := Lib.hid (by
      have hbl : Below W.heap.size W (F W.drew) := ((Below.refl W.heap.size W).drew).trans (grown_none_below (hF2 W.drew) W.heap.size (Nat.le_refl _))
      have hlt : W.heap.size < (F W.drew).heap.size := (hF1 W.drew).lt
      exact ⟨Blk.new _ _ _, (hF1 W.drew).alloc _, hbl.alloc hbl.size _, hbl.size, Nat.le_refl _, by omega⟩)
    have TB : Hid (PlB W (((((((F (W.alloc (.cells #[.slice none 0 0, .slice none 0 0, .slice none 0 0, .slice none 0 0, .int .u64 0, .int .u64 0] 114)).drew).setCell ⟨W.heap.size, 0, none⟩ (.slice A m c)).setCell ⟨W.heap.size, 1, none⟩ (.slice none 0 0)).setCell ⟨W.heap.size, 2, none⟩ (.slice (some ⟨W.heap.size + 1, 0, none⟩) n n)).setCell ⟨W.heap.size, 3, none⟩ (.slice none 0 0)).setCell ⟨W.heap.size, 4, none⟩ (.int .u64 (allM n : Nat))).setCell ⟨W.heap.size, 5, none⟩ (.int .u64 0)) A m c n W.heap.size (W.heap.size + 1)) := Lib.hid (by
      have hz : (W.alloc (.cells #[.slice none 0 0, .slice none 0 0, .slice none 0 0, .slice none 0 0, .int .u64 0, .int .u64 0] 114)).drew.heap.size = W.heap.size + 1 := by simp
      have hab : Blk (F (W.alloc (.cells #[.slice none 0 0, .slice none 0 0, .slice none 0 0, .slice none 0 0, .int .u64 0, .int .u64 0] 114)).drew) (W.heap.size + 1) 3 (ints (List.replicate n 0)).toArray := by
        have := hF1 (W.alloc (.cells #[.slice none 0 0, .slice none 0 0, .slice none 0 0, .slice none 0 0, .int .u64 0, .int .u64 0] 114)).drew
        rw [hz] at this; exact this
      have hbb : Below W.heap.size W (F (W.alloc (.cells #[.slice none 0 0, .slice none 0 0, .slice none 0 0, .slice none 0 0, .int .u64 0, .int .u64 0] 114)).drew) := (((Below.refl W.heap.size W).alloc (Nat.le_refl _) (.cells #[.slice none 0 0, .slice none 0 0, .slice none 0 0, .slice none 0 0, .int .u64 0, .int .u64 0] 114)).drew).trans (grown_none_below (hF2 (W.alloc (.cells #[.slice none 0 0, .slice none 0 0, .slice none 0 0, .slice none 0 0, .int .u64 0, .int .u64 0] 114)).drew) W.heap.size (by rw [hz]; omega))
      refine ⟨?_, (Blk.far (Blk.far (Blk.far (Blk.far (Blk.far (Blk.far hab (p := ⟨W.heap.size, 0, none⟩) (show W.heap.size + 1 ≠ W.heap.size by omega) (.slice A m c)) (p := ⟨W.heap.size, 1, none⟩) (show W.heap.size + 1 ≠ W.heap.size by omega) (.slice none 0 0)) (p := ⟨W.heap.size, 2, none⟩) (show W.heap.size + 1 ≠ W.heap.size by omega) (.slice (some ⟨W.heap.size + 1, 0, none⟩) n n)) (p := ⟨W.heap.size, 3, none⟩) (show W.heap.size + 1 ≠ W.heap.size by omega) (.slice none 0 0)) (p := ⟨W.heap.size, 4, none⟩) (show W.heap.size + 1 ≠ W.heap.size by omega) (.int .u64 (allM n : Nat))) (p := ⟨W.heap.size, 5, none⟩) (show W.heap.size + 1 ≠ W.heap.size by omega) (.int .u64 0)), ((((((hbb.setCell (p := ⟨W.heap.size, 0, none⟩) (Nat.le_refl _) (.slice A m c)).setCell (p := ⟨W.heap.size, 1, none⟩) (Nat.le_refl _) (.slice none 0 0)).setCell (p := ⟨W.heap.size, 2, none⟩) (Nat.le_refl _) (.slice (some ⟨W.heap.size + 1, 0, none⟩) n n)).setCell (p := ⟨W.heap.size, 3, none⟩) (Nat.le_refl _) (.slice none 0 0)).setCell (p := ⟨W.heap.size, 4, none⟩) (Nat.le_refl _) (.int .u64 (allM n : Nat))).setCell (p := ⟨W.heap.size, 5, none⟩) (Nat.le_refl _) (.int .u64 0)), Nat.le_refl _, by omega, by omega⟩
      have := (Blk.set (Blk.set (Blk.set (Blk.set (Blk.set (Blk.set bz2 0 (.slice A m c)) 1 (.slice none 0 0)) 2 (.slice (some ⟨W.heap.size + 1, 0, none⟩) n n)) 3 (.slice none 0 0)) 4 (.int .u64 (allM n : Nat))) 5 (.int .u64 0))
      simpa using this)
    go_loud (go_region_held3 (fun w' => w'.cell? ⟨w.heap.size, 0, none⟩ = some (.int .i64 (n : Nat)) ∧ w'.cell? ⟨w.heap.size, 1, none⟩ = some (.slice A m c))
      ((first | (with_reducible exact ⟨c0, c1⟩) | (with_reducible exact ⟨q0, q1⟩) | (with_reducible exact ⟨o0, o1⟩) | (with_reducible exact ⟨r0, r1⟩) | (with_reducible exact ⟨s0, s1⟩) | (with_reducible exact ⟨kept_alloc q0 _, kept_alloc q1 _⟩) | (with_reducible exact ⟨far _ _ _ _ _ (far _ _ _ _ _ (far _ _ _ _ _ (far _ _ _ _ _ (far _ _ _ _ _ (far _ _ _ _ _ r0))))), far _ _ _ _ _ (far _ _ _ _ _ (far _ _ _ _ _ (far _ _ _ _ _ (far _ _ _ _ _ (far _ _ _ _ _ r1)))))⟩) | fail))
      ((first
        | (go_at_call 94; (with_reducible refine (ka.out _).mono ?_); rintro e wq ⟨rfl, hq⟩; obtain rfl := hq.symm)
        | fail)))
    all_goals go_wp2_with fail
    all_goals go_meet
    all_goals (first | (with_reducible exact ⟨_, _, rfl, TA.out⟩) | (with_reducible exact ⟨_, _, rfl, TB.out⟩))
  case rest =>
    obtain ⟨x, gb, rfl, hPl⟩ := hcut
    obtain ⟨hp, hbz, hbel, hlo1, hlo2, hxg⟩ := hPl
    have hxs := hp.lt
    have bG2 := bG.below hbel bG.lt
    have c2 := Blk.cell bG2 0
    have c3 := Blk.cell bG2 1
    simp at c2 c3
    have hwx : w.heap.size ≠ x := by have := hWs.out; omega
    have hwlt := bG2.lt
    obtain ⟨W1, rfl⟩ : ∃ W1, W1 = wc := ⟨_, rfl⟩
    clear bG bG2 c0 c1
    go_upto_region 3 with fail
    go_loopw [16] (fun i wr => ∃ (k : Nat) (v : Value), k ≤ m ∧ i = .int .i64 (k : Nat) ∧ Blk wr x 114 #[.slice A m c, v, .slice (some ⟨gb, 0, none⟩) n n, .slice none 0 0, .int .u64 (allM n : Nat), .int .u64 0] ∧ OI wr W1.heap.size v (List.replicate k 1) ∧ Same (fun q => q = x) W1 wr) (fun i _ => m - (intOf i).toNat)
    case atStart => exact ⟨0, _, Nat.zero_le _, rfl, hp, OI.nil_, Same.refl _ _⟩
    case round =>
      clear hp
      obtain ⟨k, v, hk, rfl, hB, hO, hs⟩ := hrel
      by_cases hlt : k < m
      · have i0 : (k : Int) < (m : Int) := by omega
        have i1 : (0 : Int) ≤ (k : Int) := by omega
        obtain ⟨A1, k1, cc1, rfl, hk1, hkc, -, -⟩ := hO.form
        have hx1 := Blk.cell hB 1
        have f1 := Blk.frozen hB 1
        simp at hx1
        have hvb := hO.block_lt
        have hne : Hid (some x ≠ Value.ownBlock (.slice A1 k1 cc1)) := Lib.hid fun e => by have := (hvb x e.symm).1; omega
        have hbx := hB.lt
        replace hk1 := Lib.hid hk1
        have hvb' := Lib.hid hvb
        clear hvb
        go_upto_region 5 with (at_builtin; refine wpList_pushO rfl _ _ rfl rfl rfl (by first | rfl | simp) hO (by rw [List.length_replicate]; omega) hs.size ?_; intro v2 w2 O2 g2 e2; obtain ⟨A2, k2, cc2, rfl, hk2, -, -, -⟩ := O2.form; have d1 := g2.cell hx1 hne.out; have f2 := (World.frozen?_of_block (g2.block x hbx hne.out)).trans f1; replace O2 := Lib.hid O2; have hg2 := Lib.hid g2; replace hk2 := Lib.hid hk2; clear g2 e2)
        have B3 := (hB.grown hg2.out hne.out).set 1 (.slice A2 k2 cc2)
        simp at B3
        have O3 := ownsRow_setCell_below O2.out (show (⟨x, 1, none⟩ : Addr).block < W1.heap.size from hxs) (.slice A2 k2 cc2)
        have S3 := (hs.grown hg2.out (fun q hq hlt => by have := (hvb'.out q hq).1; omega)).trans (Same.set w2 x 1 (.slice A2 k2 cc2)) (fun q _ e => e)
        replace O3 := Lib.hid O3
        clear hB hO hs hx1 f1 d1 f2 hg2 O2
        go_wp2_with fail
        go_roundw
        case rel => exact ⟨k + 1, _, by omega, by go_num, B3, by rw [List.replicate_succ']; exact O3.out, S3⟩
        case measure => simp [intOf]; omega
      · obtain rfl : m = k := by omega
        have i0 : ¬ (m : Int) < (m : Int) := by omega
        obtain ⟨WA, k1, wc1, rfl, hk1, hkc, -, hrW⟩ := hO.form
        rw [List.length_replicate] at hk1
        obtain rfl : m = k1 := hk1.symm
        have hvW := hO.block_lt
        have hWx : Hid (∀ ad, WA = some ad → ad.block ≠ x ∧ ad.block ≠ w.heap.size + 1) := Lib.hid fun ad hA => by
          subst hA
          have := (hvW ad.block rfl).1
          have := hbel.size
          have := hWs.out
          omega
        have g0 := (hs.cell (p := ⟨w.heap.size, 0, none⟩) hwlt hwx).trans c2
        have hs1 := hs.size
        have hsb : Hid (Same (fun q => q = x) W1 wr) := Lib.hid hs
        have hbx := hB.lt
        obtain ⟨W2, rfl⟩ : ∃ W2, W2 = wr := ⟨_, rfl⟩
        have hbzw := hs.blk hbz (fun e => hxg e.symm)
        clear hO hs hvW c3
        go_upto_region 7 with fail
        go_loopw [26] (fun i wr => ∃ (k : Nat) (v : Value), k ≤ n ∧ i = .int .i64 (k : Nat) ∧ Blk wr x 114 #[.slice A m c, .slice WA m wc1, .slice (some ⟨gb, 0, none⟩) n n, v, .int .u64 (allM n : Nat), .int .u64 0] ∧ OI wr W2.heap.size v (List.replicate k 1) ∧ Same (fun q => q = x) W2 wr) (fun i _ => n - (intOf i).toNat)
        case atStart => exact ⟨0, _, Nat.zero_le _, rfl, hB, OI.nil_, Same.refl _ _⟩
        case round =>
          clear hB
          obtain ⟨k, v, hk, rfl, hB, hO, hs⟩ := hrel
          by_cases hlt : k < n
          · have i0 : (k : Int) < (n : Int) := by omega
            have i1 : (0 : Int) ≤ (k : Int) := by omega
            obtain ⟨A1, k1, cc1, rfl, hk1, hkc, -, -⟩ := hO.form
            have hx1 := Blk.cell hB 3
            have f1 := Blk.frozen hB 3
            simp at hx1
            have hvb := hO.block_lt
            have hne : Hid (some x ≠ Value.ownBlock (.slice A1 k1 cc1)) := Lib.hid fun e => by have := (hvb x e.symm).1; omega
            have hbx2 := hB.lt
            replace hk1 := Lib.hid hk1
            have hvb' := Lib.hid hvb
            clear hvb
            go_upto_region 9 with (at_builtin; refine wpList_pushO rfl _ _ rfl rfl rfl (by first | rfl | simp) hO (by rw [List.length_replicate]; omega) hs.size ?_; intro v2 w2 O2 g2 e2; obtain ⟨A2, k2, cc2, rfl, hk2, -, -, -⟩ := O2.form; have d1 := g2.cell hx1 hne.out; have f2 := (World.frozen?_of_block (g2.block x hbx2 hne.out)).trans f1; replace O2 := Lib.hid O2; have hg2 := Lib.hid g2; replace hk2 := Lib.hid hk2; clear g2 e2)
            have B3 := (hB.grown hg2.out hne.out).set 3 (.slice A2 k2 cc2)
            simp at B3
            have O3 := ownsRow_setCell_below O2.out (show (⟨x, 3, none⟩ : Addr).block < W2.heap.size from hbx) (.slice A2 k2 cc2)
            have S3 := (hs.grown hg2.out (fun q hq hlt => by have := (hvb'.out q hq).1; omega)).trans (Same.set w2 x 3 (.slice A2 k2 cc2)) (fun q _ e => e)
            replace O3 := Lib.hid O3
            clear hB hO hs hx1 f1 d1 f2 hg2 O2
            go_wp2_with fail
            go_roundw
            case rel => exact ⟨k + 1, _, by omega, by go_num, B3, by rw [List.replicate_succ']; exact O3.out, S3⟩
            case measure => simp [intOf]; omega
          · obtain rfl : n = k := by omega
            have i0 : ¬ (n : Int) < (n : Int) := by omega
            obtain ⟨CA, k1, cc1, rfl, hk1, hkc2, -, hrC⟩ := hO.form
            rw [List.length_replicate] at hk1
            obtain rfl : n = k1 := hk1.symm
            have hvC := hO.block_lt
            have hsa := hsb.out.trans hs (fun q _ e => e)
            have hbel2 : Below w.heap.size w wr := BW.out.trans ((hbel.trans (hsa.below hbel.size (fun q hq e => by omega))).mono BW.out.size)
            have e0 := Blk.cell hB 0
            have e1 := Blk.cell hB 1
            have e2 := Blk.cell hB 2
            have e3 := Blk.cell hB 3
            have e4 := Blk.cell hB 4
            have e5 := Blk.cell hB 5
            simp at e0 e1 e2 e3 e4 e5
            have hRw := hsa.blk (bR.out.below hbel (by have := hWs.out; omega)) (show ¬ w.heap.size + 1 = x by have := hWs.out; omega)
            have RB := (Blk.set (Blk.set (Blk.set (Blk.set (Blk.set (Blk.set hRw 0 (.slice A m c)) 1 (.slice WA m wc1)) 2 (.slice (some ⟨gb, 0, none⟩) n n)) 3 (.slice CA n cc1)) 4 (.int .u64 (allM n : Nat))) 5 (.int .u64 0))
            simp at RB
            have g0 := Blk.cell RB 0
            have g1 := Blk.cell RB 1
            have g2 := Blk.cell RB 2
            have g3 := Blk.cell RB 3
            have g4 := Blk.cell RB 4
            have g5 := Blk.cell RB 5
            simp at g0 g1 g2 g3 g4 g5
            have d0 := Blk.cell hRw 0
            have d1 := Blk.cell hRw 1
            have d2 := Blk.cell hRw 2
            have d3 := Blk.cell hRw 3
            have d4 := Blk.cell hRw 4
            have d5 := Blk.cell hRw 5
            have f0 := Blk.frozen hRw 0
            have f1 := Blk.frozen hRw 1
            have f2 := Blk.frozen hRw 2
            have f3 := Blk.frozen hRw 3
            have f4 := Blk.frozen hRw 4
            have f5 := Blk.frozen hRw 5
            simp at d0 d1 d2 d3 d4 d5
            have hCx : ∀ ad, CA = some ad → ad.block ≠ w.heap.size + 1 := fun ad hA => by
              subst hA
              have := (hvC ad.block rfl).1
              have := hbel.size
              have := hWs.out
              omega
            have hrW2 := hs.ri hrW (fun ad hA _ e => (hWx.out ad hA).1 e)
            have hbz2 := hs.blk hbzw (fun e => hxg e.symm)
            have hrB : RI wr (some ⟨gb, 0, none⟩) n (nts (List.replicate n 0)) := by
              rw [nts_rep]
              exact RI.ofB hbz2 (by rw [List.length_replicate])
            have h1 := Lib.hid (RI.farP (RI.farP (RI.farP (RI.farP (RI.farP (RI.farP hrW2 0 (g := w.heap.size + 1) (fun ad hA => (hWx.out ad hA).2) (.slice A m c)) 1 (g := w.heap.size + 1) (fun ad hA => (hWx.out ad hA).2) (.slice WA m wc1)) 2 (g := w.heap.size + 1) (fun ad hA => (hWx.out ad hA).2) (.slice (some ⟨gb, 0, none⟩) n n)) 3 (g := w.heap.size + 1) (fun ad hA => (hWx.out ad hA).2) (.slice CA n cc1)) 4 (g := w.heap.size + 1) (fun ad hA => (hWx.out ad hA).2) (.int .u64 (allM n : Nat))) 5 (g := w.heap.size + 1) (fun ad hA => (hWx.out ad hA).2) (.int .u64 0))
            have h2 := Lib.hid (RI.farP (RI.farP (RI.farP (RI.farP (RI.farP (RI.farP hrB 0 (g := w.heap.size + 1) (fun ad hA => by injection hA with hA; subst hA; show gb ≠ w.heap.size + 1; have := hWs.out; omega) (.slice A m c)) 1 (g := w.heap.size + 1) (fun ad hA => by injection hA with hA; subst hA; show gb ≠ w.heap.size + 1; have := hWs.out; omega) (.slice WA m wc1)) 2 (g := w.heap.size + 1) (fun ad hA => by injection hA with hA; subst hA; show gb ≠ w.heap.size + 1; have := hWs.out; omega) (.slice (some ⟨gb, 0, none⟩) n n)) 3 (g := w.heap.size + 1) (fun ad hA => by injection hA with hA; subst hA; show gb ≠ w.heap.size + 1; have := hWs.out; omega) (.slice CA n cc1)) 4 (g := w.heap.size + 1) (fun ad hA => by injection hA with hA; subst hA; show gb ≠ w.heap.size + 1; have := hWs.out; omega) (.int .u64 (allM n : Nat))) 5 (g := w.heap.size + 1) (fun ad hA => by injection hA with hA; subst hA; show gb ≠ w.heap.size + 1; have := hWs.out; omega) (.int .u64 0))
            have h3 := Lib.hid (RI.farP (RI.farP (RI.farP (RI.farP (RI.farP (RI.farP hrC 0 (g := w.heap.size + 1) hCx (.slice A m c)) 1 (g := w.heap.size + 1) hCx (.slice WA m wc1)) 2 (g := w.heap.size + 1) hCx (.slice (some ⟨gb, 0, none⟩) n n)) 3 (g := w.heap.size + 1) hCx (.slice CA n cc1)) 4 (g := w.heap.size + 1) hCx (.int .u64 (allM n : Nat))) 5 (g := w.heap.size + 1) hCx (.int .u64 0))
            have h4 := Lib.hid ((((((hbel2.setCell (p := ⟨w.heap.size + 1, 0, none⟩) (Nat.le_succ _) (.slice A m c)).setCell (p := ⟨w.heap.size + 1, 1, none⟩) (Nat.le_succ _) (.slice WA m wc1)).setCell (p := ⟨w.heap.size + 1, 2, none⟩) (Nat.le_succ _) (.slice (some ⟨gb, 0, none⟩) n n)).setCell (p := ⟨w.heap.size + 1, 3, none⟩) (Nat.le_succ _) (.slice CA n cc1)).setCell (p := ⟨w.heap.size + 1, 4, none⟩) (Nat.le_succ _) (.int .u64 (allM n : Nat))).setCell (p := ⟨w.heap.size + 1, 5, none⟩) (Nat.le_succ _) (.int .u64 0))
            replace g0 := Lib.hid g0
            replace g1 := Lib.hid g1
            replace g2 := Lib.hid g2
            replace g3 := Lib.hid g3
            replace g4 := Lib.hid g4
            replace g5 := Lib.hid g5
            clear RB hRw hB hO hs hsa hbel2 hvC hrW hrC hrW2 hrB hbz2 hbzw hCx
            go_wp2_with fail
            have g0' := g0.out
            have g1' := g1.out
            have g2' := g2.out
            have g3' := g3.out
            have g4' := g4.out
            have g5' := g5.out
            refine bodyPost_ret (v := .agg #[.slice A m c, .slice WA m wc1, .slice (some ⟨gb, 0, none⟩) n n, .slice CA n cc1, .int .u64 (allM n : Nat), .int .u64 0]) (by simp [results, Tryd.results80, go_sem, g0', g1', g2', g3', g4', g5']) rfl ?_
            exact ⟨WA, _, CA, wc1, n, cc1, rfl, h1.out, h2.out, h3.out, h4.out⟩
end Go.Proofs.YticekkjambkifaaDoor.Fl
