/- The reference's cores (cohesionref10), fourth part: later neighbours along an order. -/
import Derived.Test.YtciehcageghggaaDoorRCoC
import Derived.Deep.RegionHeld3
set_option linter.unusedVariables false
namespace Go.Proofs.YtciehcageghggaaDoor
open Go.RowKit

/-- The list has each number from 0 to n - 1 once. -/
def OrdI (l : List Int) (n : Int) : Prop := (l.length : Int) = n ∧ Vld (ofL l) n ∧ ((ofL l).length : Int) = n
instance (l : List Int) (n : Int) : Decidable (OrdI l n) := by unfold OrdI; infer_instance
theorem put_length_new {l : List Int} {x : Int} (h : x ∉ l) : (putL l x).length = l.length + 1 := by
  induction l with
  | nil => rfl
  | cons y l ih =>
    simp at h
    unfold putL
    split
    · simp [ih h.2]
    · rw [if_neg (by omega)]; simp
theorem of_cons (x : Int) (l : List Int) : ofL (x :: l) = putL (ofL l) x := sorted_ext (of_sorted _) (put_sorted (of_sorted l)) fun y => by rw [mem_of, mem_put, mem_of, List.mem_cons]
theorem put_id {l : List Int} (h : l.Pairwise (· < ·)) {x : Int} (hx : x ∈ l) : putL l x = l := sorted_ext (put_sorted h) h fun y => by
  rw [mem_put]
  constructor
  · rintro (rfl | h)
    · exact hx
    · exact h
  · exact .inr
theorem of_length_nodup (l : List Int) : (ofL l).length = l.length ↔ l.Nodup := by
  induction l with
  | nil => simp [ofL]
  | cons x l ih =>
    rw [of_cons, List.nodup_cons]
    by_cases hx : x ∈ l
    · rw [put_id (of_sorted l) (mem_of.2 hx)]
      have := of_length l
      constructor
      · intro h; simp at h; omega
      · intro h; exact absurd hx h.1
    · rw [put_length_new (fun h => hx (mem_of.1 h)), List.length_cons]
      constructor
      · intro h; exact ⟨hx, ih.1 (by omega)⟩
      · intro h; rw [ih.2 h.2]
/-- The list has each number from 0 to n - 1 once, in plain words. -/
def Per (l : List Int) (n : Nat) : Prop := l.length = n ∧ l.Nodup ∧ ∀ x ∈ l, 0 ≤ x ∧ x < n
theorem ordI_per {l : List Int} {n : Nat} : OrdI l n ↔ Per l n := by
  unfold OrdI Per
  constructor
  · rintro ⟨h1, h2, h3⟩
    exact ⟨by omega, (of_length_nodup l).1 (by omega), fun x hx => h2.1 x (mem_of.2 hx)⟩
  · rintro ⟨h1, h2, h3⟩
    have := (of_length_nodup l).2 h2
    exact ⟨by omega, ⟨fun x hx => h3 x (mem_of.1 hx), of_sorted l⟩, by omega⟩

set_option maxHeartbeats 1000000 in
theorem rAll_any (A : Option Addr) (m c : Nat) (l : List Int) (n : Int) (w : World) (h : RI w A m l) (hm : m ≤ 1099511627776) :
    Calls Tryd.prog 40 #[.slice A m c, .int .i64 n] w fun e w' => e = .returned (.bool (decide (OrdI l n))) ∧ Below w.heap.size w w' := by
  have hlen := h.len
  by_cases h1 : (m : Int) = n
  · have q1 : ((m : Int) == n) = true := by simpa using h1
    by_cases h2 : Vld (ofL l) n
    · have hv : decide (OrdI l n) = decide (((ofL l).length : Int) = n) := by
        rw [Bool.eq_iff_iff, decide_eq_true_iff, decide_eq_true_iff]
        unfold OrdI
        constructor
        · exact fun h => h.2.2
        · exact fun h => ⟨by omega, h2, h⟩
      replace hv := Lib.hid hv
      replace hlen := Lib.hid hlen
      have h2' : decide (Vld (ofL l) n) = true := decide_eq_true h2
      replace h2' := Lib.hid h2'
      clear h1 h2
      go_enter Tryd.func40, Tryd.ntmps40
      go_wp2_with fail
      refine (of_any A m c l _ h hm).mono ?_
      rintro e w1 ⟨A1, n1, c1, rfl, hn1, hr1, hb1, hf1⟩
      have hl1 : n1 ≤ m := by have := of_length l; have := hr1.len; have := hlen.out; omega
      go_wp2_with fail
      refine (valid_any A1 n1 c1 (ofL l) n _ hr1 (by omega)).mono ?_
      rintro e w2 ⟨rfl, rfl⟩
      rw [h2'.out]
      have h3 := RI.below h hb1 (Nat.le_refl _)
      go_wp2_with fail
      refine (of_any A m c l _ h3 hm).mono ?_
      rintro e w3 ⟨A2, n2, c2, rfl, hn2, hr2, hb2, hf2⟩
      have hb3 := hb1.trans (hb2.mono hb1.size)
      have hl2 := Lib.hid hr2.len
      clear hb1 hb2 hr1 hf1 hf2
      go_wp2_with fail
      go_ret
      exact ⟨retBool (by rw [hv.out, hl2.out, Bool.eq_iff_iff]; simp), hb3⟩
    · have hv : decide (OrdI l n) = false := decide_eq_false fun h => h2 h.2.1
      replace hv := Lib.hid hv
      replace hlen := Lib.hid hlen
      have h2' : decide (Vld (ofL l) n) = false := decide_eq_false h2
      replace h2' := Lib.hid h2'
      clear h1 h2
      go_enter Tryd.func40, Tryd.ntmps40
      go_wp2_with fail
      refine (of_any A m c l _ h hm).mono ?_
      rintro e w1 ⟨A1, n1, c1, rfl, hn1, hr1, hb1, hf1⟩
      have hl1 : n1 ≤ m := by have := of_length l; have := hr1.len; have := hlen.out; omega
      go_wp2_with fail
      refine (valid_any A1 n1 c1 (ofL l) n _ hr1 (by omega)).mono ?_
      rintro e w2 ⟨rfl, rfl⟩
      rw [h2'.out]
      clear hr1 hf1
      go_wp2_with fail
      go_ret
      exact ⟨retBool hv.out.symm, hb1⟩
  · have q1 : ((m : Int) == n) = false := by simpa using h1
    have hv : decide (OrdI l n) = false := decide_eq_false fun h => h1 (by have := h.1; omega)
    replace hv := Lib.hid hv
    clear h1 hlen
    go_enter Tryd.func40, Tryd.ntmps40
    go_wp2_with fail
    go_ret
    exact ⟨retBool hv.out.symm, Below.refl _ _⟩

/-- How many neighbours stand behind each node. -/
def IsLater (nb : Int → List Int) (n : Nat) (o ls : List Int) : Prop := ls.length = n ∧ ∀ i v, o[i]? = some v → ls.getD v.toNat 0 = (dg nb (o.drop (i + 1)) v : Int)
def LaterTo (nb : Int → List Int) (n : Nat) (o ls : List Int) (k : Nat) : Prop := ls.length = n ∧ ∀ (i : Nat) (v : Int), i < k → o[i]? = some v → ls.getD v.toNat 0 = (dg nb (o.drop (i + 1)) v : Int)
theorem nodup_at {o : List Int} (h : o.Nodup) {i j : Nat} {v : Int} (hi : o[i]? = some v) (hj : o[j]? = some v) : i = j := by
  obtain ⟨h1, e1⟩ := List.getElem?_eq_some_iff.1 hi
  obtain ⟨h2, e2⟩ := List.getElem?_eq_some_iff.1 hj
  have hp := List.pairwise_iff_getElem.1 h
  rcases Nat.lt_trichotomy i j with h | h | h
  · exact absurd (e1.trans e2.symm) (hp i j h1 h2 h)
  · exact h
  · exact absurd (e2.trans e1.symm) (hp j i h2 h1 h)
theorem later_step {nb : Int → List Int} {n : Nat} {o ls : List Int} {k : Nat} {v : Int} (h : LaterTo nb n o ls k) (ho : Per o n) (hv : o[k]? = some v) : LaterTo nb n o (ls.set v.toNat (dg nb (o.drop (k + 1)) v : Nat)) (k + 1) := by
  refine ⟨by rw [List.length_set]; exact h.1, fun i u hi hu => ?_⟩
  have hv0 := ho.2.2 v (mem_at hv)
  have hu0 := ho.2.2 u (mem_at hu)
  rw [List.getD_eq_getElem?_getD]
  by_cases he : i = k
  · subst he
    rw [hv] at hu
    injection hu with hu
    subst hu
    rw [List.getElem?_set_self (by rw [h.1]; omega)]
    rfl
  · have hne : u.toNat ≠ v.toNat := fun e => he (nodup_at ho.2.1 hu (by rw [hv, show v = u by omega]))
    rw [List.getElem?_set_ne (by omega), ← List.getD_eq_getElem?_getD]
    exact h.2 i u (by omega) hu

set_option maxRecDepth 100000 in
set_option maxHeartbeats 4000000 in
theorem rlater_any (A : Option Addr) (m c : Nat) (n : Nat) (es : List (Int × Int)) (A2 : Option Addr) (m2 c2 : Nat) (o : List Int) (w : World) (h : RE w A m es) (hm : m ≤ 68719476736) (hn : n ≤ 64) (h2 : RI w A2 m2 o) (hmc : m2 ≤ c2) (ho : Per o n) :
    Calls Tryd.prog 41 #[.agg #[.int .i64 n, .slice A m c], .slice A2 m2 c2] w fun e w' => ∃ ls, RetI w ls e w' ∧ IsLater (nbG n es) n o ls := by
  have hml := Lib.hid h.len
  have hol := Lib.hid h2.len
  have hm2 : m2 ≤ 64 := by have := ho.1; have := hol.out; omega
  replace ho := Lib.hid ho
  have hst : LaterTo (nbG n es) n o (List.replicate n 0) 0 := ⟨by simp, fun i v hi => by omega⟩
  go_enter Tryd.func41, Tryd.ntmps41
  go_wp2_with (at_make; refine wpList_makeI rfl _ _ rfl rfl rfl (n := n) (by omega) (by omega) (by omega) ?_; intro w1 hA1 hg1)
  have hG1 := Blk.grown (Blk.new w 28 #[.int .i64 n, .slice A m c]) hg1 (by simp)
  have hb1 : Below w.heap.size w w1 := ((Below.refl _ _).alloc (Nat.le_refl _) _).trans (grown_none_below hg1 _ (by simp))
  simp only [World.size_alloc] at hA1
  generalize hgb : w.heap.size + 1 = gb at *
  have hgl : w.heap.size < gb := by omega
  clear hg1 hgb
  generalize List.replicate n (0 : Int) = ls0 at *
  replace hst := Lib.hid hst
  go_loopw [13] (fun i wr => ∃ (k : Nat) (ls : List Int), k ≤ m2 ∧ i = .int .i64 k ∧ AI wr gb ls ∧ Hid (LaterTo (nbG n es) n o ls k) ∧ Blk wr w.heap.size 28 #[.int .i64 n, .slice A m c] ∧ Below w.heap.size w wr) (fun i _ => m2 - (intOf i).toNat)
  case atStart => exact ⟨0, ls0, Nat.zero_le _, rfl, hA1, hst, hG1, hb1⟩
  case round =>
    obtain ⟨k, ls, hk, rfl, hA, hL, hG, hb⟩ := hrel
    clear hA1 hst hG1 hb1
    have hsz := hb.size
    have hGl := hG.lt
    have hAl := hA.lt
    by_cases hlt : k < m2
    · have hr2 := RI.below h2 hb (Nat.le_refl _)
      obtain ⟨ad, v, rfl, hv, hcv⟩ := hr2.get hlt
      have hv0 := ho.out.2.2 v (mem_at hv.out)
      obtain ⟨x, rfl⟩ := Int.eq_ofNat_of_zero_le hv0.1
      have hstep := later_step hL.out ho.out hv.out
      rw [Int.toNat_natCast] at hstep
      have hll := hL.out.1
      have hxn : x < ls.length := by omega
      have hx1 : (x : Int) < (n : Int) := hv0.2
      have hx0 : (0 : Int) ≤ (x : Int) := Int.natCast_nonneg _
      have g0 := Blk.cell hG 0
      have g1 := Blk.cell hG 1
      simp at g0 g1
      have hnl := nbG_length n es x
      have hmd := meet_dg n es (o.drop (k + 1)) x
      replace hnl : (nbG n es x).length ≤ 2 * m := by have := hml.out; omega
      have i1 : IntKind.i64.wrap ((k : Int) + 1) = (k : Int) + 1 := IntWalk.i64_in _ ⟨by omega, by omega⟩
      have i2 : (0 : Int) ≤ (k : Int) + 1 := by omega
      have i3 : (k : Int) + 1 ≤ (m2 : Int) := by omega
      have i4 : (m2 : Int) ≤ (c2 : Int) := by omega
      have i5 : (k : Int) + 1 ≤ (c2 : Int) := by omega
      have i6 : ((k : Int) + 1).toNat = k + 1 := by omega
      have hkm : k + 1 ≤ m2 := by omega
      have hAn : ls.length = n := hll
      clear hll
      have hRE := (RE.below h hb (Nat.le_refl _)).drew
      have hcut := (RI.cut hr2 hkm hmc).drew
      have hways : (c2 = k + 1 ∧ RI wr.drew (some ad) 0 (o.drop (k + 1))) ∨ (¬ c2 = k + 1 ∧ RI wr.drew (some ⟨ad.block, ad.off + (k + 1), none⟩) (m2 - (k + 1)) (o.drop (k + 1))) := by
        by_cases hcc : c2 = k + 1
        · rw [if_pos hcc, show m2 - (k + 1) = 0 by omega] at hcut; exact .inl ⟨hcc, hcut⟩
        · rw [if_neg hcc] at hcut; exact .inr ⟨hcc, hcut⟩
      clear hcut
      have hA0 := AI.drew hA
      have hG0 := Blk.drew hG
      have hb0 := hb.drew
      rcases hways with ⟨rfl, hcut⟩ | ⟨hcc, hcut⟩
      all_goals
        go_wp2_with fail
        have tok1 : True := trivial
        have hne1 : ¬ gb = w.heap.size := by omega
        have hne2 : ¬ w.heap.size = gb := by omega
        go_region_held3 (fun w' => w'.cell? ⟨w.heap.size, 0, none⟩ = some (.int .i64 n) ∧ w'.cell? ⟨w.heap.size, 1, none⟩ = some (.slice A m c))
          ((first | (go_split_ands; refine ⟨?_, ?_⟩ <;> (rw [hbc.cell (by simp; omega)]; assumption)) | (refine ⟨?_, ?_⟩ <;> (rw [World.cell?_setCell_other _ _ _ _ (by intro e; injection e with e; omega)]; assumption)) | ((repeat' apply And.intro) <;> (go_keep; done))))
          ((first | (have _t := tok1; go_at_call 25; refine (neigh_any _ m c n es (x : Int) _ hRE (by omega)).mono ?_; rintro e w3 ⟨A3, n3, c3, rfl, hn3, hr3, hb3, hf3⟩; clear tok1 _t; have hbc : Below wr.heap.size wr.drew w3 := hb3) | (go_at_call 30; refine (meet_any A3 _ n3 c3 _ _ _ (o.drop (k + 1)) _ hr3 (by have := hr3.len; omega) (RI.below hcut hb3 (Nat.le_refl _)) (by omega)).mono ?_; rintro e w4 ⟨A4, n4, c4, rfl, hn4, hr4, hb4, hf4⟩; have hbc : Below w3.heap.size w3 w4 := hb4; have hs3 : wr.heap.size ≤ w3.heap.size := hb3.size; have hA4 := AI.below (AI.below hA0 hb3 hAl) hb4 (by omega); have hcx := hA4.cell hxn; have hfx := hA4.frozen x; have hG4 := Blk.below (Blk.below hG0 hb3 hGl) hb4 (by omega); have k0 := Blk.cell hG4 0; have k1 := Blk.cell hG4 1; simp at k0 k1)))
        have hn4' : n4 = dg (nbG n es) (o.drop (k + 1)) x := by rw [← hmd, hr4.len]
        rw [← hn4'] at hstep
        have hset := hA4.set x (n4 : Int)
        have hG5 := Blk.far hG4 (p := ⟨gb, x, none⟩) (by simp; omega) (.int .i64 (n4 : Int))
        have hb5 := ((hb0.trans (hb3.mono hsz)).trans (hb4.mono (by omega))).setCell (p := ⟨gb, x, none⟩) (by simp; omega) (.int .i64 (n4 : Int))
        replace hstep := Lib.hid hstep
        clear hn4' hmd hA4 hG4 hb3 hb4 hr3 hr4 hf3 hf4 hcut hA0 hG0 hb0 hbc
        go_wp2_with fail
        go_roundw
        case rel => exact ⟨k + 1, _, by omega, by go_num, hset, hstep, hG5, hb5⟩
        case measure => simp [intOf]; omega
    · have hfin : ∃ ls, RetI w ls (.returned (.slice (some ⟨gb, 0, none⟩) n n)) wr ∧ IsLater (nbG n es) n o ls := by
        refine ⟨ls, RetI.mk_ (Nat.le_refl _) (hA.ri hL.out.1.symm) hb (fun ad e => by injection e with e; subst e; exact Nat.le_of_lt hgl), hL.out.1, fun i v hv => hL.out.2 i v ?_ hv⟩
        obtain ⟨hi, _⟩ := List.getElem?_eq_some_iff.1 hv
        rw [hol.out] at hi
        omega
      replace hfin := Lib.hid hfin
      clear hA hb
      go_wp2_with fail
      go_ret
      exact hfin.out
end Go.Proofs.YtciehcageghggaaDoor
