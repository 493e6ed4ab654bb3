/- Package core, first part: whole orders, and later neighbours. -/
import Derived.Test.YtdibfecejgjfmaaGreatDoorRCoF
import Derived.Test.YtdibfecejgjfmaaGreatDoorRowM
import Derived.Test.YtdibfecejgjfmaaGreatDoorGphA
set_option linter.unusedVariables false
namespace Go.Proofs.YtdibfecejgjfmaaGreatDoor
open Go.RowKit

def seenL (n : Nat) (p : List Int) : List Bool := (List.range n).map fun i : Nat => decide ((i : Int) ∈ p)
theorem seenL_length (n : Nat) (p : List Int) : (seenL n p).length = n := by simp [seenL]
theorem seenL_get {n : Nat} {p : List Int} {i : Nat} (h : i < n) : (seenL n p).getD i false = decide ((i : Int) ∈ p) := by
  rw [List.getD_eq_getElem?_getD]
  simp [seenL, h]
theorem seenL_nil (n : Nat) : seenL n [] = List.replicate n false := by
  unfold seenL
  refine List.ext_getElem? fun i => ?_
  rw [List.getElem?_map, List.getElem?_replicate]
  by_cases h : i < n <;> simp [h]
theorem seenL_push {n : Nat} {p : List Int} {x : Nat} : seenL n (p ++ [(x : Int)]) = (seenL n p).set x true := by
  refine List.ext_getElem? fun i => ?_
  rw [List.getElem?_set]
  unfold seenL
  rw [List.getElem?_map, List.getElem?_map, List.length_map, List.length_range]
  by_cases h : i < n
  · by_cases he : x = i
    · subst he
      simp [h]
    · rw [if_neg he]
      simp [h]
      intro hx; omega
  · by_cases he : x = i
    · subst he; simp [h]
    · simp [h, he]
set_option maxHeartbeats 2000000 in
theorem whole_any (A : Option Addr) (m c : Nat) (o : List Int) (n : Nat) (w : World) (h : RI w A m o) (hm : m ≤ 1099511627776) (hn : n ≤ 64) :
    Calls Tryz.prog 48 #[.slice A m c, .int .i64 n] w fun e w' => e = .returned (.bool (decide (OrdI o n))) ∧ Below w.heap.size w w' := by
  have hol := Lib.hid h.len
  have hdef : ∀ k, k = m → (o.take k).Nodup → (∀ x ∈ o.take k, 0 ≤ x ∧ x < n) → (OrdI o n ↔ m = n) := by
    intro k hk h1 h2
    subst hk
    rw [List.take_of_length_le (by rw [hol.out]; exact Nat.le_refl _)] at h1 h2
    rw [ordI_per]
    exact ⟨fun h => by rw [← hol.out]; exact h.1, fun h => ⟨by rw [hol.out]; exact h, h1, h2⟩⟩
  replace hdef := Lib.hid hdef
  have hst := seenL_nil n
  go_enter Tryz.func48, Tryz.ntmps48
  go_wp2_with (at_make; refine wpList_makeB rfl _ _ rfl rfl rfl (n := n) (by omega) (by omega) (by omega) ?_; intro w1 hA1 hg1)
  have hb1 := grown_none_below hg1 w.heap.size (Nat.le_refl _)
  rw [← hst] at hA1
  clear hst hg1
  have hgl : w.heap.size ≤ w.heap.size := Nat.le_refl _
  generalize hgb : w.heap.size = gb at hA1 hgl ⊢
  replace hgb : w.heap.size ≤ gb := by omega
  go_loopw [12] (fun i wr => ∃ k : Nat, k ≤ m ∧ i = .int .i64 k ∧ AB wr gb (seenL n (o.take k)) ∧ Hid ((o.take k).Nodup) ∧ Hid (∀ x ∈ o.take k, 0 ≤ x ∧ x < n) ∧ Below w.heap.size w wr) (fun i _ => m - (intOf i).toNat)
  case atStart => exact ⟨0, Nat.zero_le _, rfl, hA1, Lib.hid List.Pairwise.nil, Lib.hid (fun x hx => by cases hx), hb1⟩
  case round =>
    obtain ⟨k, hk, rfl, hA, hnd, hrg, hb⟩ := hrel
    clear hA1 hb1
    by_cases hlt : k < m
    · obtain ⟨ad, v, rfl, hv, hcv⟩ := (RI.below h hb (Nat.le_refl _)).get hlt
      have htk := take_at hv.out
      by_cases hin : 0 ≤ v ∧ v < n
      · obtain ⟨x, rfl⟩ := Int.eq_ofNat_of_zero_le hin.1
        have hxn : x < n := by omega
        have q1 : decide ((x : Int) < 0) = false := by simp
        have q2 : decide ((n : Int) ≤ (x : Int)) = false := by simp; omega
        have hcx := hA.cell (i := x) (by rw [seenL_length]; exact hxn)
        rw [seenL_get hxn] at hcx
        have hfx := hA.frozen x
        have i0 : (0 : Int) ≤ (x : Int) := Int.natCast_nonneg _
        have i1 : (x : Int) < (n : Int) := by omega
        by_cases hdup : (x : Int) ∈ o.take k
        · have hno : ¬ OrdI o n := fun ho => by
            have h1 := (ordI_per.1 ho).2.1
            have h2 : (o.take (k + 1)).Nodup := h1.sublist (List.take_sublist _ _)
            rw [htk, List.nodup_append] at h2
            exact h2.2.2 x hdup x (by simp) rfl
          have hd : decide ((x : Int) ∈ o.take k) = true := decide_eq_true hdup
          rw [hd] at hcx
          replace hno := Lib.hid hno
          clear hd htk hdup
          go_wp2_with fail
          go_ret
          exact ⟨retBool (decide_eq_false hno.out).symm, hb⟩
        · have hd : decide ((x : Int) ∈ o.take k) = false := decide_eq_false hdup
          rw [hd] at hcx
          have hset := hA.set x true
          rw [← seenL_push, ← htk] at hset
          have hnd2 : (o.take (k + 1)).Nodup := by
            rw [htk, List.nodup_append]
            refine ⟨hnd.out, by simp, fun a ha b hb' e => ?_⟩
            rw [List.mem_singleton.1 hb'] at e
            exact hdup (e ▸ ha)
          have hrg2 : ∀ x ∈ o.take (k + 1), 0 ≤ x ∧ x < n := by
            rw [htk]
            intro y hy
            rcases List.mem_append.1 hy with hy | hy
            · exact hrg.out y hy
            · rw [List.mem_singleton.1 hy]; exact hin
          replace hnd2 := Lib.hid hnd2
          replace hrg2 := Lib.hid hrg2
          clear hd htk hdup
          go_wp2_with fail
          go_roundw
          case rel => exact ⟨k + 1, by omega, by go_num, hset, hnd2, hrg2, hb.setCell (p := ⟨gb, x, none⟩) hgb _⟩
          case measure => simp [intOf]; omega
      · have hno : ¬ OrdI o n := fun ho => hin ((ordI_per.1 ho).2.2 v (mem_at hv.out))
        replace hno := Lib.hid hno
        have hw : decide (v < 0) = true ∨ (decide (v < 0) = false ∧ decide ((n : Int) ≤ v) = true) := by simp; omega
        clear hin htk
        rcases hw with q1 | ⟨q1, q2⟩
        all_goals
          go_wp2_with fail
          go_ret
          exact ⟨retBool (decide_eq_false hno.out).symm, hb⟩
    · have hd := hdef.out k (by omega) hnd.out hrg.out
      replace hd := Lib.hid hd
      go_wp2_with fail
      go_ret
      refine ⟨retBool ?_, hb⟩
      rw [Bool.eq_iff_iff]
      simp [hd.out]
      try omega
end Go.Proofs.YtdibfecejgjfmaaGreatDoor

namespace Go.Proofs.YtdibfecejgjfmaaGreatDoor
open Go.RowKit CoBit

theorem u64_clr {x b : Nat} (hx : x < 18446744073709551616) (hb : b < 64) : bits .andNot .u64 (x : Int) ((bitN b : Nat) : Int) = ((clr x b : Nat) : Int) := u64_andNot_nat x (2 ^ b) hx (two_pow_lt hb)
theorem per_drop {o : List Int} {n k : Nat} {x : Int} (h : Per o n) (hx : o[k]? = some x) : x ∉ o.drop (k + 1) := by
  have h1 : (o.drop k).Nodup := h.2.1.sublist (List.drop_sublist _ _)
  rw [drop_at hx, List.nodup_cons] at h1
  exact h1.1
theorem per_all {o : List Int} {n i : Nat} (h : Per o n) (hi : i < n) : (i : Int) ∈ o := by
  have hp : rst n o = [] := by
    by_cases he : rst n o = []
    · exact he
    · obtain ⟨x, hx⟩ := List.exists_mem_of_ne_nil _ he
      have hx' := mem_rst.1 hx
      have h2 := nodup_length (n := n) (o := x :: o) (List.nodup_cons.2 ⟨hx'.2, h.2.1⟩) (fun y hy => by
        rcases List.mem_cons.1 hy with rfl | hy
        · exact hx'.1
        · exact h.2.2 y hy)
      have := h.1
      simp at h2
      omega
  by_cases hm : (i : Int) ∈ o
  · exact hm
  · have : (i : Int) ∈ rst n o := mem_rst.2 ⟨by omega, hm⟩
    rw [hp] at this
    cases this
theorem left_start {o : List Int} {n : Nat} (h : Per o n) : ∀ i, i < n → ((2 ^ n - 1).testBit i = true ↔ (i : Int) ∈ o.drop 0) := by
  intro i hi
  rw [all_bit]
  simp [hi]
  exact per_all h hi
theorem left_step {o : List Int} {n k x : Nat} {left : Nat} (h : Per o n) (hx : o[k]? = some (x : Int)) (hl : left < 18446744073709551616) (hx64 : x < 64) (hb : ∀ i, i < n → (left.testBit i = true ↔ (i : Int) ∈ o.drop k)) : ∀ i, i < n → ((clr left x).testBit i = true ↔ (i : Int) ∈ o.drop (k + 1)) := by
  intro i hi
  rw [clr_bit hl hx64]
  have h1 := hb i hi
  have h2 := per_drop h hx
  rw [drop_at hx, List.mem_cons] at h1
  simp only [Bool.and_eq_true, decide_eq_true_eq, h1]
  constructor
  · rintro ⟨h | h, hne⟩
    · omega
    · exact h
  · intro hm
    exact ⟨.inr hm, fun e => h2 (e ▸ hm)⟩

set_option maxRecDepth 100000 in
set_option maxHeartbeats 4000000 in
theorem later_any (A : Option Addr) (m c : Nat) (n : Nat) (es : List (Int × Int)) (A2 : Option Addr) (m2 c2 : Nat) (o : List Int) (w : World) (h : RE w A m es) (hm : m ≤ 68719476736) (hn : n ≤ 64) (h2 : RI w A2 m2 o) (hmc : m2 ≤ c2) (ho : Per o n) (hc : chkG n es = 0) :
    Calls Tryz.prog 50 #[.agg #[.int .i64 n, .slice A m c], .slice A2 m2 c2] w fun e w' => ∃ ls, RetI w ls e w' ∧ IsLater (nbG n es) n o ls := by
  have hol := Lib.hid h2.len
  have hm2 : m2 ≤ 64 := by have := ho.1; have := hol.out; omega
  have hst : LaterTo (nbG n es) n o (List.replicate n 0) 0 := ⟨by simp, fun i v hi => by omega⟩
  have hlf := Lib.hid (left_start ho)
  have hrl := rowsL_length n es
  have hrlt := Lib.hid (rows_lt es hn)
  have hpd := Lib.hid (fun v y l hl => pop_dg (es := es) hc hn v y l hl)
  replace ho := Lib.hid ho
  replace hc := Lib.hid hc
  replace hrl := Lib.hid hrl
  have hall : 2 ^ n - 1 < 18446744073709551616 := by
    have h1 : (2 : Nat) ^ n ≤ 2 ^ 64 := Nat.pow_le_pow_right (by omega) hn
    rw [show (2 : Nat) ^ 64 = 18446744073709551616 by decide +kernel] at h1
    have := Nat.two_pow_pos n
    omega
  go_enter Tryz.func50, Tryz.ntmps50
  go_wp2_with fail
  refine (rows_any A m c n es _ (h.alloc _) (by omega) hn).mono ?_
  rintro e w1 ⟨gr, rfl, hgr, hR, hb1⟩
  simp only [World.size_alloc] at hb1 hgr
  have hb0 : Below w.heap.size w w1 := ((Below.refl _ _).alloc (Nat.le_refl _) _).trans (hb1.mono (by simp))
  have hrl1 := hR.lt
  have hs0 := hb0.size
  generalize hrows : rowsL n es = rows at *
  replace hrows := Lib.hid hrows
  clear hb1
  go_wp2_with (at_make; refine wpList_makeI rfl _ _ rfl rfl rfl (n := n) (by omega) (by omega) (by omega) ?_; intro w2 hA2 hg2)
  replace hR := AU.grown hR hg2 (by simp)
  replace hb0 := hb0.trans (grown_none_below hg2 _ hs0)
  have hs2 := hg2.size
  have hne : gr ≠ w1.heap.size := by omega
  have hgl : w.heap.size ≤ w1.heap.size := hs0
  clear hg2
  generalize w1.heap.size = gb at *
  refine (all_any n hn _).mono ?_
  rintro e w3 ⟨rfl, rfl⟩
  generalize 2 ^ n - 1 = left0 at *
  generalize List.replicate n (0 : Int) = ls0 at *
  replace hst := Lib.hid hst
  go_wp2_with fail
  go_loopw [7, 20] (fun lf i wr => ∃ (k left : Nat) (ls : List Int), k ≤ m2 ∧ i = .int .i64 k ∧ lf = .int .u64 left ∧ left < 18446744073709551616 ∧ Hid (∀ i, i < n → (left.testBit i = true ↔ (i : Int) ∈ o.drop k)) ∧ AI wr gb ls ∧ AU wr gr rows ∧ Hid (LaterTo (nbG n es) n o ls k) ∧ Below w.heap.size w wr) (fun _ i _ => m2 - (intOf i).toNat)
  case atStart => exact ⟨0, left0, ls0, Nat.zero_le _, rfl, rfl, hall, hlf, hA2, hR, hst, hb0⟩
  case round =>
    obtain ⟨k, left, ls, hk, rfl, rfl, hl, hlb, hA, hR2, hL, hb⟩ := hrel
    clear hA2 hR hst hb0 hlf
    by_cases hlt : k < m2
    · obtain ⟨ad, v, rfl, hv, hcv⟩ := (RI.below h2 hb (Nat.le_refl _)).get hlt
      have hv0 := ho.out.2.2 v (mem_at hv.out)
      obtain ⟨x, rfl⟩ := Int.eq_ofNat_of_zero_le hv0.1
      have hxn : x < n := by omega
      have hcr := hR2.cell (i := x) (by rw [hrl.out]; exact hxn)
      have hr64 := getD_lt hrlt.out x
      have e1 := u64_clr hl (show x < 64 by omega)
      have hl2 := clr_lt (b := x) hl
      have hlb2 := Lib.hid (left_step ho.out hv.out hl (by omega) hlb.out)
      have hcount : pop (rows.getD x 0 &&& clr left x) = dg (nbG n es) (o.drop (k + 1)) x := hpd.out x _ _ hlb2.out
      have hstep := later_step hL.out ho.out hv.out
      rw [Int.toNat_natCast, ← hcount] at hstep
      generalize clr left x = left2 at *
      have e2 := bits_and_u64_nat (rows.getD x 0) left2 hr64 hl2
      have hl3 : rows.getD x 0 &&& left2 < 18446744073709551616 := and_lt' hr64
      generalize rows.getD x 0 = R at *
      have hxl : x < ls.length := by rw [hL.out.1]; exact hxn
      have hcx := hA.cell hxl
      have hfx := hA.frozen x
      have hset := hA.set x (pop (R &&& left2) : Nat)
      replace hstep := Lib.hid hstep
      clear hcount
      generalize R &&& left2 = q at *
      have i0 : (0 : Int) ≤ (x : Int) := Int.natCast_nonneg _
      have i1 : (x : Int) < (n : Int) := by omega
      go_wp2_with fail
      refine (bit_any x (by omega) _).mono ?_
      rintro e w4 ⟨rfl, rfl⟩
      go_wp2_with fail
      refine (count_any q hl3 _).mono ?_
      rintro e w4 ⟨rfl, rfl⟩
      generalize pop q = d at *
      go_wp2_with fail
      go_roundw
      case rel => exact ⟨k + 1, left2, _, by omega, by go_num, rfl, hl2, hlb2, hset, AU.far hR2 (p := ⟨gb, x, none⟩) (by simp; omega) _, hstep, hb.setCell (p := ⟨gb, x, none⟩) hgl _⟩
      case measure => simp [intOf]; omega
    · have hfin : ∃ ls, RetI w ls (.returned (.slice (some ⟨gb, 0, none⟩) n n)) wr ∧ IsLater (nbG n es) n o ls := by
        refine ⟨ls, RetI.mk_ (Nat.le_refl _) (hA.ri hL.out.1.symm) hb (fun ad e => by injection e with e; subst e; exact hgl), hL.out.1, fun i v hv => hL.out.2 i v ?_ hv⟩
        obtain ⟨hi, _⟩ := List.getElem?_eq_some_iff.1 hv
        rw [hol.out] at hi
        omega
      replace hfin := Lib.hid hfin
      clear hA hb
      go_wp2_with fail
      go_ret
      exact hfin.out
end Go.Proofs.YtdibfecejgjfmaaGreatDoor
