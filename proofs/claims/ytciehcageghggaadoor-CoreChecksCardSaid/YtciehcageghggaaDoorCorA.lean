/- Package core, first part: whole orders, and later neighbours. -/
import Derived.Test.YtciehcageghggaaDoorRCoE
import Derived.Test.YtciehcageghggaaDoorRowM
import Derived.Test.YtciehcageghggaaDoorGphA
set_option linter.unusedVariables false
namespace Go.Proofs.YtciehcageghggaaDoor
open Go.RowKit

def seenL (n : Nat) (p : List Int) : List Bool := (List.range n).map fun i : Nat => decide ((i : Int) ∈ p)
theorem seenL_length (n : Nat) (p : List Int) : (seenL n p).length = n := by simp [seenL]
theorem seenL_get {n : Nat} {p : List Int} {i : Nat} (h : i < n) : (seenL n p).getD i false = decide ((i : Int) ∈ p) := by
  rw [List.getD_eq_getElem?_getD]
  simp [seenL, h]
theorem seenL_nil (n : Nat) : seenL n [] = List.replicate n false := by
  unfold seenL
  refine List.ext_getElem? fun i => ?_
  rw [List.getElem?_map, List.getElem?_replicate]
  by_cases h : i < n <;> simp [h]
theorem seenL_push {n : Nat} {p : List Int} {x : Nat} : seenL n (p ++ [(x : Int)]) = (seenL n p).set x true := by
  refine List.ext_getElem? fun i => ?_
  rw [List.getElem?_set]
  unfold seenL
  rw [List.getElem?_map, List.getElem?_map, List.length_map, List.length_range]
  by_cases h : i < n
  · by_cases he : x = i
    · subst he
      simp [h]
    · rw [if_neg he]
      simp [h]
      intro hx; omega
  · by_cases he : x = i
    · subst he; simp [h]
    · simp [h, he]
set_option maxHeartbeats 2000000 in
theorem whole_any (A : Option Addr) (m c : Nat) (o : List Int) (n : Nat) (w : World) (h : RI w A m o) (hm : m ≤ 1099511627776) (hn : n ≤ 64) :
    Calls Tryd.prog 43 #[.slice A m c, .int .i64 n] w fun e w' => e = .returned (.bool (decide (OrdI o n))) ∧ Below w.heap.size w w' := by
  have hol := Lib.hid h.len
  have hdef : ∀ k, k = m → (o.take k).Nodup → (∀ x ∈ o.take k, 0 ≤ x ∧ x < n) → (OrdI o n ↔ m = n) := by
    intro k hk h1 h2
    subst hk
    rw [List.take_of_length_le (by rw [hol.out]; exact Nat.le_refl _)] at h1 h2
    rw [ordI_per]
    exact ⟨fun h => by rw [← hol.out]; exact h.1, fun h => ⟨by rw [hol.out]; exact h, h1, h2⟩⟩
  replace hdef := Lib.hid hdef
  have hst := seenL_nil n
  go_enter Tryd.func43, Tryd.ntmps43
  go_wp2_with (at_make; refine wpList_makeB rfl _ _ rfl rfl rfl (n := n) (by omega) (by omega) (by omega) ?_; intro w1 hA1 hg1)
  have hb1 := grown_none_below hg1 w.heap.size (Nat.le_refl _)
  rw [← hst] at hA1
  clear hst hg1
  have hgl : w.heap.size ≤ w.heap.size := Nat.le_refl _
  generalize hgb : w.heap.size = gb at hA1 hgl ⊢
  replace hgb : w.heap.size ≤ gb := by omega
  go_loopw [12] (fun i wr => ∃ k : Nat, k ≤ m ∧ i = .int .i64 k ∧ AB wr gb (seenL n (o.take k)) ∧ Hid ((o.take k).Nodup) ∧ Hid (∀ x ∈ o.take k, 0 ≤ x ∧ x < n) ∧ Below w.heap.size w wr) (fun i _ => m - (intOf i).toNat)
  case atStart => exact ⟨0, Nat.zero_le _, rfl, hA1, Lib.hid List.Pairwise.nil, Lib.hid (fun x hx => by cases hx), hb1⟩
  case round =>
    obtain ⟨k, hk, rfl, hA, hnd, hrg, hb⟩ := hrel
    clear hA1 hb1
    by_cases hlt : k < m
    · obtain ⟨ad, v, rfl, hv, hcv⟩ := (RI.below h hb (Nat.le_refl _)).get hlt
      have htk := take_at hv.out
      by_cases hin : 0 ≤ v ∧ v < n
      · obtain ⟨x, rfl⟩ := Int.eq_ofNat_of_zero_le hin.1
        have hxn : x < n := by omega
        have q1 : decide ((x : Int) < 0) = false := by simp
        have q2 : decide ((n : Int) ≤ (x : Int)) = false := by simp; omega
        have hcx := hA.cell (i := x) (by rw [seenL_length]; exact hxn)
        rw [seenL_get hxn] at hcx
        have hfx := hA.frozen x
        have i0 : (0 : Int) ≤ (x : Int) := Int.natCast_nonneg _
        have i1 : (x : Int) < (n : Int) := by omega
        by_cases hdup : (x : Int) ∈ o.take k
        · have hno : ¬ OrdI o n := fun ho => by
            have h1 := (ordI_per.1 ho).2.1
            have h2 : (o.take (k + 1)).Nodup := h1.sublist (List.take_sublist _ _)
            rw [htk, List.nodup_append] at h2
            exact h2.2.2 x hdup x (by simp) rfl
          have hd : decide ((x : Int) ∈ o.take k) = true := decide_eq_true hdup
          rw [hd] at hcx
          replace hno := Lib.hid hno
          clear hd htk hdup
          go_wp2_with fail
          go_ret
          exact ⟨retBool (decide_eq_false hno.out).symm, hb⟩
        · have hd : decide ((x : Int) ∈ o.take k) = false := decide_eq_false hdup
          rw [hd] at hcx
          have hset := hA.set x true
          rw [← seenL_push, ← htk] at hset
          have hnd2 : (o.take (k + 1)).Nodup := by
            rw [htk, List.nodup_append]
            refine ⟨hnd.out, by simp, fun a ha b hb' e => ?_⟩
            rw [List.mem_singleton.1 hb'] at e
            exact hdup (e ▸ ha)
          have hrg2 : ∀ x ∈ o.take (k + 1), 0 ≤ x ∧ x < n := by
            rw [htk]
            intro y hy
            rcases List.mem_append.1 hy with hy | hy
            · exact hrg.out y hy
            · rw [List.mem_singleton.1 hy]; exact hin
          replace hnd2 := Lib.hid hnd2
          replace hrg2 := Lib.hid hrg2
          clear hd htk hdup
          go_wp2_with fail
          go_roundw
          case rel => exact ⟨k + 1, by omega, by go_num, hset, hnd2, hrg2, hb.setCell (p := ⟨gb, x, none⟩) hgb _⟩
          case measure => simp [intOf]; omega
      · have hno : ¬ OrdI o n := fun ho => hin ((ordI_per.1 ho).2.2 v (mem_at hv.out))
        replace hno := Lib.hid hno
        have hw : decide (v < 0) = true ∨ (decide (v < 0) = false ∧ decide ((n : Int) ≤ v) = true) := by simp; omega
        clear hin htk
        rcases hw with q1 | ⟨q1, q2⟩
        all_goals
          go_wp2_with fail
          go_ret
          exact ⟨retBool (decide_eq_false hno.out).symm, hb⟩
    · have hd := hdef.out k (by omega) hnd.out hrg.out
      replace hd := Lib.hid hd
      go_wp2_with fail
      go_ret
      refine ⟨retBool ?_, hb⟩
      rw [Bool.eq_iff_iff]
      simp [hd.out]
      try omega
end Go.Proofs.YtciehcageghggaaDoor
