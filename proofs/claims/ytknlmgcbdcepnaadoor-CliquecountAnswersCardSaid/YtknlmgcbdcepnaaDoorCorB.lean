/- Package core, first part: whole orders, and later neighbours. -/
import Derived.Test.YtknlmgcbdcepnaaDoorRCoF
import Derived.Test.YtknlmgcbdcepnaaDoorRowM
import Derived.Test.YtknlmgcbdcepnaaDoorGphA
set_option linter.unusedVariables false
namespace Go.Proofs.YtknlmgcbdcepnaaDoor
open Go.RowKit

def seenL (n : Nat) (p : List Int) : List Bool := (List.range n).map fun i : Nat => decide ((i : Int) ∈ p)
theorem seenL_length (n : Nat) (p : List Int) : (seenL n p).length = n := by simp [seenL]
theorem seenL_get {n : Nat} {p : List Int} {i : Nat} (h : i < n) : (seenL n p).getD i false = decide ((i : Int) ∈ p) := by
  rw [List.getD_eq_getElem?_getD]
  simp [seenL, h]
theorem seenL_nil (n : Nat) : seenL n [] = List.replicate n false := by
  unfold seenL
  refine List.ext_getElem? fun i => ?_
  rw [List.getElem?_map, List.getElem?_replicate]
  by_cases h : i < n <;> simp [h]
theorem seenL_push {n : Nat} {p : List Int} {x : Nat} : seenL n (p ++ [(x : Int)]) = (seenL n p).set x true := by
  refine List.ext_getElem? fun i => ?_
  rw [List.getElem?_set]
  unfold seenL
  rw [List.getElem?_map, List.getElem?_map, List.length_map, List.length_range]
  by_cases h : i < n
  · by_cases he : x = i
    · subst he
      simp [h]
    · rw [if_neg he]
      simp [h]
      intro hx; omega
  · by_cases he : x = i
    · subst he; simp [h]
    · simp [h, he]
end Go.Proofs.YtknlmgcbdcepnaaDoor

namespace Go.Proofs.YtknlmgcbdcepnaaDoor
open Go.RowKit CoBit

theorem u64_clr {x b : Nat} (hx : x < 18446744073709551616) (hb : b < 64) : bits .andNot .u64 (x : Int) ((bitN b : Nat) : Int) = ((clr x b : Nat) : Int) := u64_andNot_nat x (2 ^ b) hx (two_pow_lt hb)
theorem per_drop {o : List Int} {n k : Nat} {x : Int} (h : Per o n) (hx : o[k]? = some x) : x ∉ o.drop (k + 1) := by
  have h1 : (o.drop k).Nodup := h.2.1.sublist (List.drop_sublist _ _)
  rw [drop_at hx, List.nodup_cons] at h1
  exact h1.1
theorem per_all {o : List Int} {n i : Nat} (h : Per o n) (hi : i < n) : (i : Int) ∈ o := by
  have hp : rst n o = [] := by
    by_cases he : rst n o = []
    · exact he
    · obtain ⟨x, hx⟩ := List.exists_mem_of_ne_nil _ he
      have hx' := mem_rst.1 hx
      have h2 := nodup_length (n := n) (o := x :: o) (List.nodup_cons.2 ⟨hx'.2, h.2.1⟩) (fun y hy => by
        rcases List.mem_cons.1 hy with rfl | hy
        · exact hx'.1
        · exact h.2.2 y hy)
      have := h.1
      simp at h2
      omega
  by_cases hm : (i : Int) ∈ o
  · exact hm
  · have : (i : Int) ∈ rst n o := mem_rst.2 ⟨by omega, hm⟩
    rw [hp] at this
    cases this
theorem left_start {o : List Int} {n : Nat} (h : Per o n) : ∀ i, i < n → ((2 ^ n - 1).testBit i = true ↔ (i : Int) ∈ o.drop 0) := by
  intro i hi
  rw [all_bit]
  simp [hi]
  exact per_all h hi
theorem left_step {o : List Int} {n k x : Nat} {left : Nat} (h : Per o n) (hx : o[k]? = some (x : Int)) (hl : left < 18446744073709551616) (hx64 : x < 64) (hb : ∀ i, i < n → (left.testBit i = true ↔ (i : Int) ∈ o.drop k)) : ∀ i, i < n → ((clr left x).testBit i = true ↔ (i : Int) ∈ o.drop (k + 1)) := by
  intro i hi
  rw [clr_bit hl hx64]
  have h1 := hb i hi
  have h2 := per_drop h hx
  rw [drop_at hx, List.mem_cons] at h1
  simp only [Bool.and_eq_true, decide_eq_true_eq, h1]
  constructor
  · rintro ⟨h | h, hne⟩
    · omega
    · exact h
  · intro hm
    exact ⟨.inr hm, fun e => h2 (e ▸ hm)⟩

end Go.Proofs.YtknlmgcbdcepnaaDoor
