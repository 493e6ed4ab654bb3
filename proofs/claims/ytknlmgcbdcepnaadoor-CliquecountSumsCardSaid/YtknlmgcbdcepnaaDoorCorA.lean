/- Package core, first part: whole orders, and later neighbours. -/
import Derived.Test.YtknlmgcbdcepnaaDoorRCoE
import Derived.Test.YtknlmgcbdcepnaaDoorRowM
import Derived.Test.YtknlmgcbdcepnaaDoorGphA
set_option linter.unusedVariables false
namespace Go.Proofs.YtknlmgcbdcepnaaDoor
open Go.RowKit

def seenL (n : Nat) (p : List Int) : List Bool := (List.range n).map fun i : Nat => decide ((i : Int) ∈ p)
theorem seenL_length (n : Nat) (p : List Int) : (seenL n p).length = n := by simp [seenL]
theorem seenL_get {n : Nat} {p : List Int} {i : Nat} (h : i < n) : (seenL n p).getD i false = decide ((i : Int) ∈ p) := by
  rw [List.getD_eq_getElem?_getD]
  simp [seenL, h]
theorem seenL_nil (n : Nat) : seenL n [] = List.replicate n false := by
  unfold seenL
  refine List.ext_getElem? fun i => ?_
  rw [List.getElem?_map, List.getElem?_replicate]
  by_cases h : i < n <;> simp [h]
theorem seenL_push {n : Nat} {p : List Int} {x : Nat} : seenL n (p ++ [(x : Int)]) = (seenL n p).set x true := by
  refine List.ext_getElem? fun i => ?_
  rw [List.getElem?_set]
  unfold seenL
  rw [List.getElem?_map, List.getElem?_map, List.length_map, List.length_range]
  by_cases h : i < n
  · by_cases he : x = i
    · subst he
      simp [h]
    · rw [if_neg he]
      simp [h]
      intro hx; omega
  · by_cases he : x = i
    · subst he; simp [h]
    · simp [h, he]
end Go.Proofs.YtknlmgcbdcepnaaDoor
