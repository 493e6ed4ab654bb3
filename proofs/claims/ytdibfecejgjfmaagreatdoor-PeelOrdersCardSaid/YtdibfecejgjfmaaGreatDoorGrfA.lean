/- The reference's graphs (cohesionref03): ends, edge, Find. -/
import Derived.Test.YtdibfecejgjfmaaGreatDoorGraB
set_option linter.unusedVariables false
set_option linter.unusedSimpArgs false
namespace Go.Proofs.YtdibfecejgjfmaaGreatDoor
open Go.RowKit

/-- Two nodes are different and exist. -/
def endsB (n u v : Int) : Bool := decide (0 ≤ u ∧ 0 ≤ v ∧ u < n ∧ v < n ∧ u ≠ v)
/-- The edge of two nodes. -/
def edgeP (u v : Int) : Int × Int := (min u v, max u v)
/-- The first index of an edge; -1. -/
def fndE (es : List (Int × Int)) (e : Int × Int) : Int := match es.findIdx? (fun x => decide (x = e)) with | some i => (i : Int) | none => -1
theorem fndE_some {es : List (Int × Int)} {e : Int × Int} {k : Nat} (h : es[k]? = some e) (h2 : ∀ x ∈ es.take k, x ≠ e) : fndE es e = (k : Int) := by
  obtain ⟨hk, he⟩ := List.getElem?_eq_some_iff.1 h
  have : es.findIdx? (fun x => decide (x = e)) = some k := by
    rw [List.findIdx?_eq_some_iff_getElem]
    refine ⟨hk, by simpa using he, fun j hj => ?_⟩
    have := h2 es[j] (by rw [List.mem_iff_getElem]; exact ⟨j, by rw [List.length_take]; omega, by rw [List.getElem_take]⟩)
    simpa using this
  unfold fndE
  rw [this]
theorem fndE_none {es : List (Int × Int)} {e : Int × Int} (h2 : ∀ x ∈ es, x ≠ e) : fndE es e = -1 := by
  have : es.findIdx? (fun x => decide (x = e)) = none := by
    rw [List.findIdx?_eq_none_iff]
    intro x hx
    simpa using h2 x hx
  unfold fndE
  rw [this]
/-- What Find returns. -/
def rfnd (n : Int) (es : List (Int × Int)) (u v : Int) : Int := if chkG n es = 0 then fndE es (edgeP u v) else -1

end Go.Proofs.YtdibfecejgjfmaaGreatDoor
