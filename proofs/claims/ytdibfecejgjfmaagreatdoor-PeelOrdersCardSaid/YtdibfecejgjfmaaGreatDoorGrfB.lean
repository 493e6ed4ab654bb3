/- The reference's graphs (cohesionref03): Remove. -/
import Derived.Test.YtdibfecejgjfmaaGreatDoorGrfA
import Derived.Test.YtdibfecejgjfmaaGreatDoorMakC
set_option linter.unusedVariables false
set_option linter.unusedSimpArgs false
namespace Go.Proofs.YtdibfecejgjfmaaGreatDoor
open Go.RowKit

/-- The call returns a new graph and an error. -/
def RetGr (w : World) (n : Int) (es : List (Int × Int)) (err : Int) (e : Ending) (w' : World) : Prop := ∃ A k c, e = .returned (.tuple #[.agg #[.int .i64 n, .slice A k c], .int .i64 err]) ∧ k ≤ c ∧ RE w' A k es ∧ Below w.heap.size w w' ∧ Fr w.heap.size A
/-- The edges without one. -/
def withoutE (es : List (Int × Int)) (e : Int × Int) : List (Int × Int) := es.filter fun x => decide (x ≠ e)
theorem withoutE_take {es : List (Int × Int)} {k : Nat} {x e : Int × Int} (h : es[k]? = some x) : withoutE (es.take (k + 1)) e = if x = e then withoutE (es.take k) e else withoutE (es.take k) e ++ [x] := by
  rw [takeE h]
  unfold withoutE
  rw [List.filter_append]
  by_cases hx : x = e
  · rw [if_pos hx]; simp [hx]
  · rw [if_neg hx]; simp [hx]
theorem withoutE_len (es : List (Int × Int)) (e : Int × Int) : (withoutE es e).length ≤ es.length := List.length_filter_le _ _
theorem rfnd_ok {n : Int} {es : List (Int × Int)} (hz : chkG n es = 0) (u v : Int) : rfnd n es u v = fndE es (edgeP u v) := if_pos hz

theorem OE.below {w w' : World} {B b : Nat} {v : Value} {es : List (Int × Int)} (h : OE w B v es) (hb : Below b w w') (hB : w.heap.size ≤ b) : OE w' B v es := by
  rcases h.2 with ⟨rfl, h0⟩ | ⟨g, cap, cur, rfl, h1, h2, h3⟩
  · exact ⟨h.1, .inl ⟨rfl, h0⟩⟩
  · have hlt : g < w.heap.size := by
      rcases Nat.lt_or_ge g w.heap.size with hlt | hge
      · exact hlt
      · rw [Array.getElem?_eq_none hge] at h2; cases h2
    exact ⟨h.1, .inr ⟨g, cap, cur, rfl, h1, (hb.block g (by omega)).trans h2, h3⟩⟩
end Go.Proofs.YtdibfecejgjfmaaGreatDoor
