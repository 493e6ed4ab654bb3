/- The reference's cores (cohesionref10), sixth part: Check. -/
import Derived.Test.YtknlmgcbdcepnaaDoorRCoE
set_option linter.unusedVariables false
namespace Go.Proofs.YtknlmgcbdcepnaaDoor
open Go.RowKit

theorem hi_take {nb : List Int} {ns : List Int} {a : Int} {j : Nat} {x : Int} (h : nb[j]? = some x) : ((nb.take (j + 1)).filter fun w => decide (a ≤ ns.getD w.toNat 0)).length = ((nb.take j).filter fun w => decide (a ≤ ns.getD w.toNat 0)).length + (if a ≤ ns.getD x.toNat 0 then 1 else 0) := by
  rw [take_at h, List.filter_append, List.length_append]
  congr 1
  by_cases hx : a ≤ ns.getD x.toNat 0
  · rw [if_pos hx, List.filter_cons, if_pos (decide_eq_true hx)]; rfl
  · rw [if_neg hx, List.filter_cons, if_neg (fun e => hx (of_decide_eq_true e))]; rfl
theorem okTo_step {nb : Int → List Int} {ns o : List Int} {k : Nat} {v : Int} (h : okTo nb ns o k) (hv : o[k]? = some v) (hk : okAt nb ns o k v) : okTo nb ns o (k + 1) := by
  intro i u hi hu
  by_cases he : i = k
  · subst he
    rw [hv] at hu
    injection hu with hu
    subst hu
    exact hk
  · exact h i u (by omega) hu
theorem okTo_bad {nb : Int → List Int} {ns o : List Int} {k : Nat} {v : Int} (hv : o[k]? = some v) (hk : ¬ okAt nb ns o k v) : ¬ okTo nb ns o o.length := fun h => hk (h k v (List.getElem?_eq_some_iff.1 hv).1 hv)
theorem nbG_range {n : Nat} {es : List (Int × Int)} (hc : chkG n es = 0) {v x : Int} (h : x ∈ nbG n es v) : 0 ≤ x ∧ x < n := by
  have hlt := chkE_lt (chkG_zero hc).2.2
  unfold nbG at h
  rw [if_pos hc, mem_of] at h
  unfold nbl at h
  rw [List.mem_flatMap] at h
  obtain ⟨e, he, hx⟩ := h
  have h1 := hlt e he
  rw [List.mem_append] at hx
  rcases hx with hx | hx
  · split at hx
    · rw [List.mem_singleton.1 hx]; omega
    · cases hx
  · split at hx
    · rw [List.mem_singleton.1 hx]; omega
    · cases hx
theorem getD_at {xs : List Int} {k : Nat} {y : Int} (h : xs[k]? = some y) : xs.getD k 0 = y := by rw [List.getD_eq_getElem?_getD, h]; rfl

end Go.Proofs.YtknlmgcbdcepnaaDoor
