/- Bytes in a row of the call's own: writing one. -/
import Derived.Test.YtbaebeackbciaaaGen
set_option linter.unusedVariables false
namespace Go.Proofs.Ytbaebeackbciaaa
open Go.RowKit

theorem BE_map (xs : List Nat) : BE.all xs = xs.map (fun x : Nat => Value.int .u8 (x : Int)) := by
  induction xs with
  | nil => rfl
  | cons x xs ih => rw [El.all_cons, ih]; rfl
theorem OS.bytes {t : TypeId} {w : World} {B : Nat} {v : Value} {xs : List Nat} (h : OS BE t w B v xs) (hn : 0 < xs.length) :
    ∃ g cap, v = .slice (some ⟨g, 0, none⟩) xs.length cap ∧ xs.length ≤ cap ∧ cap ≤ maxLen ∧ B ≤ g ∧ g < w.heap.size ∧ (∀ i, w.frozen? ⟨g, i, none⟩ = false) ∧ (∀ (i x : Nat), xs[i]? = some x → w.cell? ⟨g, i, none⟩ = some (.int .u8 (x : Int))) ∧
      ∀ i (y : Nat), OS BE t (w.setCell ⟨g, i, none⟩ (.int .u8 (y : Int))) B v (xs.set i y) := by
  rcases h.2 with ⟨_, h0⟩ | ⟨g, cap, cur, rfl, hB, hh, hc, hm, hs, ht⟩
  · omega
  have hlt : g < w.heap.size := by
    rcases Nat.lt_or_ge g w.heap.size with hlt | hge
    · exact hlt
    · rw [Array.getElem?_eq_none hge] at hh; cases hh
  have hs' : cur.size = cap := by have := hs; simpa [BE] using this
  have ht' : cur.toList.take xs.length = xs.map (fun x : Nat => Value.int .u8 (x : Int)) := by
    have := ht; rw [BE_map] at this; simpa [BE] using this
  refine ⟨g, cap, rfl, hc, hm, hB, hlt, fun i => by simp [World.frozen?, hh], fun i x hx => ?_, fun i y => ?_⟩
  · have hcell : w.cell? ⟨g, i, none⟩ = cur[i]? := cell_of_row w g i cur t (0, 0) hh
    have hi := (List.getElem?_eq_some_iff.1 hx).1
    have e1 : (cur.toList.take xs.length)[i]? = some (.int .u8 (x : Int)) := by rw [ht', List.getElem?_map, hx]; rfl
    rw [List.getElem?_take, if_pos hi] at e1
    rw [hcell]
    simpa using e1
  · have hh' : (w.setCell ⟨g, i, none⟩ (.int .u8 (y : Int))).heap[g]? = some (.cells (cur.setIfInBounds i (.int .u8 (y : Int))) t (0, 0)) := by
      simp [World.setCell, Array.getElem?_modify, hh]
    refine ⟨El.all_length BE _, .inr ⟨g, cap, _, by rw [List.length_set], hB, hh', by rw [List.length_set]; exact hc, hm, ?_, ?_⟩⟩
    · rw [Array.size_setIfInBounds]; exact hs
    · rw [List.length_set, BE_map, List.map_set, ← ht']
      show (cur.setIfInBounds i _).toList.take (xs.length * 1) = _
      rw [Nat.mul_one, Array.toList_setIfInBounds, List.take_set]
end Go.Proofs.Ytbaebeackbciaaa
