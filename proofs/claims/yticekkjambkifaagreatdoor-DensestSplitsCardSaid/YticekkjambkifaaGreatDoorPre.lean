/- Storing into a slice of numbers that the call has made by append. -/
import Derived.Test.YticekkjambkifaaGreatDoorZaa
set_option linter.unusedVariables false
namespace Go.Proofs.YticekkjambkifaaGreatDoor
open Go.RowKit

theorem OI.slot {w : World} {B : Nat} {A : Option Addr} {n c : Nat} {ys : List Int} (h : OI w B (.slice A n c) ys) {i : Nat} (hi : i < ys.length) :
    ∃ g, A = some ⟨g, 0, none⟩ ∧ n = ys.length ∧ n ≤ c ∧ B ≤ g ∧ g < w.heap.size ∧ w.cell? ⟨g, i, none⟩ = some (.int .i64 (ys.getD i 0)) ∧ w.frozen? ⟨g, i, none⟩ = false ∧
      (∀ y, OI (w.setCell ⟨g, i, none⟩ (.int .i64 y)) B (.slice A n c) (ys.set i y)) := by
  obtain ⟨h1, h2⟩ := h
  rcases h2 with ⟨hv, h0⟩ | ⟨g, cap, cur, hv, hB, hg, hnc, hm, hsz, ht⟩
  · omega
  · simp only [Value.slice.injEq] at hv
    obtain ⟨rfl, rfl, rfl⟩ := hv
    have hlt : g < w.heap.size := by
      rcases Nat.lt_or_ge g w.heap.size with hlt | hge
      · exact hlt
      · rw [Array.getElem?_eq_none hge] at hg; cases hg
    have hc : w.cell? ⟨g, i, none⟩ = some (.int .i64 (ys.getD i 0)) := by
      have h3 : (cur.toList.take (ys.length * 1))[i]? = (ints ys)[i]? := by rw [ht]
      rw [List.getElem?_take, if_pos (by omega)] at h3
      rw [cell_of_row w g i cur _ (0, 0) hg]
      simp only [Array.getElem?_toList] at h3
      rw [h3]
      simp [ints, List.getD_eq_getElem?_getD, hi]
    refine ⟨g, rfl, rfl, hnc, hB, hlt, hc, by simp [World.frozen?, hg], fun y => ?_⟩
    refine ⟨by rw [List.length_set, ints_length, List.length_set]; omega, .inr ⟨g, c, cur.setIfInBounds i (.int .i64 y), by rw [List.length_set], hB, ?_, by rw [List.length_set]; exact hnc, hm, by simpa using hsz, ?_⟩⟩
    · rw [heapS, if_pos rfl, hg]; rfl
    · rw [List.length_set, Array.toList_setIfInBounds, List.take_set, ht]
      simp [ints, List.map_set]
end Go.Proofs.YticekkjambkifaaGreatDoor
