/- Reference 02: SameAll of equal lists of lists. -/
import Derived.Test.YtdibfecejgjfmaaGreatDoorSetB
import Derived.Deep.QuietTactic
import Derived.Lib.AtoiErrMem
set_option linter.unusedVariables false
set_option linter.unusedSimpArgs false
namespace Go.Proofs.YtdibfecejgjfmaaGreatDoor
open Go.RowKit
/-- A slice of slices reads the lists L. -/
def SLs (w : World) (A : Option Addr) (n : Nat) (L : List (List Int)) : Prop := L.length = n ∧ ∀ i, i < n → ∃ ad A' k c, A = some ad ∧ w.cell? (ad.add i) = some (.slice A' k c) ∧ RI w A' k (L.getD i []) ∧ k ≤ 1099511627776
theorem SLs.drewN {w : World} {A : Option Addr} {n : Nat} {L : List (List Int)} (h : SLs w A n L) (q : Nat) : SLs (w.drewN q) A n L := h
theorem SLs.none_ {w : World} : SLs w none 0 [] := ⟨rfl, fun i hi => by omega⟩
theorem SLs.below {w w' : World} {A : Option Addr} {n : Nat} {L : List (List Int)} (h : SLs w A n L) {b : Nat} (hb : Below b w w') (hB : w.heap.size ≤ b) : SLs w' A n L :=
  ⟨h.1, fun i hi => by
    obtain ⟨ad, A', k, c, h1, h2, h3, h4⟩ := h.2 i hi
    exact ⟨ad, A', k, c, h1, (hb.cell (Nat.lt_of_lt_of_le (Lib.lt_of_cell h2) hB)).trans h2, RI.below h3 hb hB, h4⟩⟩
end Go.Proofs.YtdibfecejgjfmaaGreatDoor
