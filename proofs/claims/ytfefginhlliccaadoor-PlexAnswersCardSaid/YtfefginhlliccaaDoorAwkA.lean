/- The example of chapter 10: hung and awake. -/
import Derived.Test.YtfefginhlliccaaDoorAwkM
set_option linter.unusedVariables false
namespace Go.Proofs.YtfefginhlliccaaDoor
open Go.RowKit CoBit

theorem Blk.reads {w : World} {g : Nat} {t : TypeId} {cs : Array Value} {xs : List Value} {n size : Nat} (h : Blk w g t cs) (hx : cs.toList = xs) (hl : xs.length = n * size) : Reads w w.heap.size size (some ⟨g, 0, none⟩) n xs := by
  refine ⟨by first | exact hl | omega, fun _ => ⟨_, rfl, h.lt, fun j u hu => ?_⟩⟩
  have hc := Blk.cell h j
  have : ((⟨g, 0, none⟩ : Addr).add j) = ⟨g, j, none⟩ := by unfold Addr.add; split <;> simp_all
  rw [this, hc]
  subst hx
  simpa using hu

end Go.Proofs.YtfefginhlliccaaDoor
