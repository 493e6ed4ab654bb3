/- Plain maths: how many edges a sorted list has. -/
import Derived.Test.YtdibfecejgjfmaaGreatDoorMakC
import Derived.Test.YtdibfecejgjfmaaGreatDoorDek
import Derived.Test.YtdibfecejgjfmaaGreatDoorRCoD
set_option linter.unusedVariables false
set_option linter.unusedSimpArgs false
namespace Go.Proofs.YtdibfecejgjfmaaGreatDoor

theorem srt_len {n : Nat} {es : List (Int × Int)} (h : Srt n es) : es.length ≤ n * n := by
  have h1 : (es.map fun e => e.1 * (n : Int) + e.2).Pairwise (· < ·) := by
    rw [List.pairwise_map]
    refine List.Pairwise.imp_of_mem (fun {a b} ha hb hab => ?_) h.2
    have ha' := h.1 a ha
    have hb' := h.1 b hb
    unfold ltE at hab
    rcases hab with hab | hab
    · have : (a.1 + 1) * (n : Int) ≤ b.1 * (n : Int) := Int.mul_le_mul_of_nonneg_right (by omega) (by omega)
      rw [Int.add_mul] at this
      omega
    · rw [hab.1]; omega
  have hnd : (es.map fun e => e.1 * (n : Int) + e.2).Nodup := h1.imp (fun {a b} (h : a < b) => (show a ≠ b by omega))
  have h2 := nodup_length (n := n * n) (o := es.map fun e => e.1 * (n : Int) + e.2) hnd (fun x hx => by
    rw [List.mem_map] at hx
    obtain ⟨e, he, rfl⟩ := hx
    have := h.1 e he
    have h3 : 0 ≤ e.1 * (n : Int) := Int.mul_nonneg (by omega) (by omega)
    have h4 : (e.1 + 1) * (n : Int) ≤ (n : Int) * (n : Int) := Int.mul_le_mul_of_nonneg_right (by omega) (by omega)
    rw [Int.add_mul] at h4
    rw [Int.natCast_mul]
    omega)
  simpa using h2
end Go.Proofs.YtdibfecejgjfmaaGreatDoor

namespace Go.Proofs.YtdibfecejgjfmaaGreatDoor
open Go.RowKit

theorem blkG {w : World} {g : Nat} {n : Int} {v : Value} (h : Blk w g 24 #[.int .i64 n, v]) : w.cell? ⟨g, 0, none⟩ = some (.int .i64 n) ∧ w.cell? ⟨g, 1, none⟩ = some v := ⟨Blk.cell h 0, Blk.cell h 1⟩

end Go.Proofs.YtdibfecejgjfmaaGreatDoor
