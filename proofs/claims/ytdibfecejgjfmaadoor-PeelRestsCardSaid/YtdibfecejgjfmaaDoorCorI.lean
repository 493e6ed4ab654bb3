/- Package core, ninth part: Degeneracy and Core. -/
import Derived.Test.YtdibfecejgjfmaaDoorCorH
import Derived.Test.YtdibfecejgjfmaaDoorRCoD
set_option linter.unusedVariables false
namespace Go.Proofs.YtdibfecejgjfmaaDoor
open Go.RowKit CoBit

/-- The first j nodes whose number is at least K. -/
def atL (ns : List Int) (K : Int) (j : Nat) : List Int := (rng j).filter fun x => decide (K ≤ ns.getD x.toNat 0)
theorem atL_step {ns : List Int} {K y : Int} {j : Nat} (h : ns[j]? = some y) : atL ns K (j + 1) = if K ≤ y then atL ns K j ++ [(j : Int)] else atL ns K j := by
  unfold atL
  rw [rng_succ, List.filter_append]
  have : ns.getD (j : Int).toNat 0 = y := by rw [Int.toNat_natCast, getD_at h]
  by_cases hk : K ≤ y
  · rw [if_pos hk, List.filter_cons, if_pos (by rw [this]; exact decide_eq_true hk)]; rfl
  · rw [if_neg hk, List.filter_cons, if_neg (by rw [this]; exact fun e => hk (of_decide_eq_true e))]; simp
theorem atL_length (ns : List Int) (K : Int) (j : Nat) : (atL ns K j).length ≤ j := Nat.le_trans (List.length_filter_le _ _) (by rw [rng_length]; exact Nat.le_refl _)
theorem atL_core {nb : Int → List Int} {n : Nat} {ns : List Int} {K : Int} (h : IsNums nb n ns) : Vld (atL ns K n) n ∧ ∀ v, v ∈ atL ns K n ↔ inC nb n K v := by
  refine ⟨vld_filter (rng_vld n) _, fun v => ?_⟩
  unfold atL
  rw [List.mem_filter, mem_rng, decide_eq_true_eq]
  constructor
  · rintro ⟨h1, h2⟩
    obtain ⟨i, rfl⟩ := Int.eq_ofNat_of_zero_le h1.1
    rw [Int.toNat_natCast] at h2
    exact inC_mono (h.2 i (by omega)).2.1 h2
  · intro hin
    have h1 := inC_range hin
    refine ⟨h1, ?_⟩
    obtain ⟨i, rfl⟩ := Int.eq_ofNat_of_zero_le h1.1
    rw [Int.toNat_natCast]
    by_cases hk : K ≤ ns.getD i 0
    · exact hk
    · exact absurd (inC_mono hin (by omega)) (h.2 i (by omega)).2.2

end Go.Proofs.YtdibfecejgjfmaaDoor
