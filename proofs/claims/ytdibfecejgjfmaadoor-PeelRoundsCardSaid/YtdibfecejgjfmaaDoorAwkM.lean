/- Package core, ninth part: Degeneracy and Core. -/
import Derived.Test.YtdibfecejgjfmaaDoorCorH
import Derived.Test.YtdibfecejgjfmaaDoorRCoD
set_option linter.unusedVariables false
namespace Go.Proofs.YtdibfecejgjfmaaDoor
open Go.RowKit CoBit

/-- The first j nodes whose number is at least K. -/
def atL (ns : List Int) (K : Int) (j : Nat) : List Int := (rng j).filter fun x => decide (K ≤ ns.getD x.toNat 0)
theorem atL_step {ns : List Int} {K y : Int} {j : Nat} (h : ns[j]? = some y) : atL ns K (j + 1) = if K ≤ y then atL ns K j ++ [(j : Int)] else atL ns K j := by
  unfold atL
  rw [rng_succ, List.filter_append]
  have : ns.getD (j : Int).toNat 0 = y := by rw [Int.toNat_natCast, getD_at h]
  by_cases hk : K ≤ y
  · rw [if_pos hk, List.filter_cons, if_pos (by rw [this]; exact decide_eq_true hk)]; rfl
  · rw [if_neg hk, List.filter_cons, if_neg (by rw [this]; exact fun e => hk (of_decide_eq_true e))]; simp
theorem atL_length (ns : List Int) (K : Int) (j : Nat) : (atL ns K j).length ≤ j := Nat.le_trans (List.length_filter_le _ _) (by rw [rng_length]; exact Nat.le_refl _)
theorem atL_core {nb : Int → List Int} {n : Nat} {ns : List Int} {K : Int} (h : IsNums nb n ns) : Vld (atL ns K n) n ∧ ∀ v, v ∈ atL ns K n ↔ inC nb n K v := by
  refine ⟨vld_filter (rng_vld n) _, fun v => ?_⟩
  unfold atL
  rw [List.mem_filter, mem_rng, decide_eq_true_eq]
  constructor
  · rintro ⟨h1, h2⟩
    obtain ⟨i, rfl⟩ := Int.eq_ofNat_of_zero_le h1.1
    rw [Int.toNat_natCast] at h2
    exact inC_mono (h.2 i (by omega)).2.1 h2
  · intro hin
    have h1 := inC_range hin
    refine ⟨h1, ?_⟩
    obtain ⟨i, rfl⟩ := Int.eq_ofNat_of_zero_le h1.1
    rw [Int.toNat_natCast]
    by_cases hk : K ≤ ns.getD i 0
    · exact hk
    · exact absurd (inC_mono hin (by omega)) (h.2 i (by omega)).2.2

end Go.Proofs.YtdibfecejgjfmaaDoor

namespace Go.Proofs.YtdibfecejgjfmaaDoor

def hungE : List (Int × Int) := [(0, 1), (0, 2), (1, 2), (2, 3)]
theorem hung_chk : chkG 4 hungE = 0 := by decide +kernel
theorem hung_nb : nbG 4 hungE 0 = [1, 2] ∧ nbG 4 hungE 1 = [0, 2] ∧ nbG 4 hungE 2 = [0, 1, 3] ∧ nbG 4 hungE 3 = [2] := by decide +kernel
theorem inC_le {nb : Int → List Int} {n k v : Int} (h : inC nb n k v) : k ≤ ((nb v).length : Int) := by
  obtain ⟨S, hv, hS⟩ := h
  have h1 := (hS v hv).2.2
  have h2 : dg nb S v ≤ (nb v).length := List.length_filter_le _ _
  omega
theorem hung_not (v : Int) : ¬ inC (nbG 4 hungE) 4 3 v := by
  obtain ⟨n0, n1, n2, n3⟩ := hung_nb
  have k0 : ¬ inC (nbG 4 hungE) 4 3 0 := fun h => by have := inC_le h; rw [n0] at this; simp at this
  have k1 : ¬ inC (nbG 4 hungE) 4 3 1 := fun h => by have := inC_le h; rw [n1] at this; simp at this
  have k3 : ¬ inC (nbG 4 hungE) 4 3 3 := fun h => by have := inC_le h; rw [n3] at this; simp at this
  have hall : ∀ u, inC (nbG 4 hungE) 4 3 u → u ∈ [(2 : Int)] := by
    intro u hu
    have hr := inC_range hu
    have : u = 0 ∨ u = 1 ∨ u = 2 ∨ u = 3 := by omega
    rcases this with rfl | rfl | rfl | rfl
    · exact absurd hu k0
    · exact absurd hu k1
    · simp
    · exact absurd hu k3
  intro h
  have hv := hall v h
  simp at hv
  subst hv
  have := inC_dg h hall
  have h2 : dg (nbG 4 hungE) [2] 2 = 0 := by decide +kernel
  omega
theorem hung_nums : IsNums (nbG 4 hungE) 4 [2, 2, 2, 1] := by
  refine ⟨rfl, fun v hv => ?_⟩
  have hs : ∀ u ∈ [(0 : Int), 1, 2], 0 ≤ u ∧ u < 4 ∧ 2 ≤ (dg (nbG 4 hungE) [0, 1, 2] u : Int) := by decide +kernel
  have hs3 : ∀ u ∈ [(2 : Int), 3], 0 ≤ u ∧ u < 4 ∧ 1 ≤ (dg (nbG 4 hungE) [2, 3] u : Int) := by decide +kernel
  have : v = 0 ∨ v = 1 ∨ v = 2 ∨ v = 3 := by omega
  rcases this with rfl | rfl | rfl | rfl
  · exact ⟨by decide, ⟨[0, 1, 2], by decide, hs⟩, hung_not _⟩
  · exact ⟨by decide, ⟨[0, 1, 2], by decide, hs⟩, hung_not _⟩
  · exact ⟨by decide, ⟨[0, 1, 2], by decide, hs⟩, hung_not _⟩
  · refine ⟨by decide, ⟨[2, 3], by decide, hs3⟩, fun h => ?_⟩
    have := inC_le h
    have h3 := hung_nb.2.2.2
    rw [show ((3 : Nat) : Int) = 3 from rfl, h3] at this
    simp at this
instance (nb : Int → List Int) (L : List Int) (v w : Int) : Decidable (bef nb L v w) := by unfold bef; infer_instance
instance (nb : Int → List Int) (L : List Int) (v : Int) : Decidable (isBest nb L v) := by unfold isBest; infer_instance
theorem hung_ps : PS (nbG 4 hungE) 4 [3, 0, 1, 2] := by
  intro i v hv
  have hi : i < 4 := (List.getElem?_eq_some_iff.1 hv).1
  have : i = 0 ∨ i = 1 ∨ i = 2 ∨ i = 3 := by omega
  rcases this with rfl | rfl | rfl | rfl
  all_goals
    simp at hv
    subst hv
    decide +kernel
theorem hung_ok : okTo (nbG 4 hungE) [2, 2, 2, 1] [3, 0, 1, 2] 4 := by
  intro i v _ hv
  have hi : i < 4 := (List.getElem?_eq_some_iff.1 hv).1
  have : i = 0 ∨ i = 1 ∨ i = 2 ∨ i = 3 := by omega
  rcases this with rfl | rfl | rfl | rfl
  all_goals
    simp at hv
    subst hv
    refine ⟨fun u h0 hu => ?_, by decide +kernel, by decide +kernel⟩
    simp at hu h0
    try subst hu
    try decide
theorem hung_ord : OrdI [3, 0, 1, 2] 4 := ordI_per.2 ⟨rfl, by decide, by decide⟩
theorem hung_isChk {x : Int} (h : IsChk 4 hungE [2, 2, 2, 1] [3, 0, 1, 2] x) : x = 0 := by
  rcases h.2.2 hung_chk rfl hung_ord with h | h
  · exact h.1
  · exact absurd hung_ok h.2
theorem hung_numsL {l : List Int} (h : NumsL 4 hungE l) : l = [2, 2, 2, 1] := nums_unique (h.1 hung_chk) hung_nums
theorem hung_isOrd {o : List Int} (h : IsOrd 4 hungE o) : o = [3, 0, 1, 2] := ps_unique (h.1 hung_chk).1 hung_ps (h.1 hung_chk).2
end Go.Proofs.YtdibfecejgjfmaaDoor
