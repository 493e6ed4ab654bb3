/- Plain laws of k-plexes: Next goes through All; all of them are maximal. -/
import Derived.Test.YtfefginhlliccaaDoorPlxI
import Derived.Test.YtfefginhlliccaaDoorPlxK
set_option linter.unusedVariables false
set_option linter.unusedSimpArgs false
namespace Go.Proofs.YtfefginhlliccaaDoor.Pl
open Go.RowKit CoBit CoCli Go.Proofs.YtfefginhlliccaaDoor

theorem cmp_swap : ∀ (a b : List Int), cmpL a b = -1 → cmpL b a = 1 := by
  intro a
  induction a with
  | nil =>
    intro b h
    cases b with
    | nil => simp [cmpL] at h
    | cons y b => rfl
  | cons x a ih =>
    intro b h
    cases b with
    | nil => simp [cmpL] at h
    | cons y b =>
      unfold cmpL at h ⊢
      by_cases h1 : y < x
      · rw [if_pos h1] at h; omega
      · rw [if_neg h1] at h
        by_cases h2 : x < y
        · rw [if_pos h2]
        · rw [if_neg h2] at h
          rw [if_neg h2, if_neg h1]
          exact ih b h
theorem cmp_self (a : List Int) : cmpL a a = 0 := (cmp_zero a a).2 rfl
theorem gt_nil {S : List Nat} (h : S ≠ []) : gt [] S = true := by
  cases S with
  | nil => exact absurd rfl h
  | cons x S => rfl
theorem plexs_gt (n : Nat) (es : List (Int × Int)) (k least : Nat) (after : List Int) : plexs n es k least after = (plexs n es k least []).filter (gt after) := by
  unfold plexs
  rw [List.filter_filter]
  refine List.filter_congr fun S _ => ?_
  by_cases hw : want (ad (rowsL n es)) n k least S = true
  · rw [hw, gt_nil (want_ne hw)]; simp
  · rw [Bool.not_eq_true] at hw; rw [hw]; simp
theorem plexs_sorted (n : Nat) (es : List (Int × Int)) (k least : Nat) (after : List Int) : (plexs n es k least after).Pairwise fun S T => cmpL (nt S) (nt T) = -1 := (lx_sorted List.pairwise_lt_range).filter _
theorem gt_drop {L : List (List Nat)} (h : L.Pairwise fun S T => cmpL (nt S) (nt T) = -1) {i : Nat} {S : List Nat} (hi : L[i]? = some S) : L.filter (gt (nt S)) = L.drop (i + 1) := by
  obtain ⟨hlt, hS⟩ := List.getElem?_eq_some_iff.1 hi
  have hp := List.pairwise_iff_getElem.1 h
  conv => lhs; rw [← List.take_append_drop (i + 1) L]
  rw [List.filter_append, filter_none (l := L.take (i + 1)), List.nil_append, List.filter_eq_self.2]
  · intro T hT
    obtain ⟨j, hj⟩ := List.mem_iff_getElem?.1 hT
    rw [List.getElem?_drop] at hj
    obtain ⟨hlt2, hT2⟩ := List.getElem?_eq_some_iff.1 hj
    have := hp i (i + 1 + j) hlt hlt2 (by omega)
    rw [hS, hT2] at this
    unfold gt
    rw [cmp_swap _ _ this]; rfl
  · intro T hT
    obtain ⟨j, hj⟩ := List.mem_iff_getElem?.1 hT
    rw [List.getElem?_take] at hj
    split at hj
    · rename_i hji
      obtain ⟨hlt2, hT2⟩ := List.getElem?_eq_some_iff.1 hj
      unfold gt
      by_cases he : j = i
      · subst he
        have : T = S := by rw [← hS, ← hT2]
        rw [this, cmp_self]; rfl
      · have := hp j i hlt2 hlt (by omega)
        rw [hS, hT2] at this
        rw [this]; rfl
    · cases hj
/-- The list behind which the call with number i looks. -/
def aft (L : List (List Nat)) : Nat → List Int
  | 0 => []
  | i + 1 => nt (L.getD i [])
theorem next_at (n : Nat) (es : List (Int × Int)) (k least i : Nat) (hi : i ≤ (plexs n es k least []).length) : (plexs n es k least (aft (plexs n es k least []) i)).head? = (plexs n es k least [])[i]? := by
  cases i with
  | zero => rw [List.head?_eq_getElem?]; rfl
  | succ i =>
    have h := List.getElem?_eq_getElem (show i < (plexs n es k least []).length by omega)
    have : aft (plexs n es k least []) (i + 1) = nt (plexs n es k least [])[i] := by
      show nt ((plexs n es k least []).getD i []) = _
      rw [List.getD_eq_getElem?_getD, h]; rfl
    rw [this, plexs_gt, gt_drop (plexs_sorted _ _ _ _ _) h, List.head?_eq_getElem?, List.getElem?_drop]
theorem toNat_nt (S : List Nat) : (nt S).map Int.toNat = S := by
  unfold nt
  rw [List.map_map]
  exact List.map_id S
theorem maxB_of {n : Nat} {es : List (Int × Int)} {q : Nat} (hc : chkG n es = 0) (hq : 1 ≤ q) (hq3 : q ≤ 3) {S : List Nat} (h : S.Pairwise (· < ·)) (hn : ∀ x ∈ S, x < n) : maxB n es (nt S) q = decide (mxl (ad (rowsL n es)) n q S) := by
  unfold maxB isB
  rw [toNat_nt, decide_eq_true (⟨hc, by omega, by omega, vld_nt h hn⟩ : chkG n es = 0 ∧ 1 ≤ (q : Int) ∧ (q : Int) ≤ 3 ∧ Vld (nt S) n), Int.toNat_natCast, Int.toNat_natCast, Bool.true_and]
  rw [Bool.eq_iff_iff, Bool.and_eq_true, Bool.and_eq_true, decide_eq_true_iff, decide_eq_true_iff, decide_eq_true_iff, clo_iff]
  unfold mxl
  have : nt S ≠ [] ↔ S ≠ [] := by cases S <;> simp [nt]
  rw [this]
theorem coreL_unique {n : Int} {es : List (Int × Int)} {k : Int} {a b : List Int} (ha : CoreL n es k a) (hb : CoreL n es k b) : a = b := by
  by_cases h : chkG n es = 0
  · obtain ⟨a1, a2⟩ := ha.1 h
    obtain ⟨b1, b2⟩ := hb.1 h
    exact sorted_ext a1.2 b1.2 fun x => by rw [a2, b2]
  · rw [ha.2 h, hb.2 h]
end Go.Proofs.YtfefginhlliccaaDoor.Pl
