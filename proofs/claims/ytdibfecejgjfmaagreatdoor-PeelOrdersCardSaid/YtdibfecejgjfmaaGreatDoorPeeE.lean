/- Plain: the best rest along an order. -/
import Derived.Test.YtdibfecejgjfmaaGreatDoorPeeD
set_option linter.unusedVariables false
set_option linter.unusedSimpArgs false
namespace Go.Proofs.YtdibfecejgjfmaaGreatDoor
open Go.RowKit CoBit CoRat Rt

theorem cross_le {a b c d e f : Nat} (hd : 0 < d) (h1 : a * d ≤ c * b) (h2 : c * f ≤ e * d) : a * f ≤ e * b := by
  refine Nat.le_of_mul_le_mul_left ?_ hd
  have e1 : d * (a * f) = (a * d) * f := by grind
  have e2 : d * (e * b) = (e * d) * b := by grind
  rw [e1, e2]
  refine Nat.le_trans (Nat.mul_le_mul_right f h1) (Nat.le_trans ?_ (Nat.mul_le_mul_right b h2))
  have : c * b * f = c * f * b := by grind
  omega
theorem cross_lt {a b c d e f : Nat} (hb : 0 < b) (h1 : a * d ≤ c * b) (h2 : c * f < e * d) : a * f < e * b := by
  refine Nat.lt_of_mul_lt_mul_left (a := d) ?_
  have e1 : d * (a * f) = (a * d) * f := by grind
  have e2 : d * (e * b) = (e * d) * b := by grind
  rw [e1, e2]
  refine Nat.lt_of_le_of_lt (Nat.mul_le_mul_right f h1) ?_
  have e3 : c * b * f = c * f * b := by grind
  rw [e3]
  exact Nat.mul_lt_mul_of_pos_right h2 hb
section
variable {n : Nat} {es : List (Int × Int)} {o : List Int}
/-- Edges and nodes of the rest before step k. -/
def iK (n : Nat) (es : List (Int × Int)) (o : List Int) (k : Nat) : Nat := insE es (bset (lfK n o k))
def sK (n : Nat) (o : List Int) (k : Nat) : Nat := pop (lfK n o k)
theorem bset_rest (hn : n ≤ 64) (ho : Per o n) (k : Nat) : bset (lfK n o k) = ofL (o.drop k) := by
  refine sorted_ext (bset_sorted _) (of_sorted _) fun x => ?_
  rw [mem_of]
  have hnd : (o.take k ++ o.drop k).Nodup := by rw [List.take_append_drop]; exact ho.2.1
  have hdis := (List.nodup_append.1 hnd).2.2
  constructor
  · intro h
    obtain ⟨i, hi, rfl⟩ := mem_nts.1 h
    have h1 := (lfK_bit hn ho.2.2 k i).1 (mem_bl.1 hi).2
    have h2 := per_all ho h1.1
    rw [← List.take_append_drop k o, List.mem_append] at h2
    rcases h2 with h2 | h2
    · exact absurd h2 h1.2
    · exact h2
  · intro h
    have hx := ho.2.2 x (List.mem_of_mem_drop h)
    obtain ⟨i, rfl⟩ := Int.eq_ofNat_of_zero_le hx.1
    refine mem_bset.2 ⟨by omega, (lfK_bit hn ho.2.2 k i).2 ⟨by omega, fun h' => ?_⟩⟩
    exact hdis _ h' _ h rfl
theorem sK_eq (hn : n ≤ 64) (ho : Per o n) (k : Nat) : sK n o k = n - k := by
  have h1 : (bset (lfK n o k)).length = (o.drop k).length := by
    rw [bset_rest hn ho]
    have hnd : (o.drop k).Nodup := (List.drop_sublist k o).nodup ho.2.1
    exact ((List.perm_ext_iff_of_nodup (sorted_nodup (of_sorted _)) hnd).2 fun x => by rw [mem_of]).length_eq
  unfold sK
  rw [pop_bl, ← nts_length]
  unfold bset at h1
  rw [h1, List.length_drop, ho.1]
/-- The record before step k is the first best rest so far. -/
theorem rec_best (hn : n ≤ 64) (ho : Per o n) (hes : es.length ≤ 68719476736) (k : Nat) (hk : k < n) : ∃ b, b ≤ k ∧ recK n es o (k + 1) = (lfK n o b, dnN es (lfK n o b), dnD es (lfK n o b)) ∧
    (∀ j, j ≤ k → iK n es o j * sK n o b ≤ iK n es o b * sK n o j) ∧ ∀ j, j < b → iK n es o j * sK n o b < iK n es o b * sK n o j := by
  have hI : ∀ j, iK n es o j ≤ 1152921504606846976 := fun j => Nat.le_trans (insE_le _ _) (by omega)
  have hS : ∀ j, sK n o j ≤ 1152921504606846976 := fun j => by rw [sK_eq hn ho]; omega
  have hs0 : ∀ j, j < n → 0 < sK n o j := fun j hj => by rw [sK_eq hn ho]; omega
  induction k with
  | zero =>
    refine ⟨0, Nat.le_refl _, ?_, fun j hj => ?_, fun j hj => by omega⟩
    · show offV es (lfK n o 0) (0, 0, 0) = _
      unfold offV
      exact if_pos rfl
    · obtain rfl : j = 0 := by omega
      exact Nat.le_refl _
  | succ k ih =>
    obtain ⟨b, hb, hr, h1, h2⟩ := ih (by omega)
    have hst : recK n es o (k + 1 + 1) = offV es (lfK n o (k + 1)) (recK n es o (k + 1)) := rfl
    have hok := mk_ok (iK n es o b) (sK n o b) (hs0 b (by omega)) (hI b) (hS b)
    have hd : dnD es (lfK n o b) ≠ 0 := by
      have := okF_bd hok
      intro h
      have h3 : dnD es (lfK n o b) = mkD (iK n es o b : Nat) (sK n o b : Nat) := rfl
      rw [h3] at h
      omega
    have hc : cmpF (dnN es (lfK n o (k + 1))) (dnD es (lfK n o (k + 1))) (dnN es (lfK n o b)) (dnD es (lfK n o b)) = ((iK n es o (k + 1) : Int) * (sK n o b : Nat) - (iK n es o b : Int) * (sK n o (k + 1) : Nat)).sign :=
      cmp_mk _ _ _ _ (hs0 _ hk) (hs0 b (by omega)) (hI _) (hS _) (hI _) (hS _)
    have hof : offV es (lfK n o (k + 1)) (lfK n o b, dnN es (lfK n o b), dnD es (lfK n o b)) = if iK n es o b * sK n o (k + 1) < iK n es o (k + 1) * sK n o b then (lfK n o (k + 1), dnN es (lfK n o (k + 1)), dnD es (lfK n o (k + 1))) else (lfK n o b, dnN es (lfK n o b), dnD es (lfK n o b)) := by
      unfold offV
      simp only
      rw [if_neg hd, hc]
      obtain ⟨c1, c2, c3⟩ := cmp_pos (iK n es o (k + 1)) (iK n es o b) (sK n o b) (sK n o (k + 1))
      rcases Nat.lt_trichotomy (iK n es o (k + 1) * sK n o b) (iK n es o b * sK n o (k + 1)) with h | h | h
      · rw [c2 h, if_neg (by omega), if_neg (by omega)]
      · rw [c1 h, if_neg (by omega), if_neg (by omega)]
      · rw [c3 h, if_pos (by omega), if_pos (by omega)]
    rw [hst, hr, hof]
    by_cases hlt : iK n es o b * sK n o (k + 1) < iK n es o (k + 1) * sK n o b
    · rw [if_pos hlt]
      refine ⟨k + 1, Nat.le_refl _, rfl, fun j hj => ?_, fun j hj => ?_⟩
      · rcases Nat.lt_or_ge j (k + 1) with h | h
        · exact Nat.le_of_lt (cross_lt (hs0 j (by omega)) (h1 j (by omega)) hlt)
        · obtain rfl : j = k + 1 := by omega
          exact Nat.le_refl _
      · exact cross_lt (hs0 j (by omega)) (h1 j (by omega)) hlt
    · rw [if_neg hlt]
      refine ⟨b, by omega, rfl, fun j hj => ?_, h2⟩
      rcases Nat.lt_or_ge j (k + 1) with h | h
      · exact h1 j (by omega)
      · obtain rfl : j = k + 1 := by omega
        omega
end
end Go.Proofs.YtdibfecejgjfmaaGreatDoor
