/- Plain laws: the sets of neighbours as bits are the lists of neighbours. -/
import Derived.Test.YtdibfecejgjfmaaGreatDoorArr
import Derived.Test.YtdibfecejgjfmaaGreatDoorRCoB
set_option linter.unusedVariables false
namespace Go.Proofs.YtdibfecejgjfmaaGreatDoor
open CoBit

/-- Bit u of row v after an edge has been put in. -/
theorem putE_bit {N : Nat} {rows : List Nat} {a b : Nat} (hab : a < b) (hb : b < N) (hr : rows.length = N) (v u : Nat) :
    ((putE N rows ((a : Int), (b : Int))).getD v 0).testBit u = ((rows.getD v 0).testBit u || (decide (v = a) && decide (u = b)) || (decide (v = b) && decide (u = a))) := by
  rw [putE_ok hab hb]
  have get : ∀ (rows : List Nat) (i x v : Nat), i < rows.length → (rows.set i x).getD v 0 = if v = i then x else rows.getD v 0 := by
    intro rows i x v hi
    rw [List.getD_eq_getElem?_getD, List.getD_eq_getElem?_getD]
    by_cases h : v = i
    · subst h
      rw [if_pos rfl, List.getElem?_set_self hi]; rfl
    · rw [if_neg h, List.getElem?_set_ne (by omega)]
  rw [get _ b _ v (by rw [List.length_set]; omega), get rows a _ b (by omega), if_neg (show ¬ b = a by omega), get rows a _ v (by omega)]
  by_cases h1 : v = b
  · subst h1
    rw [if_pos rfl, Nat.testBit_or, Nat.testBit_two_pow]
    have : ¬ v = a := by omega
    simp [this, eq_comm]
  · rw [if_neg h1]
    by_cases h2 : v = a
    · subst h2
      rw [if_pos rfl, Nat.testBit_or, Nat.testBit_two_pow]
      simp [h1, eq_comm]
    · rw [if_neg h2]
      simp [h1, h2]
theorem rows_bit {N : Nat} {es : List (Int × Int)} (he : ∀ e ∈ es, 0 ≤ e.1 ∧ e.1 < e.2 ∧ e.2 < (N : Int)) (v u : Nat) :
    (((rowsL N es).getD v 0).testBit u = true) ↔ (((v : Int), (u : Int)) ∈ es ∨ ((u : Int), (v : Int)) ∈ es) := by
  have h : ∀ (es : List (Int × Int)) (rows : List Nat), rows.length = N → (∀ e ∈ es, 0 ≤ e.1 ∧ e.1 < e.2 ∧ e.2 < (N : Int)) →
      ((((es.foldl (putE N) rows).getD v 0).testBit u = true) ↔ (rows.getD v 0).testBit u = true ∨ ((v : Int), (u : Int)) ∈ es ∨ ((u : Int), (v : Int)) ∈ es) := by
    intro es
    induction es with
    | nil => intro rows _ _; simp
    | cons e es ih =>
      intro rows hr hes
      obtain ⟨a, b⟩ := e
      obtain ⟨h0, h1, h2⟩ := hes (a, b) (by simp)
      simp only at h0 h1 h2
      obtain ⟨a, rfl⟩ := Int.eq_ofNat_of_zero_le h0
      obtain ⟨b, rfl⟩ := Int.eq_ofNat_of_zero_le (show 0 ≤ b by omega)
      rw [List.foldl_cons, ih _ (by rw [putE_length]; exact hr) (fun x hx => hes x (by simp [hx])), putE_bit (by omega) (by omega) hr]
      simp only [Bool.or_eq_true, Bool.and_eq_true, decide_eq_true_eq, List.mem_cons, Prod.mk.injEq]
      constructor
      · rintro (((h | ⟨rfl, rfl⟩) | ⟨rfl, rfl⟩) | h | h)
        · exact .inl h
        · exact .inr (.inl (.inl ⟨rfl, rfl⟩))
        · exact .inr (.inr (.inl ⟨rfl, rfl⟩))
        · exact .inr (.inl (.inr h))
        · exact .inr (.inr (.inr h))
      · rintro (h | (⟨h3, h4⟩ | h) | (⟨h3, h4⟩ | h))
        · exact .inl (.inl (.inl h))
        · exact .inl (.inl (.inr ⟨by omega, by omega⟩))
        · exact .inr (.inl h)
        · exact .inl (.inr ⟨by omega, by omega⟩)
        · exact .inr (.inr h)
  unfold rowsL
  rw [h es _ (by simp) he]
  have : (List.replicate N 0).getD v 0 = 0 := by
    rw [List.getD_eq_getElem?_getD, List.getElem?_replicate]; split <;> rfl
  rw [this]
  simp
theorem mem_nbl {es : List (Int × Int)} {v x : Int} : x ∈ nbl es v ↔ (v, x) ∈ es ∨ (x, v) ∈ es := by
  unfold nbl
  rw [List.mem_flatMap]
  constructor
  · rintro ⟨⟨a, b⟩, he, hx⟩
    simp only [List.mem_append] at hx
    rcases hx with hx | hx
    · split at hx
      · rename_i h; simp at hx h; subst h; subst hx; exact .inl he
      · cases hx
    · split at hx
      · rename_i h; simp at hx h; subst h; subst hx; exact .inr he
      · cases hx
  · rintro (h | h)
    · exact ⟨_, h, by simp⟩
    · exact ⟨_, h, by simp⟩
theorem mem_nts {l : List Nat} {x : Int} : x ∈ nts l ↔ ∃ i, i ∈ l ∧ (i : Int) = x := by unfold nts; rw [List.mem_map]
theorem mem_nts' {l : List Nat} {i : Nat} : (i : Int) ∈ nts l ↔ i ∈ l := by
  rw [mem_nts]
  constructor
  · rintro ⟨j, hj, h⟩; rwa [show i = j by omega]
  · exact fun h => ⟨i, h, rfl⟩
theorem nts_sorted {l : List Nat} (h : l.Pairwise (· < ·)) : (nts l).Pairwise (· < ·) := by
  unfold nts
  rw [List.pairwise_map]
  exact h.imp fun h => by omega
theorem row_nb {n : Nat} {es : List (Int × Int)} (hc : chkG n es = 0) (hn : n ≤ 64) (v : Nat) : nts (bl ((rowsL n es).getD v 0)) = nbG n es v := by
  have he := chkE_lt (chkG_zero hc).2.2
  refine sorted_ext (nts_sorted (bl_sorted _)) (nbG_sorted _ _ _) fun x => ?_
  have h1 : x ∈ nbG n es v ↔ x ∈ nbl es v := by unfold nbG; rw [if_pos hc, mem_of]
  rw [h1, mem_nbl, mem_nts]
  constructor
  · rintro ⟨i, hi, rfl⟩
    exact (rows_bit he v i).1 (mem_bl.1 hi).2
  · intro h
    have hx : 0 ≤ x ∧ x < n := by
      rcases h with h | h
      · have := he _ h; simp at this; omega
      · have := he _ h; simp at this; omega
    obtain ⟨i, rfl⟩ := Int.eq_ofNat_of_zero_le hx.1
    exact ⟨i, mem_bl.2 ⟨by omega, (rows_bit he v i).2 h⟩, rfl⟩
theorem bl_and (x y : Nat) : bl (x &&& y) = (bl x).filter fun i => y.testBit i := by
  unfold bl bitsIn
  rw [List.filter_filter]
  refine List.filter_congr fun i _ => ?_
  rw [Nat.testBit_and, Bool.and_comm]
/-- How many neighbours lie in a set. -/
theorem pop_dg {n : Nat} {es : List (Int × Int)} (hc : chkG n es = 0) (hn : n ≤ 64) (v y : Nat) (l : List Int) (hl : ∀ i, i < n → (y.testBit i = true ↔ (i : Int) ∈ l)) : pop ((rowsL n es).getD v 0 &&& y) = dg (nbG n es) l v := by
  have he := chkE_lt (chkG_zero hc).2.2
  rw [pop_bl, bl_and, dg, ← row_nb hc hn v, nts, List.filter_map, List.length_map]
  congr 1
  refine List.filter_congr fun i hi => ?_
  have hb := (rows_bit he v i).1 (mem_bl.1 hi).2
  have hin : i < n := by
    rcases hb with h | h
    · have := he _ h; simp at this; omega
    · have := he _ h; simp at this; omega
  rw [Bool.eq_iff_iff, hl i hin]
  simp
end Go.Proofs.YtdibfecejgjfmaaGreatDoor
