/- The reference's sets of nodes (cohesionref02), first part: membership, order, a number put into a set. -/
import Derived.Test.YtkcmbpokoijglaaMem
import Derived.Deep.RegionHeld3
set_option linter.unusedVariables false
namespace Go.Proofs.Ytkcmbpokoijglaa
open Go.RowKit

theorem take_at {xs : List Int} {k : Nat} {y : Int} (h : xs[k]? = some y) : xs.take (k + 1) = xs.take k ++ [y] := by
  obtain ⟨hk, rfl⟩ := List.getElem?_eq_some_iff.1 h
  exact List.take_succ_eq_append_getElem hk
theorem drop_at {xs : List Int} {k : Nat} {y : Int} (h : xs[k]? = some y) : xs.drop k = y :: xs.drop (k + 1) := by
  obtain ⟨hk, rfl⟩ := List.getElem?_eq_some_iff.1 h
  exact List.drop_eq_getElem_cons hk
theorem mem_at {xs : List Int} {k : Nat} {y : Int} (h : xs[k]? = some y) : y ∈ xs := List.mem_of_getElem? h

/-- The numbers are ascending nodes below m. -/
def Vld (xs : List Int) (m : Int) : Prop := (∀ x ∈ xs, 0 ≤ x ∧ x < m) ∧ xs.Pairwise (· < ·)
instance (xs : List Int) (m : Int) : Decidable (Vld xs m) := by unfold Vld; infer_instance
theorem vld_nil (m : Int) : Vld [] m := ⟨by simp, List.Pairwise.nil⟩
theorem vld_take {xs : List Int} {m : Int} (h : Vld xs m) (k : Nat) : Vld (xs.take k) m := ⟨fun x hx => h.1 x (List.mem_of_mem_take hx), h.2.take⟩
theorem vld_first {xs : List Int} {m y : Int} {k : Nat} (hy : xs[k]? = some y) (hk : k = 0) (h0 : 0 ≤ y) (h1 : y < m) : Vld (xs.take (k + 1)) m := by
  subst hk; rw [take_at hy]; simp [Vld, h0, h1]
theorem vld_next {xs : List Int} {m y z : Int} {k : Nat} (h : Vld (xs.take k) m) (hz : xs[k - 1]? = some z) (hy : xs[k]? = some y) (hk : 0 < k) (h0 : 0 ≤ y) (h1 : y < m) (hlt : z < y) : Vld (xs.take (k + 1)) m := by
  obtain ⟨j, rfl⟩ : ∃ j, k = j + 1 := ⟨k - 1, by omega⟩
  rw [Nat.add_sub_cancel] at hz
  rw [take_at hy]
  refine ⟨?_, ?_⟩
  · intro x hx
    rcases List.mem_append.1 hx with hx | hx
    · exact h.1 x hx
    · rw [List.mem_singleton.1 hx]; exact ⟨h0, h1⟩
  · rw [List.pairwise_append]
    refine ⟨h.2, List.pairwise_singleton _ _, ?_⟩
    intro a ha b hb
    rw [List.mem_singleton.1 hb]
    have h2 := h.2
    rw [take_at hz] at ha h2
    rw [List.pairwise_append] at h2
    rcases List.mem_append.1 ha with ha | ha
    · exact Int.lt_trans (h2.2.2 a ha z (by simp)) hlt
    · rw [List.mem_singleton.1 ha]; exact hlt
theorem vld_out {xs : List Int} {m y : Int} {k : Nat} (hy : xs[k]? = some y) (h : ¬ (0 ≤ y ∧ y < m)) : ¬ Vld xs m := fun hv => h (hv.1 y (mem_at hy))
theorem vld_down {xs : List Int} {m y z : Int} {k : Nat} (hz : xs[k - 1]? = some z) (hy : xs[k]? = some y) (hk : 0 < k) (h : y ≤ z) : ¬ Vld xs m := fun hv => by
  obtain ⟨j, rfl⟩ : ∃ j, k = j + 1 := ⟨k - 1, by omega⟩
  rw [Nat.add_sub_cancel] at hz
  have := List.pairwise_iff_getElem.1 hv.2
  obtain ⟨h1, rfl⟩ := List.getElem?_eq_some_iff.1 hz
  obtain ⟨h2, rfl⟩ := List.getElem?_eq_some_iff.1 hy
  have := this j (j + 1) h1 h2 (by omega)
  omega

/-- A number put into a set. -/
def putL : List Int → Int → List Int
  | [], x => [x]
  | y :: ys, x => if y < x then y :: putL ys x else if y = x then y :: ys else x :: y :: ys
theorem put_step {xs : List Int} {x y : Int} {k : Nat} (h : putL xs x = xs.take k ++ putL (xs.drop k) x) (hy : xs[k]? = some y) (hlt : y < x) : putL xs x = xs.take (k + 1) ++ putL (xs.drop (k + 1)) x := by
  rw [h, take_at hy, drop_at hy]
  simp [putL, hlt]
theorem put_same {xs : List Int} {x : Int} {k : Nat} (h : putL xs x = xs.take k ++ putL (xs.drop k) x) (hy : xs[k]? = some x) : putL xs x = xs := by
  rw [h, drop_at hy]
  simp only [putL, Int.lt_irrefl, if_false, if_true]
  rw [← drop_at hy, List.take_append_drop]
theorem put_here {xs : List Int} {x y : Int} {k : Nat} (h : putL xs x = xs.take k ++ putL (xs.drop k) x) (hy : xs[k]? = some y) (h1 : ¬ y < x) (h2 : y ≠ x) : putL xs x = xs.take k ++ [x] ++ xs.drop k := by
  rw [h, drop_at hy]
  simp [putL, h1, h2]
theorem put_end {xs : List Int} {x : Int} {k : Nat} (h : putL xs x = xs.take k ++ putL (xs.drop k) x) (hk : xs.length ≤ k) : putL xs x = xs.take k ++ [x] ++ xs.drop k := by
  rw [h, List.drop_of_length_le hk]
  simp [putL]

end Go.Proofs.Ytkcmbpokoijglaa

namespace Go.Proofs.Ytkcmbpokoijglaa
open Go.RowKit

/-- The set of a list. -/
def ofL (xs : List Int) : List Int := xs.foldl putL []
theorem of_take {xs : List Int} {k : Nat} {y : Int} (h : xs[k]? = some y) : ofL (xs.take (k + 1)) = putL (ofL (xs.take k)) y := by
  unfold ofL; rw [take_at h, List.foldl_append]; rfl
theorem put_length (xs : List Int) (x : Int) : (putL xs x).length ≤ xs.length + 1 := by
  induction xs with
  | nil => simp [putL]
  | cons y ys ih => unfold putL; split <;> (try split) <;> simp <;> omega
theorem foldl_put_length (xs acc : List Int) : (xs.foldl putL acc).length ≤ acc.length + xs.length := by
  induction xs generalizing acc with
  | nil => simp
  | cons x xs ih => have := ih (putL acc x); have := put_length acc x; simp; omega
theorem of_length (xs : List Int) : (ofL xs).length ≤ xs.length := by have := foldl_put_length xs []; simpa [ofL] using this
theorem of_take_length (xs : List Int) (k : Nat) : (ofL (xs.take k)).length ≤ k := Nat.le_trans (of_length _) (by rw [List.length_take]; omega)

theorem meet_take {xs ys : List Int} {k : Nat} {y : Int} (h : xs[k]? = some y) (hd : y ∈ ys) : (xs.take (k + 1)).filter (fun x => x ∈ ys) = (xs.take k).filter (fun x => x ∈ ys) ++ [y] := by
  rw [take_at h, List.filter_append]; simp [hd]
theorem meet_skip {xs ys : List Int} {k : Nat} {y : Int} (h : xs[k]? = some y) (hd : ¬ (y ∈ ys)) : (xs.take (k + 1)).filter (fun x => x ∈ ys) = (xs.take k).filter (fun x => x ∈ ys) := by
  rw [take_at h, List.filter_append]; simp [hd]
/-- What two sets have in common. -/
def meetL (xs ys : List Int) : List Int := (ofL xs).filter (fun x => x ∈ ys)
theorem minus_take {xs ys : List Int} {k : Nat} {y : Int} (h : xs[k]? = some y) (hd : y ∉ ys) : (xs.take (k + 1)).filter (fun x => x ∉ ys) = (xs.take k).filter (fun x => x ∉ ys) ++ [y] := by
  rw [take_at h, List.filter_append]; simp [hd]
theorem minus_skip {xs ys : List Int} {k : Nat} {y : Int} (h : xs[k]? = some y) (hd : ¬ (y ∉ ys)) : (xs.take (k + 1)).filter (fun x => x ∉ ys) = (xs.take k).filter (fun x => x ∉ ys) := by
  rw [take_at h, List.filter_append]; simp [hd]
/-- A set without another one. -/
def minusL (xs ys : List Int) : List Int := (ofL xs).filter (fun x => x ∉ ys)
theorem in_step {xs ys : List Int} {k : Nat} {y : Int} (h : xs[k]? = some y) (ha : ∀ x ∈ xs.take k, x ∈ ys) (hy : y ∈ ys) : ∀ x ∈ xs.take (k + 1), x ∈ ys := by
  rw [take_at h]; intro x hx
  rcases List.mem_append.1 hx with hx | hx
  · exact ha x hx
  · rw [List.mem_singleton.1 hx]; exact hy
/-- Lists in order. -/
def cmpL : List Int → List Int → Int
  | [], [] => 0
  | [], _ :: _ => -1
  | _ :: _, [] => 1
  | x :: xs, y :: ys => if y < x then 1 else if x < y then -1 else cmpL xs ys
theorem cmp_zero (xs ys : List Int) : cmpL xs ys = 0 ↔ xs = ys := by
  induction xs generalizing ys with
  | nil => cases ys <;> simp [cmpL]
  | cons x xs ih =>
    cases ys with
    | nil => simp [cmpL]
    | cons y ys =>
      unfold cmpL
      split
      · simp; intro; omega
      · split
        · simp; intro; omega
        · rw [ih, List.cons.injEq]
          constructor
          · intro h; exact ⟨by omega, h⟩
          · intro h; exact h.2
theorem cmp_step {xs ys : List Int} {k : Nat} {x y : Int} (hx : xs[k]? = some x) (hy : ys[k]? = some y) : cmpL (xs.drop k) (ys.drop k) = if y < x then 1 else if x < y then -1 else cmpL (xs.drop (k + 1)) (ys.drop (k + 1)) := by
  rw [drop_at hx, drop_at hy]; rfl
theorem cmp_long {xs ys : List Int} {k : Nat} {x : Int} (hx : xs[k]? = some x) (hy : ys.length ≤ k) : cmpL (xs.drop k) (ys.drop k) = 1 := by
  rw [drop_at hx, List.drop_of_length_le hy]; rfl
theorem cmp_short {xs ys : List Int} {k : Nat} (hx : xs.length ≤ k) : cmpL (xs.drop k) (ys.drop k) = if k < ys.length then -1 else 0 := by
  rw [List.drop_of_length_le hx]
  split
  · rename_i h; rw [List.drop_eq_getElem_cons h]; rfl
  · rename_i h; rw [List.drop_of_length_le (by omega)]; rfl
end Go.Proofs.Ytkcmbpokoijglaa
