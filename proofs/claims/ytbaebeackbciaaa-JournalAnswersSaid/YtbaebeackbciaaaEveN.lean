/- Plain: the events of bytes, ten by ten. -/
import Derived.Test.YtbaebeackbciaaaEveM
set_option linter.unusedVariables false
namespace CoEv

theorem split10 {l : List Nat} (h : 10 ≤ l.length) : ∃ b0 b1 b2 b3 b4 b5 b6 b7 b8 b9 r, l = b0 :: b1 :: b2 :: b3 :: b4 :: b5 :: b6 :: b7 :: b8 :: b9 :: r := by
  match l, h with
  | b0 :: b1 :: b2 :: b3 :: b4 :: b5 :: b6 :: b7 :: b8 :: b9 :: r, _ => exact ⟨b0, b1, b2, b3, b4, b5, b6, b7, b8, b9, r, rfl⟩
theorem raws_short {a : List Nat} (h : ¬ 10 ≤ a.length) (h0 : a ≠ []) : raws a = none := by
  match a, h, h0 with
  | [], _, h0 => exact absurd rfl h0
  | [_], _, _ => rfl
  | [_, _], _, _ => rfl
  | [_, _, _], _, _ => rfl
  | [_, _, _, _], _, _ => rfl
  | [_, _, _, _, _], _, _ => rfl
  | [_, _, _, _, _, _], _, _ => rfl
  | [_, _, _, _, _, _, _], _, _ => rfl
  | [_, _, _, _, _, _, _, _], _, _ => rfl
  | [_, _, _, _, _, _, _, _, _], _, _ => rfl
  | _ :: _ :: _ :: _ :: _ :: _ :: _ :: _ :: _ :: _ :: r, h, _ => exact absurd (by simp) h
theorem raws_ways (a : List Nat) : a = [] ∨ raws a = none ∨ ∃ b0 b1 b2 b3 b4 b5 b6 b7 b8 b9 r, a = b0 :: b1 :: b2 :: b3 :: b4 :: b5 :: b6 :: b7 :: b8 :: b9 :: r ∧ formB b0 b9 = true ∧ ∀ l, raws a = some l → ∃ l1, raws r = some l1 ∧ l = evOf b0 b1 b2 b3 b4 b5 b6 b7 b8 b9 :: l1 := by
  by_cases h10 : 10 ≤ a.length
  · obtain ⟨b0, b1, b2, b3, b4, b5, b6, b7, b8, b9, r, rfl⟩ := split10 h10
    cases hf : formB b0 b9
    · right; left
      rw [raws, if_neg (by rw [hf]; decide)]
    · right; right
      refine ⟨b0, b1, b2, b3, b4, b5, b6, b7, b8, b9, r, rfl, hf, fun l h => ?_⟩
      rw [raws, if_pos hf] at h
      cases hr : raws r with
      | none => rw [hr] at h; cases h
      | some l1 =>
        rw [hr] at h
        injection h with h
        exact ⟨l1, rfl, h.symm⟩
  · by_cases h0 : a = []
    · exact .inl h0
    · exact .inr (.inl (raws_short h10 h0))
theorem raws_app : ∀ (n : Nat) (a : List Nat), a.length ≤ n → ∀ l, raws a = some l → ∀ b, raws (a ++ b) = match raws b with | some l' => some (l ++ l') | none => none := by
  intro n
  induction n with
  | zero =>
    intro a hn l h b
    obtain rfl : a = [] := List.eq_nil_of_length_eq_zero (by omega)
    obtain rfl : l = [] := by simp [raws] at h; exact h
    rw [List.nil_append]; cases raws b <;> rfl
  | succ n ih =>
    intro a hn l h b
    rcases raws_ways a with rfl | hn' | ⟨b0, b1, b2, b3, b4, b5, b6, b7, b8, b9, r, rfl, hf, hl⟩
    · obtain rfl : l = [] := by simp [raws] at h; exact h
      rw [List.nil_append]; cases raws b <;> rfl
    · rw [hn'] at h; cases h
    · obtain ⟨l1, h1, rfl⟩ := hl l h
      simp only [List.length_cons] at hn
      show raws (b0 :: b1 :: b2 :: b3 :: b4 :: b5 :: b6 :: b7 :: b8 :: b9 :: (r ++ b)) = _
      rw [raws, if_pos hf, ih r (by omega) l1 h1 b]
      cases raws b <;> rfl
theorem raws_len' : ∀ (n : Nat) (a : List Nat), a.length ≤ n → ∀ l, raws a = some l → a.length = 10 * l.length := by
  intro n
  induction n with
  | zero =>
    intro a hn l h
    obtain rfl : a = [] := List.eq_nil_of_length_eq_zero (by omega)
    obtain rfl : l = [] := by simp [raws] at h; exact h
    rfl
  | succ n ih =>
    intro a hn l h
    rcases raws_ways a with rfl | hn' | ⟨b0, b1, b2, b3, b4, b5, b6, b7, b8, b9, r, rfl, hf, hl⟩
    · obtain rfl : l = [] := by simp [raws] at h; exact h
      rfl
    · rw [hn'] at h; cases h
    · obtain ⟨l1, h1, rfl⟩ := hl l h
      simp only [List.length_cons] at hn ⊢
      have := ih r (by omega) l1 h1
      omega
theorem raws_len (a : List Nat) (l : List Ev) (h : raws a = some l) : a.length = 10 * l.length := raws_len' _ a (Nat.le_refl _) l h
/-- One round of a decoder: ten bytes more. -/
theorem raws_next {bs : List Nat} {k : Nat} {l : List Ev} {b0 b1 b2 b3 b4 b5 b6 b7 b8 b9 : Nat} {r : List Nat} (h : raws (bs.take (10 * k)) = some l) (hd : bs.drop (10 * k) = b0 :: b1 :: b2 :: b3 :: b4 :: b5 :: b6 :: b7 :: b8 :: b9 :: r) :
    (formB b0 b9 = true → raws (bs.take (10 * (k + 1))) = some (l ++ [evOf b0 b1 b2 b3 b4 b5 b6 b7 b8 b9])) ∧ (formB b0 b9 = false → raws bs = none) := by
  refine ⟨fun hf => ?_, fun hf => ?_⟩
  · have e : bs.take (10 * (k + 1)) = bs.take (10 * k) ++ [b0, b1, b2, b3, b4, b5, b6, b7, b8, b9] := by
      rw [Nat.mul_succ, List.take_add, hd]; rfl
    rw [e, raws_app _ _ (Nat.le_refl _) l h, raws, if_pos hf, raws]
  · rw [← List.take_append_drop (10 * k) bs, hd, raws_app _ _ (Nat.le_refl _) l h, raws, if_neg (by rw [hf]; decide)]

end CoEv
