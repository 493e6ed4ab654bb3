/- Motifs, in plain Lean: the reference's search finds the same instances in the same order. -/
import Derived.Test.YtkcmbpokoijglaaMotP
set_option linter.unusedVariables false
namespace CoMot

/-- All choices of ticks with ascending times within the width; those are kept whose motif is M. -/
def fnd (l : List Tick) (w : Int) (M : List Step) : Nat → List Nat → List (List Nat)
  | 0, a => if ofL (ends l a) = some M then [a] else []
  | k + 1, a => (List.range l.length).flatMap fun i => match l[i]? with
    | none => []
    | some x => if nextB l w a x i = true then fnd l w M k (a ++ [i]) else []
theorem ofS_pre : ∀ (s r : List Step) ns m, ofS (r ++ s) = some (ns, m) → ∃ ns', ofS r = some (ns', m.take r.length) := by
  intro s
  refine snocI (P := fun s => ∀ (r : List Step) ns m, ofS (r ++ s) = some (ns, m) → ∃ ns', ofS r = some (ns', m.take r.length)) (fun r ns m h => ?_) (fun s x ih r ns m h => ?_) s
  · rw [List.append_nil] at h
    exact ⟨ns, by rw [h, List.take_of_length_le (by rw [ofS_len _ _ _ h]; exact Nat.le_refl _)]⟩
  · rw [← List.append_assoc, ofS_snoc] at h
    obtain ⟨ns0, m0, ns2, s2, k1, k2, k3⟩ := ofT_some h
    injection k3 with _ k3
    obtain ⟨ns', h'⟩ := ih r ns0 m0 k1
    have hl := ofS_len _ _ _ k1
    exact ⟨ns', by rw [k3, List.take_append_of_le_length (by rw [hl, List.length_append]; omega)]; exact h'⟩
theorem ends_append (l : List Tick) (a b : List Nat) : ends l (a ++ b) = ends l a ++ ends l b := by simp [ends]
theorem ends_length (l : List Tick) (a : List Nat) : (ends l a).length = a.length := by simp [ends]
theorem fnd_dead {l : List Tick} {w : Int} {M : List Step} : ∀ k a, (∀ ns, ofS (ends l a) ≠ some (ns, M.take a.length)) → fnd l w M k a = [] := by
  intro k
  induction k with
  | zero =>
    intro a h
    rw [fnd, if_neg]
    intro h2
    rw [ofL_eq] at h2
    cases h3 : ofS (ends l a) with
    | none => rw [h3] at h2; cases h2
    | some q =>
      obtain ⟨ns, m⟩ := q
      rw [h3] at h2
      simp only [Option.map_some, Option.some.injEq] at h2
      have hl := ofS_len _ _ _ h3
      rw [ends_length] at hl
      exact h ns (by rw [h3, ← h2, List.take_of_length_le (by omega)])
  | succ k ih =>
    intro a h
    rw [fnd, List.flatMap_eq_nil_iff]
    intro i _
    cases l[i]? with
    | none => rfl
    | some x =>
      simp only
      split
      · refine ih _ (fun ns h2 => ?_)
        rw [ends_append] at h2
        obtain ⟨ns', h3⟩ := ofS_pre _ _ _ _ h2
        rw [ends_length, List.take_take, List.length_append, Nat.min_eq_left (by omega)] at h3
        exact h ns' h3
      · rfl
theorem fnd_sub {l : List Tick} {w : Int} {M : List Step} : ∀ k a ns, a.length + k = M.length → ofS (ends l a) = some (ns, M.take a.length) → fnd l w M k a = (sub l w (pre M) k a (M.take a.length) ns).map (·.1) := by
  intro k
  induction k with
  | zero =>
    intro a ns hk ho
    rw [fnd, if_pos]
    · rfl
    · rw [ofL_eq, ho, Option.map_some, List.take_of_length_le (by omega)]
  | succ k ih =>
    intro a ns hk ho
    rw [fnd, sub_succ, List.map_flatMap]
    congr 1
    funext i
    unfold one
    cases hx : l[i]? with
    | none => rfl
    | some x =>
      simp only
      by_cases hn : nextB l w a x i = true
      · rw [if_pos hn, if_pos hn]
        have hs : ofS (ends l (a ++ [i])) = (add ns x.u x.v).map fun z => (z.1, M.take a.length ++ [z.2]) := by
          rw [ends_snoc hx, ofS_snoc, ho]; rfl
        have hlen : (a ++ [i]).length = a.length + 1 := by simp
        have hMl : (M.take a.length).length = a.length := by rw [List.length_take]; omega
        cases hadd : add ns x.u x.v with
        | none =>
          simp only [List.map_nil]
          refine fnd_dead _ _ (fun ns' h => ?_)
          rw [hs, hadd] at h; cases h
        | some q =>
          obtain ⟨ns', s⟩ := q
          rw [hadd] at hs
          simp only [Option.map_some] at hs
          simp only
          by_cases hf : pre M (M.take a.length ++ [s]) = true
          · rw [if_pos hf]
            unfold pre at hf
            rw [decide_eq_true_eq, List.length_append, hMl, List.length_singleton] at hf
            rw [hf] at hs ⊢
            have := ih (a ++ [i]) ns' (by rw [hlen]; omega) (by rw [hlen]; exact hs)
            rw [hlen] at this
            exact this
          · rw [if_neg hf, List.map_nil]
            refine fnd_dead _ _ (fun ns2 h => hf ?_)
            rw [hs, hlen] at h
            injection h with h; injection h with _ h
            unfold pre
            rw [decide_eq_true_eq, List.length_append, hMl, List.length_singleton]
            exact h
      · rw [if_neg hn, if_neg hn, List.map_nil]
theorem fnd_inst (l : List Tick) (w : Int) (M : List Step) : fnd l w M M.length [] = (inst l w M).map (·.1) := fnd_sub M.length [] [] (by simp) (by simp [ends, ofS])
end CoMot
