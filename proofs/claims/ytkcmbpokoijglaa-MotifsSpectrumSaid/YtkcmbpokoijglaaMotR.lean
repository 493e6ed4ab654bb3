/- Motifs, in plain Lean: only ticks that are not too old can be in an instance that ends with the last tick. -/
import Derived.Test.YtkcmbpokoijglaaMotQ
set_option linter.unusedVariables false
namespace CoMot

theorem tim_drop {l : List Tick} {o i : Nat} : tim (l.drop o) i = tim l (i + o) := by unfold tim; rw [List.getElem?_drop, Nat.add_comm]
theorem good_drop {l : List Tick} {w : Int} {o : Nat} {a : List Nat} (ho : o ≤ l.length) : Good (l.drop o) w a ↔ Good l w (a.map (· + o)) := by
  unfold Good
  rw [List.length_drop, List.pairwise_map]
  simp only [List.mem_map, List.head?_map, tim_drop]
  constructor
  · rintro ⟨h1, h2, h3⟩
    refine ⟨?_, h2.imp (fun {i j} h => by omega), ?_⟩
    · rintro i ⟨j, hj, rfl⟩; have := h1 j hj; omega
    · rintro b hb i ⟨j, hj, rfl⟩
      cases h4 : a.head? with
      | none => rw [h4] at hb; cases hb
      | some c =>
        rw [h4] at hb
        simp only [Option.map_some, Option.some.injEq] at hb
        subst hb
        exact h3 c h4 j hj
  · rintro ⟨h1, h2, h3⟩
    refine ⟨fun i hi => ?_, h2.imp (fun {i j} h => by omega), fun b hb i hi => ?_⟩
    · have := h1 (i + o) ⟨i, hi, rfl⟩; omega
    · exact h3 (b + o) (by rw [hb]; rfl) (i + o) ⟨i, hi, rfl⟩
theorem ends_drop {l : List Tick} {o : Nat} {a : List Nat} : ends (l.drop o) a = ends l (a.map (· + o)) := by
  unfold ends
  rw [List.map_map]
  refine List.map_congr_left fun i _ => ?_
  simp only [Function.comp_apply, List.getElem?_drop, Nat.add_comm o i]
theorem map_add_inj {o : Nat} {a b : List Nat} (h : a.map (· + o) = b.map (· + o)) : a = b := by
  have h3 : ∀ c : List Nat, (c.map (· + o)).map (· - o) = c := fun c => by
    rw [List.map_map]
    conv => rhs; rw [← List.map_id c]
    refine List.map_congr_left fun i _ => ?_
    simp only [Function.comp_apply, id]; omega
  rw [← h3 a, ← h3 b, h]
theorem endc_drop {l : List Tick} {w : Int} {M : List Step} (hw : 0 ≤ w) (hl : ∀ y ∈ l, 0 ≤ y.t) {o : Nat} (ho : o < l.length) (hold : ∀ i, i < o → w < tim l (l.length - 1) - tim l i) :
    ((inst (l.drop o) w M).filter (fun p => lastB (l.length - o - 1) p)).length = endc l w M := by
  have hl' : ∀ y ∈ l.drop o, 0 ≤ y.t := fun y hy => hl y (List.mem_of_mem_drop hy)
  unfold endc
  have hlen : (((inst (l.drop o) w M).filter (fun p => lastB (l.length - o - 1) p)).map fun p => ((p.1.map (· + o), p.2) : List Nat × List Step)).length = ((inst (l.drop o) w M).filter (fun p => lastB (l.length - o - 1) p)).length := List.length_map _
  rw [← hlen]
  refine same_len ?_ (filter_nodup (inst_nodup _ _ _)) (fun p => ?_)
  · have h1 := filter_nodup (P := fun p => lastB (l.length - o - 1) p) (inst_nodup (l.drop o) w M)
    unfold List.Nodup at h1 ⊢
    rw [List.pairwise_map] at h1
    rw [List.map_map, List.pairwise_map]
    exact h1.imp (fun {a b} h e => h (map_add_inj e))
  · rw [List.mem_map, List.mem_filter, mem_inst hw hl]
    unfold lastB
    rw [decide_eq_true_eq]
    constructor
    · rintro ⟨q, hq, rfl⟩
      rw [List.mem_filter, mem_inst hw hl', decide_eq_true_eq] at hq
      obtain ⟨⟨h1, h2, h3, h4⟩, h5⟩ := hq
      refine ⟨⟨by simpa using h1, (good_drop (Nat.le_of_lt ho)).1 h2, by rw [← ends_drop]; exact h3, h4⟩, ?_⟩
      simp only [List.getLast?_map, h5, Option.map_some, Option.some.injEq]; omega
    · rintro ⟨⟨h1, h2, h3, h4⟩, h5⟩
      have hge : ∀ i ∈ p.1, o ≤ i := by
        intro i hi
        rcases Nat.lt_or_ge i o with h | h
        · exfalso
          have h6 := hold i h
          have hm := List.mem_of_getLast? h5
          have hne : p.1 ≠ [] := List.ne_nil_of_mem hi
          obtain ⟨f, hf⟩ : ∃ f, p.1.head? = some f := by
            cases h7 : p.1 with
            | nil => exact absurd h7 hne
            | cons f r => exact ⟨f, rfl⟩
          have h7 := h2.2.2 f hf _ hm
          have h8 : tim l f ≤ tim l i := by
            cases h9 : p.1 with
            | nil => exact absurd h9 hne
            | cons f' r =>
              rw [h9] at hf hi
              injection hf with hf; subst hf
              rcases List.mem_cons.1 hi with rfl | hi
              · exact Int.le_refl _
              · have h10 := h2.2.1
                rw [h9] at h10
                have := (List.pairwise_cons.1 h10).1 i hi
                omega
          omega
        · exact h
      have hback : (p.1.map (· - o)).map (· + o) = p.1 := by
        rw [List.map_map]
        conv => rhs; rw [← List.map_id p.1]
        refine List.map_congr_left fun i hi => ?_
        have := hge i hi
        simp only [Function.comp_apply, id]; omega
      refine ⟨(p.1.map (· - o), p.2), ?_, by simp only [hback]⟩
      rw [List.mem_filter, mem_inst hw hl', decide_eq_true_eq]
      refine ⟨⟨by simpa using h1, (good_drop (Nat.le_of_lt ho)).2 (by simp only [hback]; exact h2), by rw [ends_drop]; simp only [hback]; exact h3, h4⟩, ?_⟩
      simp only [List.getLast?_map, h5, Option.map_some, Option.some.injEq]; omega
end CoMot
