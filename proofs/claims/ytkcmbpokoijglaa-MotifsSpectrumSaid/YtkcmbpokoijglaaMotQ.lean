/- Motifs, in plain Lean: the instances that end with the last tick; over all beginnings of a list they add up. -/
import Derived.Test.YtkcmbpokoijglaaMotP
set_option linter.unusedVariables false
namespace CoMot

/-- The instances whose last index is i. -/
def lastB (i : Nat) (p : List Nat × List Step) : Bool := decide (p.1.getLast? = some i)
/-- The number of instances that end with the last tick. -/
def endc (l : List Tick) (w : Int) (M : List Step) : Nat := ((inst l w M).filter (fun p => lastB (l.length - 1) p)).length
theorem tim_take {l : List Tick} {h i : Nat} (hi : i < h) : tim (l.take h) i = tim l i := by unfold tim; rw [List.getElem?_take, if_pos hi]
theorem good_take {l : List Tick} {w : Int} {h : Nat} {a : List Nat} (ha : ∀ i ∈ a, i < h) (hh : h ≤ l.length) : Good (l.take h) w a ↔ Good l w a := by
  unfold Good
  rw [List.length_take, Nat.min_eq_left hh]
  constructor
  · rintro ⟨_, h2, h3⟩
    refine ⟨fun i hi => Nat.lt_of_lt_of_le (ha i hi) hh, List.Pairwise.imp_of_mem (fun {i j} hi hj h => ?_) h2, fun b hb i hi => ?_⟩
    · rw [tim_take (ha i hi), tim_take (ha j hj)] at h; exact h
    · have := h3 b hb i hi
      rw [tim_take (ha i hi), tim_take (ha b (List.mem_of_head? hb))] at this; exact this
  · rintro ⟨_, h2, h3⟩
    refine ⟨ha, List.Pairwise.imp_of_mem (fun {i j} hi hj h => ?_) h2, fun b hb i hi => ?_⟩
    · rw [tim_take (ha i hi), tim_take (ha j hj)]; exact h
    · rw [tim_take (ha i hi), tim_take (ha b (List.mem_of_head? hb))]; exact h3 b hb i hi
theorem ends_take {l : List Tick} {h : Nat} {a : List Nat} (ha : ∀ i ∈ a, i < h) : ends (l.take h) a = ends l a := by
  unfold ends
  exact List.map_congr_left fun i hi => by rw [List.getElem?_take, if_pos (ha i hi)]
theorem asc_lt_last {a : List Nat} {P : Nat → Nat → Prop} (hP : ∀ i j, P i j → i < j) (h : a.Pairwise P) {b : Nat} (hb : a.getLast? = some b) : ∀ i ∈ a, i ≤ b := by
  intro i hi
  have hne : a ≠ [] := by intro e; subst e; cases hb
  have hl := List.dropLast_concat_getLast hne
  rw [List.getLast?_eq_some_getLast hne] at hb
  injection hb with hb
  rw [hb] at hl
  rw [← hl] at hi h
  rcases List.mem_append.1 hi with h1 | h1
  · exact Nat.le_of_lt (hP _ _ ((List.pairwise_append.1 h).2.2 i h1 b (by simp)))
  · rw [List.mem_singleton] at h1; omega
theorem mem_take_last {l : List Tick} {w : Int} {M : List Step} (hw : 0 ≤ w) (hl : ∀ y ∈ l, 0 ≤ y.t) {h : Nat} (hh : h < l.length) (p : List Nat × List Step) : (p ∈ inst (l.take (h + 1)) w M ∧ lastB h p = true) ↔ (p ∈ inst l w M ∧ lastB h p = true) := by
  have hl' : ∀ y ∈ l.take (h + 1), 0 ≤ y.t := fun y hy => hl y (List.mem_of_mem_take hy)
  rw [mem_inst hw hl', mem_inst hw hl]
  unfold lastB
  rw [decide_eq_true_eq]
  constructor
  · rintro ⟨⟨h1, h2, h3, h4⟩, h5⟩
    have ha : ∀ i ∈ p.1, i < h + 1 := fun i hi => Nat.lt_succ_of_le (asc_lt_last (fun _ _ h => h.1) h2.2.1 h5 i hi)
    rw [ends_take ha] at h3
    exact ⟨⟨h1, (good_take ha hh).1 h2, h3, h4⟩, h5⟩
  · rintro ⟨⟨h1, h2, h3, h4⟩, h5⟩
    have ha : ∀ i ∈ p.1, i < h + 1 := fun i hi => Nat.lt_succ_of_le (asc_lt_last (fun _ _ h => h.1) h2.2.1 h5 i hi)
    exact ⟨⟨h1, (good_take ha hh).2 h2, by rw [ends_take ha]; exact h3, h4⟩, h5⟩
theorem same_len {L L' : List (List Nat × List Step)} (h : (L.map (·.1)).Nodup) (h' : (L'.map (·.1)).Nodup) (he : ∀ p, p ∈ L ↔ p ∈ L') : L.length = L'.length := by
  have h1 := len_le_of_sub (b := L'.map (·.1)) h (fun a ha => by
    obtain ⟨p, hp, rfl⟩ := List.mem_map.1 ha
    exact List.mem_map.2 ⟨p, (he p).1 hp, rfl⟩)
  have h2 := len_le_of_sub (b := L.map (·.1)) h' (fun a ha => by
    obtain ⟨p, hp, rfl⟩ := List.mem_map.1 ha
    exact List.mem_map.2 ⟨p, (he p).2 hp, rfl⟩)
  rw [List.length_map, List.length_map] at h1 h2
  omega
theorem filter_nodup {L : List (List Nat × List Step)} {P : List Nat × List Step → Bool} (h : (L.map (·.1)).Nodup) : ((L.filter P).map (·.1)).Nodup := by
  unfold List.Nodup at h ⊢
  rw [List.pairwise_map] at h ⊢
  exact h.sublist List.filter_sublist
theorem endc_take {l : List Tick} {w : Int} {M : List Step} (hw : 0 ≤ w) (hl : ∀ y ∈ l, 0 ≤ y.t) {h : Nat} (hh : h < l.length) : endc (l.take (h + 1)) w M = ((inst l w M).filter (lastB h)).length := by
  unfold endc
  rw [List.length_take, Nat.min_eq_left hh]
  show ((inst (l.take (h + 1)) w M).filter (fun p => lastB h p)).length = _
  refine same_len (filter_nodup (inst_nodup _ _ _)) (filter_nodup (inst_nodup _ _ _)) (fun p => ?_)
  rw [List.mem_filter, List.mem_filter]
  exact mem_take_last hw hl hh p
theorem sum_filter {α : Type} (f : α → Nat) (L : List α) (n : Nat) (h : ∀ x ∈ L, f x < n) : ((List.range n).map fun i => (L.filter fun x => decide (f x = i)).length).sum = L.length := by
  induction L with
  | nil =>
    clear h
    induction n with
    | zero => rfl
    | succ n ih => rw [List.range_succ, List.map_append, List.sum_append, ih]; rfl
  | cons x L ih =>
    have h1 := ih fun y hy => h y (by simp [hy])
    have h2 : ∀ n, ((List.range n).map fun i => ((x :: L).filter fun y => decide (f y = i)).length).sum = ((List.range n).map fun i => (L.filter fun y => decide (f y = i)).length).sum + (if f x < n then 1 else 0) := by
      intro n
      induction n with
      | zero => simp
      | succ n ihn =>
        rw [List.range_succ, List.map_append, List.map_append, List.sum_append, List.sum_append, ihn]
        simp only [List.map_cons, List.map_nil, List.sum_cons, List.sum_nil, List.filter_cons]
        by_cases h3 : f x = n
        · have e1 : decide (f x = n) = true := by simp [h3]
          rw [e1]
          simp only [if_true, List.length_cons]
          rw [if_neg (by omega : ¬ f x < n), if_pos (by omega : f x < n + 1)]; omega
        · have e1 : decide (f x = n) = false := by simp [h3]
          rw [e1]
          simp only [Bool.false_eq_true, if_false]
          by_cases h4 : f x < n
          · rw [if_pos h4, if_pos (by omega : f x < n + 1)]; omega
          · rw [if_neg h4, if_neg (by omega : ¬ f x < n + 1)]; omega
    rw [h2, h1, if_pos (h x (by simp)), List.length_cons]
theorem inst_nil {w : Int} {M : List Step} (hM : 0 < M.length) : inst [] w M = [] := by
  unfold inst
  obtain ⟨k, hk⟩ : ∃ k, M.length = k + 1 := ⟨M.length - 1, by omega⟩
  rw [hk, sub_succ]; rfl
/-- The sum over all beginnings. -/
theorem endc_sum {l : List Tick} {w : Int} {M : List Step} (hw : 0 ≤ w) (hl : ∀ y ∈ l, 0 ≤ y.t) (hM : 0 < M.length) : ((List.range (l.length + 1)).map fun i => endc (l.take i) w M).sum = (inst l w M).length := by
  have h0 : endc (l.take 0) w M = 0 := by unfold endc; rw [List.take_zero, inst_nil hM]; rfl
  have hsplit : ∀ n, ((List.range (n + 1)).map fun i => endc (l.take i) w M).sum = ((List.range n).map fun i => endc (l.take (i + 1)) w M).sum := by
    intro n
    induction n with
    | zero =>
      rw [show List.range (0 + 1) = [0] from rfl]
      simp only [List.map_cons, List.map_nil, List.sum_cons, List.sum_nil, h0]; rfl
    | succ n ih => rw [List.range_succ, List.map_append, List.sum_append, ih, List.range_succ (n := n), List.map_append, List.sum_append]; rfl
  rw [hsplit]
  have h2 := sum_filter (fun p : List Nat × List Step => (p.1.getLast?).getD 0) (inst l w M) l.length (fun p hp => by
    obtain ⟨k1, k2, _, _⟩ := (mem_inst hw hl p).1 hp
    have hne : p.1 ≠ [] := by intro e; rw [e] at k1; simp at k1; omega
    rw [List.getLast?_eq_some_getLast hne]
    exact k2.1 _ (List.getLast_mem hne))
  rw [← h2]
  congr 1
  refine List.map_congr_left fun i hi => ?_
  rw [List.mem_range] at hi
  rw [endc_take hw hl hi]
  congr 1
  refine List.filter_congr fun p hp => ?_
  obtain ⟨k1, k2, _, _⟩ := (mem_inst hw hl p).1 hp
  have hne : p.1 ≠ [] := by intro e; rw [e] at k1; simp at k1; omega
  unfold lastB
  rw [List.getLast?_eq_some_getLast hne]
  simp
end CoMot
