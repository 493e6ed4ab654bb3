/- Motifs, in plain Lean: with time turned around there are as many instances. -/
import Derived.Test.YtkcmbpokoijglaaMotN
set_option linter.unusedVariables false
namespace CoMot

/-- Steps that begin a motif. -/
def pre (M : List Step) : List Step → Bool := fun s => decide (s = M.take s.length)
/-- The instances of a motif. -/
def inst (l : List Tick) (w : Int) (M : List Step) : List (List Nat × List Step) := sub l w (pre M) M.length [] [] []
theorem mem_inst {l : List Tick} {w : Int} {M : List Step} (hw : 0 ≤ w) (hl : ∀ y ∈ l, 0 ≤ y.t) (p : List Nat × List Step) : p ∈ inst l w M ↔ p.1.length = M.length ∧ Good l w p.1 ∧ ofL (ends l p.1) = some M ∧ p.2 = M := by
  unfold inst
  rw [mem_sub hw hl M.length [] [] [] ⟨by simp, by simp, by simp⟩ rfl]
  simp only [List.nil_append, List.length_nil]
  constructor
  · rintro ⟨c, ns', hc, h1, h2, h3, h4⟩
    have hlen := ofS_len _ _ _ h3
    have hel : (ends l p.1).length = p.1.length := by simp [ends]
    rw [hel] at hlen
    have hp1 : p.1.length = M.length := by rw [h1, hc]
    have h5 : p.2 = M := by
      rcases Nat.eq_zero_or_pos p.1.length with h0 | h0
      · rw [List.eq_nil_of_length_eq_zero (by omega : p.2.length = 0), List.eq_nil_of_length_eq_zero (by omega : M.length = 0)]
      · have := h4 p.1.length h0 (Nat.le_refl _)
        unfold pre at this
        rw [List.take_of_length_le (by omega), decide_eq_true_eq, List.take_of_length_le (by omega)] at this
        exact this
    refine ⟨hp1, h2, ?_, h5⟩
    rw [ofL_eq, h3, ← h5]; rfl
  · rintro ⟨h1, h2, h3, h4⟩
    rw [ofL_eq] at h3
    cases h5 : ofS (ends l p.1) with
    | none => rw [h5] at h3; cases h3
    | some q =>
      obtain ⟨ns', m⟩ := q
      rw [h5] at h3
      simp only [Option.map_some, Option.some.injEq] at h3
      refine ⟨p.1, ns', h1, rfl, h2, by rw [h4, h3], fun j hj1 hj2 => ?_⟩
      unfold pre
      rw [h4, decide_eq_true_eq, List.length_take, Nat.min_eq_left (by omega)]
theorem sub_nodup (l : List Tick) (w : Int) (fits : List Step → Bool) : ∀ k at' m ns, (∀ p ∈ sub l w fits k at' m ns, ∃ c, p.1 = at' ++ c) ∧ (sub l w fits k at' m ns).Pairwise (fun p q => p.1 ≠ q.1) := by
  intro k
  induction k with
  | zero => intro at' m ns; exact ⟨fun p hp => ⟨[], by simp [sub] at hp; simp [hp]⟩, by simp [sub]⟩
  | succ k ih =>
    intro at' m ns
    have h1 : ∀ i p, p ∈ one l w fits k at' m ns i → ∃ c, p.1 = at' ++ [i] ++ c := by
      intro i p hp
      unfold one at hp
      split at hp
      · cases hp
      · split at hp
        · split at hp
          · cases hp
          · split at hp
            · exact (ih _ _ _).1 p hp
            · cases hp
        · cases hp
    rw [sub_succ]
    constructor
    · intro p hp
      obtain ⟨i, _, hp⟩ := List.mem_flatMap.1 hp
      obtain ⟨c, hc⟩ := h1 i p hp
      exact ⟨i :: c, by rw [hc, List.append_assoc]; rfl⟩
    · rw [List.pairwise_flatMap]
      constructor
      · intro i _
        unfold one
        split
        · exact List.Pairwise.nil
        · split
          · split
            · exact List.Pairwise.nil
            · split
              · exact (ih _ _ _).2
              · exact List.Pairwise.nil
          · exact List.Pairwise.nil
      · refine List.Pairwise.imp ?_ (List.nodup_range (n := l.length))
        intro i j hij p hp q hq e
        obtain ⟨c, hc⟩ := h1 i p hp
        obtain ⟨d, hd⟩ := h1 j q hq
        rw [hc, hd, List.append_assoc, List.append_assoc] at e
        have := List.append_cancel_left e
        simp at this
        exact hij this.1
theorem inst_nodup (l : List Tick) (w : Int) (M : List Step) : ((inst l w M).map (·.1)).Nodup := by
  unfold List.Nodup
  rw [List.pairwise_map]
  exact (sub_nodup l w (pre M) M.length [] [] []).2
theorem len_le_of_sub {α : Type} [DecidableEq α] : ∀ {a b : List α}, a.Nodup → (∀ x ∈ a, x ∈ b) → a.length ≤ b.length := by
  intro a
  induction a with
  | nil => intro b _ _; exact Nat.zero_le _
  | cons x a ih =>
    intro b hn hs
    rw [List.nodup_cons] at hn
    have hx := hs x (by simp)
    have h1 := ih (b := b.erase x) hn.2 (fun y hy => (List.mem_erase_of_ne (fun e => hn.1 (by rw [← e]; exact hy))).2 (hs y (by simp [hy])))
    rw [List.length_erase_of_mem hx] at h1
    have := List.length_pos_of_mem hx
    rw [List.length_cons]; omega
/-- Time turned around. -/
def back (T : Int) (l : List Tick) : List Tick := l.reverse.map fun x => ⟨x.u, x.v, T - x.t⟩
theorem back_len (T : Int) (l : List Tick) : (back T l).length = l.length := by simp [back]
theorem back_back (T : Int) (l : List Tick) : back T (back T l) = l := by
  unfold back
  rw [← List.map_reverse, List.reverse_reverse, List.map_map]
  have : ((fun x : Tick => (⟨x.u, x.v, T - x.t⟩ : Tick)) ∘ fun x : Tick => (⟨x.u, x.v, T - x.t⟩ : Tick)) = id := by
    funext x
    obtain ⟨u, v, t⟩ := x
    simp only [Function.comp_apply, id, Tick.mk.injEq, true_and]; omega
  rw [this, List.map_id]
theorem back_at (T : Int) (l : List Tick) {i : Nat} (hi : i < l.length) : (back T l)[l.length - 1 - i]? = some ⟨l[i].u, l[i].v, T - l[i].t⟩ := by
  unfold back
  rw [List.getElem?_map, List.getElem?_reverse (by omega), show l.length - 1 - (l.length - 1 - i) = i by omega, List.getElem?_eq_getElem hi]; rfl
def turn (n : Nat) (a : List Nat) : List Nat := (a.map fun i => n - 1 - i).reverse
theorem ends_back {T : Int} {l : List Tick} {a : List Nat} (h : ∀ i ∈ a, i < l.length) : ends (back T l) (turn l.length a) = (ends l a).reverse := by
  unfold ends turn
  rw [List.map_reverse, List.map_map]
  congr 1
  refine List.map_congr_left fun i hi => ?_
  have hil := h i hi
  simp only [Function.comp_apply, back_at T l hil, List.getElem?_eq_getElem hil]; rfl
theorem tim_back {T : Int} {l : List Tick} {i : Nat} (hi : i < l.length) : tim (back T l) (l.length - 1 - i) = T - tim l i := by
  unfold tim
  rw [back_at T l hi, List.getElem?_eq_getElem hi]; rfl
theorem good_back {T : Int} {l : List Tick} {w : Int} {a : List Nat} (h : Good l w a) : Good (back T l) w (turn l.length a) := by
  obtain ⟨h1, h2, h3⟩ := h
  have hmem : ∀ j ∈ turn l.length a, ∃ i ∈ a, j = l.length - 1 - i := by
    intro j hj
    unfold turn at hj
    rw [List.mem_reverse, List.mem_map] at hj
    obtain ⟨i, hi, rfl⟩ := hj
    exact ⟨i, hi, rfl⟩
  refine ⟨fun j hj => ?_, ?_, fun b hb j hj => ?_⟩
  · obtain ⟨i, hi, rfl⟩ := hmem j hj
    have := h1 i hi
    rw [back_len]; omega
  · unfold turn
    rw [List.pairwise_reverse, List.pairwise_map]
    refine List.Pairwise.imp_of_mem ?_ h2
    intro i j hi hj hij
    have e1 := h1 i hi
    have e2 := h1 j hj
    rw [tim_back e1, tim_back e2]
    omega
  · obtain ⟨i, hi, rfl⟩ := hmem j hj
    unfold turn at hb
    rw [List.head?_reverse, List.getLast?_map] at hb
    cases hl : a.getLast? with
    | none => rw [hl] at hb; cases hb
    | some c =>
      rw [hl] at hb
      simp only [Option.map_some, Option.some.injEq] at hb
      subst hb
      have hc := List.mem_of_getLast? hl
      rw [tim_back (h1 i hi), tim_back (h1 c hc)]
      have hne : a ≠ [] := by intro e; subst e; cases hl
      obtain ⟨f, hf⟩ : ∃ f, a.head? = some f := by
        cases a with
        | nil => exact absurd rfl hne
        | cons f r => exact ⟨f, rfl⟩
      have h4 := h3 f hf c hc
      have h5 : tim l f ≤ tim l i := by
        cases a with
        | nil => exact absurd rfl hne
        | cons f' r =>
          injection hf with hf; subst hf
          rcases List.mem_cons.1 hi with rfl | hi
          · exact Int.le_refl _
          · have := (List.pairwise_cons.1 h2).1 i hi
            omega
      omega
theorem back_pos {T : Int} {l : List Tick} (h : ∀ y ∈ l, y.t ≤ T) : ∀ y ∈ back T l, 0 ≤ y.t := by
  intro y hy
  unfold back at hy
  rw [List.mem_map] at hy
  obtain ⟨x, hx, rfl⟩ := hy
  have := h x (by simpa using hx)
  simp only; omega
theorem back_top {T : Int} {l : List Tick} (h : ∀ y ∈ l, 0 ≤ y.t) : ∀ y ∈ back T l, y.t ≤ T := by
  intro y hy
  unfold back at hy
  rw [List.mem_map] at hy
  obtain ⟨x, hx, rfl⟩ := hy
  have := h x (by simpa using hx)
  simp only; omega
theorem turn_inj {n : Nat} {a b : List Nat} (ha : ∀ i ∈ a, i < n) (hb : ∀ i ∈ b, i < n) (h : turn n a = turn n b) : a = b := by
  unfold turn at h
  have h2 := congrArg List.reverse h
  rw [List.reverse_reverse, List.reverse_reverse] at h2
  have h3 : ∀ c : List Nat, (∀ i ∈ c, i < n) → (c.map fun i => n - 1 - i).map (fun i => n - 1 - i) = c := fun c hc => by
    rw [List.map_map]
    conv => rhs; rw [← List.map_id c]
    refine List.map_congr_left fun i hi => ?_
    have := hc i hi
    simp only [Function.comp_apply, id]; omega
  rw [← h3 a ha, ← h3 b hb, h2]
theorem back_le {T : Int} {l : List Tick} {w : Int} {M R : List Step} (hw : 0 ≤ w) (hl : ∀ y ∈ l, 0 ≤ y.t) (ht : ∀ y ∈ l, y.t ≤ T) (hR : ofL M.reverse = some R) (hlen : R.length = M.length) : (inst l w M).length ≤ (inst (back T l) w R).length := by
  have h1 : (((inst l w M).map (·.1)).map (turn l.length)).Nodup := by
    have hn := inst_nodup l w M
    unfold List.Nodup at hn ⊢
    rw [List.pairwise_map]
    refine List.Pairwise.imp_of_mem ?_ hn
    intro a b ha hb hab e
    rw [List.mem_map] at ha hb
    obtain ⟨p, hp, rfl⟩ := ha
    obtain ⟨q, hq, rfl⟩ := hb
    exact hab (turn_inj ((mem_inst hw hl p).1 hp).2.1.1 ((mem_inst hw hl q).1 hq).2.1.1 e)
  have h2 := len_le_of_sub (b := (inst (back T l) w R).map (·.1)) h1 (fun a ha => by
    rw [List.mem_map] at ha
    obtain ⟨b, hb, rfl⟩ := ha
    rw [List.mem_map] at hb
    obtain ⟨p, hp, rfl⟩ := hb
    obtain ⟨k1, k2, k3, k4⟩ := (mem_inst hw hl p).1 hp
    rw [List.mem_map]
    refine ⟨(turn l.length p.1, R), (mem_inst hw (back_pos ht) _).2 ⟨?_, good_back k2, ?_, rfl⟩, rfl⟩
    · simp only [turn, List.length_reverse, List.length_map]; omega
    · rw [ends_back k2.1]
      exact ((ofL_rev k3).1.symm).trans hR)
  simpa using h2
theorem ofL_len {r m : List Step} (h : ofL r = some m) : m.length = r.length := by
  rw [ofL_eq] at h
  cases h1 : ofS r with
  | none => rw [h1] at h; cases h
  | some q =>
    rw [h1] at h
    simp only [Option.map_some, Option.some.injEq] at h
    subst h
    exact ofS_len _ _ _ h1
/-- With time turned around, and the steps in the opposite order, there are as many. -/
theorem back_same {T : Int} {l : List Tick} {w : Int} {M R : List Step} (hw : 0 ≤ w) (hl : ∀ y ∈ l, 0 ≤ y.t) (ht : ∀ y ∈ l, y.t ≤ T) (hM : ofL M = some M) (hR : ofL M.reverse = some R) : (inst (back T l) w R).length = (inst l w M).length := by
  have hlen : R.length = M.length := by have := ofL_len hR; rwa [List.length_reverse] at this
  have hR2 : ofL R.reverse = some M := by rw [(ofL_rev hR).1, List.reverse_reverse]; exact hM
  have h1 := back_le hw hl ht hR hlen
  have h2 := back_le (T := T) hw (back_pos ht) (back_top hl) hR2 hlen.symm
  rw [back_back] at h2
  omega
end CoMot
