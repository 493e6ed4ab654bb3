/- Motifs, in plain Lean: names of nodes in the order of their appearance, the motif of ticks, the instances in the order in which they are found. -/
set_option linter.unusedVariables false
namespace CoMot

/-- A tick: from, to, time. -/
structure Tick where
  u : Int
  v : Int
  t : Int
  deriving DecidableEq
abbrev Step := Int × Int
/-- The variable of a node: its place among the nodes, or their number. -/
def idx (l : List Int) (x : Int) : Nat := l.findIdx (fun y => decide (y = x))
/-- The next step: its variables, and the nodes with their new ones. -/
def add (l : List Int) (a b : Int) : Option (List Int × Step) :=
  if l = [] then (if a ≠ b then some ([a, b], (0, 1)) else none)
  else if idx l a = idx l b then none
  else some (l ++ (if idx l a = l.length then [a] else []) ++ (if idx l b = l.length then [b] else []), ((idx l a : Int), (idx l b : Int)))
def ofG : List Int → List Step → List Step → Option (List Step)
  | _, m, [] => some m
  | l, m, x :: r => match add l x.1 x.2 with
    | none => none
    | some (l', s) => ofG l' (m ++ [s]) r
/-- The motif of a list of pairs of nodes. -/
def ofL (r : List Step) : Option (List Step) := ofG [] [] r

theorem idx_le (l : List Int) (x : Int) : idx l x ≤ l.length := List.findIdx_le_length
theorem idx_lt {l : List Int} {x : Int} : idx l x < l.length ↔ x ∈ l := by
  unfold idx
  rw [List.findIdx_lt_length]
  constructor
  · rintro ⟨y, hy, h⟩; rw [decide_eq_true_eq] at h; rw [← h]; exact hy
  · intro h; exact ⟨x, h, by simp⟩
theorem idx_at {l : List Int} {x : Int} (h : idx l x < l.length) : l[idx l x]? = some x := by
  rw [List.getElem?_eq_getElem h]
  have := List.findIdx_getElem (p := fun y => decide (y = x)) (w := h)
  rw [decide_eq_true_eq] at this
  exact congrArg some this
theorem idx_inj {l : List Int} {x y : Int} (h : idx l x = idx l y) (hx : x ∈ l) : x = y := by
  have h1 := idx_at (idx_lt.2 hx)
  have h2 := idx_at (l := l) (x := y) (by rw [← h]; exact idx_lt.2 hx)
  rw [h, h2] at h1
  exact (Option.some.inj h1).symm
theorem idx_map {f : Int → Int} {l : List Int} {x : Int} (hf : ∀ a ∈ l, f a = f x → a = x) : idx (l.map f) (f x) = idx l x := by
  unfold idx
  induction l with
  | nil => rfl
  | cons a l ih =>
    rw [List.map_cons, List.findIdx_cons, List.findIdx_cons]
    have : decide (f a = f x) = decide (a = x) := decide_eq_decide.2 ⟨fun h => hf a (by simp) h, fun h => by rw [h]⟩
    rw [this, ih (fun b hb => hf b (by simp [hb]))]
theorem add_map {f : Int → Int} {l : List Int} {a b : Int} (hf : ∀ x y, (x ∈ l ∨ x = a ∨ x = b) → (y ∈ l ∨ y = a ∨ y = b) → f x = f y → x = y) :
    add (l.map f) (f a) (f b) = (add l a b).map fun p => (p.1.map f, p.2) := by
  unfold add
  have h1 : idx (l.map f) (f a) = idx l a := idx_map fun x hx h => hf x a (.inl hx) (.inr (.inl rfl)) h
  have h2 : idx (l.map f) (f b) = idx l b := idx_map fun x hx h => hf x b (.inl hx) (.inr (.inr rfl)) h
  rw [h1, h2, List.length_map]
  by_cases h0 : l = []
  · subst h0
    simp only [List.map_nil, if_true]
    by_cases hab : a = b
    · subst hab; simp
    · rw [if_pos (fun h => hab (hf a b (.inr (.inl rfl)) (.inr (.inr rfl)) h)), if_pos hab]; rfl
  · rw [if_neg (by simpa using h0), if_neg h0]
    split
    · rfl
    · simp only [Option.map_some, List.map_append]
      congr 3
      · congr 1
        · split <;> rfl
      · split <;> rfl
theorem add_mem {l l' : List Int} {a b : Int} {s : Step} (h : add l a b = some (l', s)) : ∀ x, x ∈ l' ↔ (x ∈ l ∨ x = a ∨ x = b) := by
  unfold add at h
  intro x
  split at h
  · rename_i h0
    subst h0
    split at h
    · injection h with h; injection h with h1 h2; subst h1; simp
    · cases h
  · split at h
    · cases h
    · injection h with h; injection h with h1 h2
      subst h1
      have ha : idx l a = l.length ∨ a ∈ l := by
        rcases Nat.lt_or_ge (idx l a) l.length with h | h
        · exact .inr (idx_lt.1 h)
        · exact .inl (Nat.le_antisymm (idx_le _ _) h)
      have hb : idx l b = l.length ∨ b ∈ l := by
        rcases Nat.lt_or_ge (idx l b) l.length with h | h
        · exact .inr (idx_lt.1 h)
        · exact .inl (Nat.le_antisymm (idx_le _ _) h)
      simp only [List.mem_append]
      constructor
      · rintro ((h | h) | h)
        · exact .inl h
        · split at h
          · simp at h; exact .inr (.inl h)
          · cases h
        · split at h
          · simp at h; exact .inr (.inr h)
          · cases h
      · rintro (h | rfl | rfl)
        · exact .inl (.inl h)
        · rcases ha with ha | ha
          · rw [if_pos ha]; simp
          · exact .inl (.inl ha)
        · rcases hb with hb | hb
          · rw [if_pos hb]; simp
          · exact .inl (.inl hb)

/-- May tick i come next? -/
def nextB (l : List Tick) (w : Int) (at' : List Nat) (x : Tick) (i : Nat) : Bool :=
  match at'.head?, at'.getLast? with
  | some a, some b => decide (b < i) && decide (x.t - ((l[a]?.map (·.t)).getD 0) ≤ w) && decide (((l[b]?.map (·.t)).getD 0) < x.t)
  | _, _ => decide (-1 < x.t)
/-- All instances that begin so, with k steps more. -/
def sub (l : List Tick) (w : Int) (fits : List Step → Bool) : Nat → List Nat → List Step → List Int → List (List Nat × List Step)
  | 0, at', m, _ => [(at', m)]
  | k + 1, at', m, ns => (List.range l.length).flatMap fun i => match l[i]? with
    | none => []
    | some x => if nextB l w at' x i = true then (match add ns x.u x.v with
      | none => []
      | some (ns', s) => if fits (m ++ [s]) = true then sub l w fits k (at' ++ [i]) (m ++ [s]) ns' else []) else []
/-- What tick i gives. -/
def one (l : List Tick) (w : Int) (fits : List Step → Bool) (k : Nat) (at' : List Nat) (m : List Step) (ns : List Int) (i : Nat) : List (List Nat × List Step) :=
  match l[i]? with
    | none => []
    | some x => if nextB l w at' x i = true then (match add ns x.u x.v with
      | none => []
      | some (ns', s) => if fits (m ++ [s]) = true then sub l w fits k (at' ++ [i]) (m ++ [s]) ns' else []) else []
theorem sub_succ (l : List Tick) (w : Int) (fits : List Step → Bool) (k : Nat) (at' : List Nat) (m : List Step) (ns : List Int) : sub l w fits (k + 1) at' m ns = (List.range l.length).flatMap (one l w fits k at' m ns) := rfl

theorem head_map_t {l : List Tick} {f : Tick → Tick} (hf : ∀ x, (f x).t = x.t) (a : Nat) : ((l.map f)[a]?.map (·.t)) = (l[a]?.map (·.t)) := by
  rw [List.getElem?_map, Option.map_map]
  cases l[a]? with
  | none => rfl
  | some x => simp [hf]
/-- With other names of the nodes the same instances are found. -/
theorem sub_names {f : Int → Int} {l : List Tick} {w : Int} {fits : List Step → Bool} (hf : ∀ x y, (∃ t ∈ l, x = t.u ∨ x = t.v) → (∃ t ∈ l, y = t.u ∨ y = t.v) → f x = f y → x = y) :
    ∀ k at' m ns, (∀ x ∈ ns, ∃ t ∈ l, x = t.u ∨ x = t.v) → sub (l.map fun x => ⟨f x.u, f x.v, x.t⟩) w fits k at' m (ns.map f) = sub l w fits k at' m ns := by
  intro k
  induction k with
  | zero => intro at' m ns _; rfl
  | succ k ih =>
    intro at' m ns hns
    rw [sub_succ, sub_succ, List.length_map]
    congr 1
    funext i
    unfold one
    rw [List.getElem?_map]
    cases hx : l[i]? with
    | none => rfl
    | some x =>
      have hxm := List.mem_of_getElem? hx
      have hn : nextB (l.map fun x => (⟨f x.u, f x.v, x.t⟩ : Tick)) w at' ⟨f x.u, f x.v, x.t⟩ i = nextB l w at' x i := by
        unfold nextB
        cases at'.head? with
        | none => rfl
        | some a => cases at'.getLast? with
          | none => rfl
          | some b => simp only [head_map_t (f := fun x => (⟨f x.u, f x.v, x.t⟩ : Tick)) (fun _ => rfl)]
      simp only [Option.map_some, hn]
      have hin : ∀ y, (y ∈ ns ∨ y = x.u ∨ y = x.v) → ∃ t ∈ l, y = t.u ∨ y = t.v := by
        rintro y (h | rfl | rfl)
        · exact hns y h
        · exact ⟨x, hxm, .inl rfl⟩
        · exact ⟨x, hxm, .inr rfl⟩
      have ha := add_map (f := f) (l := ns) (a := x.u) (b := x.v) (fun y z hy hz h => hf y z (hin y hy) (hin z hz) h)
      rw [ha]
      cases hadd : add ns x.u x.v with
      | none => rfl
      | some p =>
        obtain ⟨ns', s⟩ := p
        simp only [Option.map_some]
        rw [ih (at' ++ [i]) (m ++ [s]) ns' (fun y hy => hin y ((add_mem hadd y).1 hy))]
/-- In the beginning of a list there are not more. -/
theorem nextB_take {l : List Tick} {w : Int} {h : Nat} {at' : List Nat} (ha : ∀ a ∈ at', a < h) (x : Tick) (i : Nat) : nextB (l.take h) w at' x i = nextB l w at' x i := by
  unfold nextB
  cases h1 : at'.head? with
  | none => rfl
  | some a => cases h2 : at'.getLast? with
    | none => rfl
    | some b =>
      have e1 : a < h := ha a (List.mem_of_head? h1)
      have e2 : b < h := ha b (List.mem_of_getLast? h2)
      simp only [List.getElem?_take, if_pos e1, if_pos e2]
theorem flatMap_sublist {α β : Type} {f g : α → List β} {a b : List α} (h : a.Sublist b) (hf : ∀ x ∈ a, (f x).Sublist (g x)) : (a.flatMap f).Sublist (b.flatMap g) := by
  induction h with
  | slnil => exact List.Sublist.refl _
  | cons x h ih => rw [List.flatMap_cons]; exact (ih hf).trans (List.sublist_append_right _ _)
  | cons_cons x h ih => rw [List.flatMap_cons, List.flatMap_cons]; exact (hf x (by simp)).append (ih fun y hy => hf y (by simp [hy]))
theorem sub_take {l : List Tick} {w : Int} {fits : List Step → Bool} (h : Nat) : ∀ k at' m ns, (∀ a ∈ at', a < h) → (sub (l.take h) w fits k at' m ns).Sublist (sub l w fits k at' m ns) := by
  intro k
  induction k with
  | zero => intro at' m ns _; exact List.Sublist.refl _
  | succ k ih =>
    intro at' m ns ha
    rw [sub_succ, sub_succ]
    refine flatMap_sublist ?_ (fun i hi => ?_)
    · rw [List.length_take, ← List.take_range]
      exact List.take_sublist _ _
    · unfold one
      have hi' : i < h := by
        rw [List.mem_range, List.length_take] at hi; omega
      rw [List.getElem?_take, if_pos hi']
      cases l[i]? with
      | none => exact List.Sublist.refl _
      | some x =>
        simp only [nextB_take ha]
        split
        · cases add ns x.u x.v with
          | none => exact List.Sublist.refl _
          | some p =>
            obtain ⟨ns', s⟩ := p
            simp only
            split
            · refine ih _ _ _ (fun a hm => ?_)
              rcases List.mem_append.1 hm with hm | hm
              · exact ha a hm
              · rw [List.mem_singleton] at hm; omega
            · exact List.Sublist.refl _
        · exact List.Sublist.refl _
end CoMot
