/- Motifs, in plain Lean: which instances there are, and that time turned around has as many. -/
import Derived.Test.YtkcmbpokoijglaaMotM
set_option linter.unusedVariables false
namespace CoMot

/-- The nodes in the order of their appearance, and the motif. -/
def ofT (p : Option (List Int × List Step)) (x : Step) : Option (List Int × List Step) := p.bind fun q => (add q.1 x.1 x.2).map fun z => (z.1, q.2 ++ [z.2])
def ofS (r : List Step) : Option (List Int × List Step) := r.foldl ofT (some ([], []))
theorem ofS_snoc (r : List Step) (x : Step) : ofS (r ++ [x]) = ofT (ofS r) x := by simp [ofS]
theorem foldl_none : ∀ r : List Step, r.foldl ofT none = none := by
  intro r
  induction r with
  | nil => rfl
  | cons x r ih => exact ih
theorem ofG_eq : ∀ (r : List Step) (l : List Int) (m : List Step), ofG l m r = (r.foldl ofT (some (l, m))).map (·.2) := by
  intro r
  induction r with
  | nil => intro l m; rfl
  | cons x r ih =>
    intro l m
    rw [ofG, List.foldl_cons]
    show _ = (r.foldl ofT ((add l x.1 x.2).map fun z => (z.1, m ++ [z.2]))).map (·.2)
    cases h : add l x.1 x.2 with
    | none => rw [Option.map_none, foldl_none]; rfl
    | some z => obtain ⟨l', s⟩ := z; exact ih l' (m ++ [s])
theorem ofL_eq (r : List Step) : ofL r = (ofS r).map (·.2) := ofG_eq r [] []
theorem snocI {α : Type} {P : List α → Prop} (h0 : P []) (h1 : ∀ l x, P l → P (l ++ [x])) (l : List α) : P l := by
  have : ∀ l : List α, P l.reverse := by
    intro l
    induction l with
    | nil => exact h0
    | cons x l ih => rw [List.reverse_cons]; exact h1 _ _ ih
  have h := this l.reverse
  rwa [List.reverse_reverse] at h
theorem ofT_some {p : Option (List Int × List Step)} {x : Step} {q : List Int × List Step} (h : ofT p x = some q) : ∃ ns m ns' s, p = some (ns, m) ∧ add ns x.1 x.2 = some (ns', s) ∧ q = (ns', m ++ [s]) := by
  unfold ofT at h
  cases p with
  | none => cases h
  | some p =>
    obtain ⟨ns, m⟩ := p
    simp only [Option.bind_some] at h
    cases h2 : add ns x.1 x.2 with
    | none => rw [h2] at h; cases h
    | some z =>
      rw [h2] at h
      obtain ⟨ns', s⟩ := z
      simp only [Option.map_some, Option.some.injEq] at h
      exact ⟨ns, m, ns', s, rfl, h2, h.symm⟩
theorem ofS_len : ∀ r ns m, ofS r = some (ns, m) → m.length = r.length := by
  intro r
  refine snocI (P := fun r => ∀ ns m, ofS r = some (ns, m) → m.length = r.length) (fun ns m h => ?_) (fun r x ih ns m h => ?_) r
  · cases h; rfl
  · rw [ofS_snoc] at h
    obtain ⟨ns0, m0, ns', s, h1, h2, h3⟩ := ofT_some h
    injection h3 with h3 h4
    rw [h4, List.length_append, List.length_append, ih _ _ h1]; rfl
theorem ofS_mem : ∀ r ns m, ofS r = some (ns, m) → ∀ x, x ∈ ns ↔ ∃ p ∈ r, x = p.1 ∨ x = p.2 := by
  intro r
  refine snocI (P := fun r => ∀ ns m, ofS r = some (ns, m) → ∀ x, x ∈ ns ↔ ∃ p ∈ r, x = p.1 ∨ x = p.2) (fun ns m h x => ?_) (fun r y ih ns m h x => ?_) r
  · cases h; simp
  · rw [ofS_snoc] at h
    obtain ⟨ns0, m0, ns', s, h1, h2, h3⟩ := ofT_some h
    injection h3 with h3 h4
    subst h3
    rw [add_mem h2, ih _ _ h1]
    simp only [List.mem_append, List.mem_singleton]
    constructor
    · rintro (⟨p, hp, h⟩ | h | h)
      · exact ⟨p, .inl hp, h⟩
      · exact ⟨y, .inr rfl, .inl h⟩
      · exact ⟨y, .inr rfl, .inr h⟩
    · rintro ⟨p, (hp | hp), hq⟩
      · exact .inl ⟨p, hp, hq⟩
      · subst hp; exact .inr hq
theorem ofS_map {f : Int → Int} : ∀ r : List Step, (∀ x y, (∃ p ∈ r, x = p.1 ∨ x = p.2) → (∃ p ∈ r, y = p.1 ∨ y = p.2) → f x = f y → x = y) →
    ofS (r.map fun p => (f p.1, f p.2)) = (ofS r).map fun q => (q.1.map f, q.2) := by
  intro r
  refine snocI (P := fun r => (∀ x y, (∃ p ∈ r, x = p.1 ∨ x = p.2) → (∃ p ∈ r, y = p.1 ∨ y = p.2) → f x = f y → x = y) → ofS (r.map fun p => (f p.1, f p.2)) = (ofS r).map fun q => (q.1.map f, q.2)) (fun _ => rfl) (fun r z ih hf => ?_) r
  have ih' := ih (fun x y ⟨p, hp, h⟩ ⟨p', hp', h'⟩ => hf x y ⟨p, by simp [hp], h⟩ ⟨p', by simp [hp'], h'⟩)
  rw [List.map_append, List.map_cons, List.map_nil, ofS_snoc, ofS_snoc, ih']
  cases h1 : ofS r with
  | none => rfl
  | some q =>
    obtain ⟨ns, m⟩ := q
    have hm := ofS_mem _ _ _ h1
    have hin : ∀ x, (x ∈ ns ∨ x = z.1 ∨ x = z.2) → ∃ p ∈ r ++ [z], x = p.1 ∨ x = p.2 := by
      rintro x (h | h)
      · obtain ⟨p, hp, h⟩ := (hm x).1 h; exact ⟨p, by simp [hp], h⟩
      · exact ⟨z, by simp, h⟩
    have ha := add_map (f := f) (l := ns) (a := z.1) (b := z.2) (fun x y hx hy h => hf x y (hin x hx) (hin y hy) h)
    unfold ofT
    simp only [Option.map_some, Option.bind_some, ha]
    cases add ns z.1 z.2 with
    | none => rfl
    | some q => rfl
theorem idx_append {l t : List Int} {x : Int} (h : x ∈ l) : idx (l ++ t) x = idx l x := by
  unfold idx
  rw [List.findIdx_append]
  have := idx_lt.2 h
  unfold idx at this
  rw [if_pos this]
theorem idx_new {l : List Int} {x : Int} (h : x ∉ l) : idx l x = l.length := by
  rcases Nat.lt_or_ge (idx l x) l.length with h1 | h1
  · exact absurd (idx_lt.1 h1) h
  · exact Nat.le_antisymm (idx_le _ _) h1
/-- A step tells the places of its nodes. -/
theorem add_idx {l l' : List Int} {a b : Int} {s : Step} (h : add l a b = some (l', s)) : s = ((idx l' a : Int), (idx l' b : Int)) ∧ (∃ t, l' = l ++ t) ∧ a ≠ b := by
  unfold add at h
  split at h
  · rename_i h0
    subst h0
    split at h
    · rename_i hab
      injection h with h; injection h with h1 h2
      subst h1; subst h2
      refine ⟨?_, ⟨_, rfl⟩, hab⟩
      have e1 : idx [a, b] a = 0 := by simp [idx, List.findIdx_cons]
      have e2 : idx [a, b] b = 1 := by simp [idx, List.findIdx_cons, hab]
      rw [e1, e2]; rfl
    · cases h
  · split at h
    · cases h
    · rename_i h0 hne
      injection h with h; injection h with h1 h2
      subst h1; subst h2
      have hab : a ≠ b := fun e => hne (by rw [e])
      refine ⟨?_, ⟨_, by rw [List.append_assoc]⟩, hab⟩
      by_cases ha : a ∈ l
      · have ha' : idx l a ≠ l.length := Nat.ne_of_lt (idx_lt.2 ha)
        rw [if_neg ha', List.append_nil]
        by_cases hb : b ∈ l
        · rw [if_neg (Nat.ne_of_lt (idx_lt.2 hb)), List.append_nil]
        · rw [if_pos (idx_new hb), idx_append ha]
          have : idx (l ++ [b]) b = l.length := by
            have h1 := idx_new hb
            unfold idx at h1 ⊢
            rw [List.findIdx_append, if_neg (by omega)]
            simp [List.findIdx_cons]
          rw [this, idx_new hb]
      · rw [if_pos (idx_new ha)]
        have hb : b ∈ l := by
          rcases Decidable.em (b ∈ l) with hb | hb
          · exact hb
          · exact absurd ((idx_new ha).trans (idx_new hb).symm) hne
        rw [if_neg (Nat.ne_of_lt (idx_lt.2 hb)), List.append_nil, idx_append hb]
        have : idx (l ++ [a]) a = l.length := by
          have h1 := idx_new ha
          unfold idx at h1 ⊢
          rw [List.findIdx_append, if_neg (by omega)]
          simp [List.findIdx_cons]
        rw [this, idx_new ha]
/-- A motif is its pairs with other names. -/
theorem ofS_idx : ∀ r ns m, ofS r = some (ns, m) → m = r.map fun p => ((idx ns p.1 : Int), (idx ns p.2 : Int)) := by
  intro r
  refine snocI (P := fun r => ∀ ns m, ofS r = some (ns, m) → m = r.map fun p => ((idx ns p.1 : Int), (idx ns p.2 : Int))) (fun ns m h => ?_) (fun r y ih ns m h => ?_) r
  · cases h; rfl
  · rw [ofS_snoc] at h
    obtain ⟨ns0, m0, ns', s, h1, h2, h3⟩ := ofT_some h
    injection h3 with h3 h4
    subst h3
    obtain ⟨e1, ⟨t, e2⟩, _⟩ := add_idx h2
    rw [h4, List.map_append, List.map_cons, List.map_nil, ← e1, ih _ _ h1]
    congr 1
    refine List.map_congr_left fun p hp => ?_
    have hm := ofS_mem _ _ _ h1
    have k1 : p.1 ∈ ns0 := (hm _).2 ⟨p, hp, .inl rfl⟩
    have k2 : p.2 ∈ ns0 := (hm _).2 ⟨p, hp, .inr rfl⟩
    rw [e2, idx_append k1, idx_append k2]
/-- What is the motif of a list of pairs is the motif of its own steps, backwards too. -/
theorem ofL_rev {r : List Step} {m : List Step} (h : ofL r = some m) : ofL m.reverse = ofL r.reverse ∧ ofL m = some m := by
  rw [ofL_eq] at h
  cases h1 : ofS r with
  | none => rw [h1] at h; cases h
  | some q =>
    obtain ⟨ns, m'⟩ := q
    rw [h1] at h
    simp only [Option.map_some, Option.some.injEq] at h
    subst h
    have hm := ofS_mem _ _ _ h1
    have he := ofS_idx _ _ _ h1
    have hinj : ∀ x y : Int, (∃ p ∈ r, x = p.1 ∨ x = p.2) → (∃ p ∈ r, y = p.1 ∨ y = p.2) → ((idx ns x : Nat) : Int) = ((idx ns y : Nat) : Int) → x = y := fun x y hx hy h => idx_inj (by omega) ((hm x).2 hx)
    have h2 := ofS_map (f := fun x => ((idx ns x : Nat) : Int)) r hinj
    have h3 := ofS_map (f := fun x => ((idx ns x : Nat) : Int)) r.reverse (fun x y ⟨p, hp, hx⟩ ⟨p', hp', hy⟩ h => hinj x y ⟨p, by simpa using hp, hx⟩ ⟨p', by simpa using hp', hy⟩ h)
    rw [← he, h1] at h2
    rw [List.map_reverse, ← he] at h3
    constructor
    · rw [ofL_eq, ofL_eq, h3, Option.map_map]; rfl
    · rw [ofL_eq, h2]; rfl

/-- The time of tick i. -/
def tim (l : List Tick) (i : Nat) : Int := (l[i]?.map (·.t)).getD 0
/-- Indices that ascend, their times too, within the width. -/
def Good (l : List Tick) (w : Int) (a : List Nat) : Prop := (∀ i ∈ a, i < l.length) ∧ a.Pairwise (fun i j => i < j ∧ tim l i < tim l j) ∧ (∀ b, a.head? = some b → ∀ i ∈ a, tim l i - tim l b ≤ w)
def ends (l : List Tick) (a : List Nat) : List Step := a.map fun i => ((l[i]?.map (·.u)).getD 0, (l[i]?.map (·.v)).getD 0)
theorem nextB_good {l : List Tick} {w : Int} {a : List Nat} {x : Tick} {i : Nat} (hw : 0 ≤ w) (hl : ∀ y ∈ l, 0 ≤ y.t) (hx : l[i]? = some x) (hg : Good l w a) : nextB l w a x i = true ↔ Good l w (a ++ [i]) := by
  have hi := (List.getElem?_eq_some_iff.1 hx).1
  have ht : tim l i = x.t := by unfold tim; rw [hx]; rfl
  have h0 := hl x (List.mem_of_getElem? hx)
  obtain ⟨g1, g2, g3⟩ := hg
  unfold nextB
  cases ha : a.head? with
  | none =>
    rw [List.head?_eq_none_iff] at ha
    subst ha
    simp only [List.nil_append, decide_eq_true_eq]
    refine ⟨fun _ => ⟨by simpa using hi, by simp, fun b hb j hj => ?_⟩, fun _ => by omega⟩
    simp at hb hj; subst hb; subst hj; omega
  | some b =>
    have hne : a ≠ [] := by intro e; subst e; cases ha
    obtain ⟨c, hc⟩ : ∃ c, a.getLast? = some c := ⟨_, List.getLast?_eq_some_getLast hne⟩
    rw [hc]
    have hcm : c ∈ a := List.mem_of_getLast? hc
    have hbm : b ∈ a := List.mem_of_head? ha
    have e1 : ((l[b]?.map (·.t)).getD 0) = tim l b := rfl
    have e2 : ((l[c]?.map (·.t)).getD 0) = tim l c := rfl
    simp only [Bool.and_eq_true, decide_eq_true_eq, e1, e2, ← ht]
    constructor
    · rintro ⟨⟨k1, k2⟩, k3⟩
      refine ⟨fun j hj => ?_, ?_, fun b' hb' j hj => ?_⟩
      · rcases List.mem_append.1 hj with h | h
        · exact g1 j h
        · rw [List.mem_singleton] at h; omega
      · rw [List.pairwise_append]
        refine ⟨g2, by simp, fun j hj k hk => ?_⟩
        rw [List.mem_singleton] at hk
        subst hk
        have hlast : a = a.dropLast ++ [c] := by
          have := List.dropLast_concat_getLast hne
          rw [List.getLast?_eq_some_getLast hne] at hc
          injection hc with hc
          rw [← hc]; exact this.symm
        rw [hlast] at hj g2
        rcases List.mem_append.1 hj with h | h
        · have := (List.pairwise_append.1 g2).2.2 j h c (by simp)
          omega
        · rw [List.mem_singleton] at h; subst h; exact ⟨k1, k3⟩
      · rw [List.head?_append, ha] at hb'
        injection hb' with hb'; subst hb'
        rcases List.mem_append.1 hj with h | h
        · exact g3 b ha j h
        · rw [List.mem_singleton] at h; subst h; exact k2
    · rintro ⟨_, k2, k3⟩
      have h1 := (List.pairwise_append.1 k2).2.2 c hcm i (by simp)
      exact ⟨⟨h1.1, k3 b (by rw [List.head?_append, ha]; rfl) i (by simp)⟩, h1.2⟩
theorem Good.head {l : List Tick} {w : Int} {a b : List Nat} (h : Good l w (a ++ b)) : Good l w a := by
  obtain ⟨h1, h2, h3⟩ := h
  exact ⟨fun i hi => h1 i (by simp [hi]), (List.pairwise_append.1 h2).1, fun c hc i hi => h3 c (by rw [List.head?_append, hc]; rfl) i (by simp [hi])⟩
theorem ends_snoc {l : List Tick} {a : List Nat} {i : Nat} {x : Tick} (hx : l[i]? = some x) : ends l (a ++ [i]) = ends l a ++ [(x.u, x.v)] := by
  unfold ends; rw [List.map_append, List.map_cons, List.map_nil, hx]; rfl
/-- Which instances are found. -/
theorem mem_sub {l : List Tick} {w : Int} {fits : List Step → Bool} (hw : 0 ≤ w) (hl : ∀ y ∈ l, 0 ≤ y.t) : ∀ k at' m ns, Good l w at' → ofS (ends l at') = some (ns, m) → ∀ p : List Nat × List Step,
    p ∈ sub l w fits k at' m ns ↔ ∃ c ns', c.length = k ∧ p.1 = at' ++ c ∧ Good l w p.1 ∧ ofS (ends l p.1) = some (ns', p.2) ∧ ∀ j, at'.length < j → j ≤ p.1.length → fits (p.2.take j) = true := by
  intro k
  induction k with
  | zero =>
    intro at' m ns hg ho p
    constructor
    · intro h
      obtain rfl : p = (at', m) := by simpa [sub] using h
      exact ⟨[], ns, rfl, by simp, hg, ho, fun j h1 h2 => by simp only at h2; omega⟩
    · rintro ⟨c, ns', hc, h1, _, h3, _⟩
      have hc0 := List.eq_nil_of_length_eq_zero hc
      subst hc0
      rw [List.append_nil] at h1
      rw [h1, ho] at h3
      injection h3 with h3; injection h3 with h3 h4
      obtain ⟨p1, p2⟩ := p
      simp only at h1 h4
      subst h1; subst h4
      simp [sub]
  | succ k ih =>
    intro at' m ns hg ho p
    rw [sub_succ, List.mem_flatMap]
    have hml := ofS_len _ _ _ ho
    have hel : ∀ a, (ends l a).length = a.length := fun a => by simp [ends]
    rw [hel] at hml
    constructor
    · rintro ⟨i, hi, hp⟩
      unfold one at hp
      cases hx : l[i]? with
      | none => rw [hx] at hp; cases hp
      | some x =>
        rw [hx] at hp
        simp only at hp
        split at hp
        · rename_i hn
          cases hadd : add ns x.u x.v with
          | none => rw [hadd] at hp; cases hp
          | some q =>
            obtain ⟨ns1, s⟩ := q
            rw [hadd] at hp
            simp only at hp
            split at hp
            · rename_i hfit
              have hg' := (nextB_good hw hl hx hg).1 hn
              have ho' : ofS (ends l (at' ++ [i])) = some (ns1, m ++ [s]) := by
                rw [ends_snoc hx, ofS_snoc, ho]
                unfold ofT
                simp only [Option.bind_some, hadd, Option.map_some]
              obtain ⟨c, ns', hc, h1, h2, h3, h4⟩ := (ih _ _ _ hg' ho' p).1 hp
              refine ⟨i :: c, ns', by simp [hc], by rw [h1, List.append_assoc]; rfl, h2, h3, fun j hj1 hj2 => ?_⟩
              rcases Nat.lt_or_ge (at'.length + 1) j with h | h
              · exact h4 j (by simpa using h) hj2
              · obtain rfl : j = at'.length + 1 := by omega
                have hpre : ofS (ends l (at' ++ [i] ++ c)) = some (ns', p.2) := h1 ▸ h3
                have htake : p.2.take (at'.length + 1) = m ++ [s] := by
                  have e1 : ∀ c ns' q, ofS (ends l (at' ++ [i] ++ c)) = some (ns', q) → q.take (at'.length + 1) = m ++ [s] := by
                    intro c
                    refine snocI (P := fun c => ∀ ns' q, ofS (ends l (at' ++ [i] ++ c)) = some (ns', q) → q.take (at'.length + 1) = m ++ [s]) (fun ns' q h => ?_) (fun c y ihc ns' q h => ?_) c
                    · rw [List.append_nil, ho'] at h
                      injection h with h; injection h with _ h
                      rw [← h, List.take_of_length_le (by simp <;> omega)]
                    · rw [← List.append_assoc, show ends l (at' ++ [i] ++ c ++ [y]) = ends l (at' ++ [i] ++ c) ++ ends l [y] from by simp [ends], show ends l [y] = [((l[y]?.map (·.u)).getD 0, (l[y]?.map (·.v)).getD 0)] from rfl, ofS_snoc] at h
                      obtain ⟨ns0, m0, ns2, s2, k1, k2, k3⟩ := ofT_some h
                      injection k3 with _ k3
                      have hl0 := ofS_len _ _ _ k1
                      rw [hel] at hl0
                      rw [k3, List.take_append_of_le_length (by rw [hl0]; simp <;> omega)]
                      exact ihc _ _ k1
                  exact e1 c ns' p.2 hpre
                rw [htake]; exact hfit
            · cases hp
        · cases hp
    · rintro ⟨c, ns', hc, h1, h2, h3, h4⟩
      obtain ⟨i, c', rfl⟩ : ∃ i c', c = i :: c' := by
        cases c with
        | nil => simp at hc
        | cons i c' => exact ⟨i, c', rfl⟩
      have hpa : p.1 = (at' ++ [i]) ++ c' := by rw [h1, List.append_assoc]; rfl
      have hg' : Good l w (at' ++ [i]) := (hpa ▸ h2).head
      have hi := hg'.1 i (by simp)
      have hx : l[i]? = some l[i] := List.getElem?_eq_getElem hi
      -- the names behind this step
      have hstep : ∀ c ns' q, ofS (ends l (at' ++ [i] ++ c)) = some (ns', q) → ∃ ns1 s, add ns l[i].u l[i].v = some (ns1, s) ∧ q.take (at'.length + 1) = m ++ [s] := by
        intro c
        refine snocI (P := fun c => ∀ ns' q, ofS (ends l (at' ++ [i] ++ c)) = some (ns', q) → ∃ ns1 s, add ns l[i].u l[i].v = some (ns1, s) ∧ q.take (at'.length + 1) = m ++ [s]) (fun ns' q h => ?_) (fun c y ihc ns' q h => ?_) c
        · rw [List.append_nil, ends_snoc hx, ofS_snoc, ho] at h
          obtain ⟨ns0, m0, ns2, s2, k1, k2, k3⟩ := ofT_some h
          injection k1 with k1; injection k1 with k1 k1'
          subst k1; subst k1'
          injection k3 with _ k3
          exact ⟨ns2, s2, k2, by rw [k3, List.take_of_length_le (by simp <;> omega)]⟩
        · rw [← List.append_assoc, show ends l (at' ++ [i] ++ c ++ [y]) = ends l (at' ++ [i] ++ c) ++ ends l [y] from by simp [ends], show ends l [y] = [((l[y]?.map (·.u)).getD 0, (l[y]?.map (·.v)).getD 0)] from rfl, ofS_snoc] at h
          obtain ⟨ns0, m0, ns2, s2, k1, k2, k3⟩ := ofT_some h
          injection k3 with _ k3
          obtain ⟨ns1, s, e1, e2⟩ := ihc _ _ k1
          have hl0 := ofS_len _ _ _ k1
          rw [hel] at hl0
          exact ⟨ns1, s, e1, by rw [k3, List.take_append_of_le_length (by rw [hl0]; simp <;> omega)]; exact e2⟩
      obtain ⟨ns1, s, e1, e2⟩ := hstep c' ns' p.2 (hpa ▸ h3)
      refine ⟨i, List.mem_range.2 hi, ?_⟩
      unfold one
      rw [hx]
      simp only
      rw [if_pos ((nextB_good hw hl hx hg).2 hg'), e1]
      simp only
      have hfit := h4 (at'.length + 1) (by omega) (by rw [hpa, List.length_append, List.length_append, List.length_singleton]; omega)
      rw [e2] at hfit
      rw [if_pos hfit]
      have ho' : ofS (ends l (at' ++ [i])) = some (ns1, m ++ [s]) := by
        rw [ends_snoc hx, ofS_snoc, ho]
        unfold ofT
        simp only [Option.bind_some, e1, Option.map_some]
      refine (ih _ _ _ hg' ho' p).2 ⟨c', ns', by simpa using hc, hpa, h2, h3, fun j hj1 hj2 => h4 j (by rw [List.length_append, List.length_singleton] at hj1; omega) hj2⟩
end CoMot
