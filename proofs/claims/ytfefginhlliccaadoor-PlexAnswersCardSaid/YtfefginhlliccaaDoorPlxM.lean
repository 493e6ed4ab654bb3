/- Plain law of the search for maximal k-plexes: what it finds are the maximal ones, in order. -/
import Derived.Test.YtfefginhlliccaaDoorSetB
set_option linter.unusedVariables false
set_option linter.unusedSimpArgs false
namespace Go.Proofs.YtfefginhlliccaaDoor.Pl

/-- The lists that begin with p and go on, ascending, among L; p itself is not among them. -/
def ext : List Nat → List Nat → List (List Nat)
  | _, [] => []
  | p, v :: L => ((p ++ [v]) :: ext (p ++ [v]) L) ++ ext p L
/-- With p. -/
def lx (p L : List Nat) : List (List Nat) := p :: ext p L
theorem ext_cons (p : List Nat) (v : Nat) (L : List Nat) : ext p (v :: L) = lx (p ++ [v]) L ++ ext p L := rfl
theorem mem_ext {S : List Nat} : ∀ {L p : List Nat}, S ∈ ext p L → ∃ T, T ≠ [] ∧ S = p ++ T ∧ T.Sublist L := by
  intro L
  induction L with
  | nil => intro p h; simp [ext] at h
  | cons v L ih =>
    intro p h
    rw [ext, List.mem_append, List.mem_cons] at h
    rcases h with (h | h) | h
    · exact ⟨[v], by simp, h, (List.nil_sublist L).cons_cons v⟩
    · obtain ⟨T, h1, h2, h3⟩ := ih h
      exact ⟨v :: T, by simp, by rw [h2]; simp, h3.cons_cons v⟩
    · obtain ⟨T, h1, h2, h3⟩ := ih h
      exact ⟨T, h1, h2, h3.cons v⟩
theorem ext_of {T : List Nat} : ∀ {L : List Nat} (p : List Nat), T.Sublist L → T ≠ [] → p ++ T ∈ ext p L := by
  intro L
  induction L generalizing T with
  | nil => intro p h hn; rw [List.sublist_nil] at h; exact absurd h hn
  | cons v L ih =>
    intro p h hn
    rw [ext, List.mem_append, List.mem_cons]
    cases h with
    | cons _ h => exact .inr (ih p h hn)
    | cons_cons _ h =>
      rename_i T
      by_cases hT : T = []
      · subst hT; exact .inl (.inl rfl)
      · refine .inl (.inr ?_)
        have := ih (p ++ [v]) h hT
        simpa using this
theorem mem_lx {p L S : List Nat} : S ∈ lx p L ↔ ∃ T, S = p ++ T ∧ T.Sublist L := by
  unfold lx
  rw [List.mem_cons]
  constructor
  · rintro (rfl | h)
    · exact ⟨[], by simp, List.nil_sublist _⟩
    · obtain ⟨T, _, h2, h3⟩ := mem_ext h
      exact ⟨T, h2, h3⟩
  · rintro ⟨T, rfl, h⟩
    by_cases hT : T = []
    · left; simp [hT]
    · exact .inr (ext_of p h hT)

/-- How many of S are joined to v. -/
def dgs (a : Nat → Nat → Bool) (S : List Nat) (v : Nat) : Nat := (S.filter (a v)).length
/-- S is a k-plex. -/
def plx (a : Nat → Nat → Bool) (k : Nat) (S : List Nat) : Prop := ∀ v ∈ S, S.length ≤ dgs a S v + k
instance (a : Nat → Nat → Bool) (k : Nat) (S : List Nat) : Decidable (plx a k S) := inferInstanceAs (Decidable (∀ v ∈ S, S.length ≤ dgs a S v + k))
theorem dgs_perm {a : Nat → Nat → Bool} {S S' : List Nat} (h : S.Perm S') (v : Nat) : dgs a S v = dgs a S' v := (h.filter _).length_eq
theorem plx_perm {a : Nat → Nat → Bool} {k : Nat} {S S' : List Nat} (h : S.Perm S') : plx a k S ↔ plx a k S' := by
  unfold plx
  constructor
  · intro hp v hv; rw [← h.length_eq, ← dgs_perm h]; exact hp v (h.mem_iff.2 hv)
  · intro hp v hv; rw [h.length_eq, dgs_perm h]; exact hp v (h.mem_iff.1 hv)
theorem plx_sub {a : Nat → Nat → Bool} {k : Nat} {S T : List Nat} (h : T.Sublist S) (hp : plx a k S) : plx a k T := by
  intro v hv
  have h1 := hp v (h.subset hv)
  have key : ∀ {T S : List Nat}, T.Sublist S → dgs a S v ≤ dgs a T v + (S.length - T.length) ∧ T.length ≤ S.length := by
    intro T S h
    induction h with
    | slnil => simp [dgs]
    | cons x h ih =>
      obtain ⟨h2, h3⟩ := ih
      simp only [List.length_cons]; unfold dgs at *; rw [List.filter_cons]; split <;> (try simp only [List.length_cons]) <;> omega
    | cons_cons x h ih =>
      obtain ⟨h2, h3⟩ := ih
      simp only [List.length_cons]; unfold dgs at *; rw [List.filter_cons, List.filter_cons]; split <;> (try simp only [List.length_cons]) <;> omega
  obtain ⟨h2, h3⟩ := key h
  omega
/-- S is a maximal k-plex of the nodes below n. -/
def mxl (a : Nat → Nat → Bool) (n k : Nat) (S : List Nat) : Prop := S ≠ [] ∧ plx a k S ∧ ∀ v, v < n → v ∉ S → ¬ plx a k (v :: S)
instance (a : Nat → Nat → Bool) (n k : Nat) (S : List Nat) : Decidable (mxl a n k S) := inferInstanceAs (Decidable (_ ∧ _ ∧ _))
/-- A node that is joined to all of S can be added. -/
theorem plx_join {a : Nat → Nat → Bool} {k v : Nat} {S : List Nat} (hs : ∀ u w, a u w = a w u) (hi : a v v = false) (hk : 1 ≤ k) (hp : plx a k S) (hv : ∀ u ∈ S, a v u = true) : plx a k (v :: S) := by
  intro u hu
  rw [List.mem_cons] at hu
  rcases hu with rfl | hu
  · have : dgs a (u :: S) u = S.length := by
      unfold dgs
      rw [List.filter_cons, if_neg (by rw [hi]; simp), List.filter_eq_self.2 hv]
    rw [this]; simp only [List.length_cons]; omega
  · have h1 := hp u hu
    have : dgs a (v :: S) u = dgs a S u + 1 := by
      unfold dgs
      rw [List.filter_cons, if_pos (by rw [hs]; exact hv u hu)]; rfl
    rw [this]; simp only [List.length_cons]; omega

/-! ### The search -/
section
variable (a : Nat → Nat → Bool) (n k least : Nat) (after : List Int)
/-- The list as the program has it. -/
def nt (S : List Nat) : List Int := S.map Int.ofNat
/-- No other node can be added. -/
def clo (S : List Nat) : Bool := (List.range n).all fun v => decide (v ∈ S) || !decide (plx a k (v :: S))
def big (S : List Nat) : Bool := decide (least ≤ S.length) && decide (0 < S.length)
def hop (p L lf : List Nat) : Bool := lf.any fun v => (p ++ L).all fun u => a v u
def cut (p L lf : List Nat) : Bool := decide (p.length + L.length < least) || hop a p L lf
/-- What is handed out at p. -/
def ownL (p : List Nat) (t : Bool) : List (List Nat) := if big least p && !(t && decide (p.length ≤ after.length)) && clo a n k p then [p] else []
def hereB (p : List Nat) (t : Bool) : Bool := t && decide (p.length < after.length)
def skipB (p : List Nat) (t : Bool) (v : Nat) : Bool := (hereB after p t && decide ((v : Int) < after.getD p.length 0)) || !decide (plx a k (p ++ [v]))
def nextB (p : List Nat) (t : Bool) (v : Nat) : Bool := hereB after p t && decide ((v : Int) = after.getD p.length 0)
/-- What the loop over the nodes L hands out, p having been taken, lf left out. -/
def loopL : List Nat → List Nat → List Nat → Bool → List (List Nat)
  | [], _, _, _ => []
  | v :: L, p, lf, t => (if skipB a k after p t v then [] else
      ownL a n k least after (p ++ [v]) (nextB after p t v) ++ (if cut a least (p ++ [v]) L lf then [] else loopL L (p ++ [v]) lf (nextB after p t v))) ++ loopL L p (lf ++ [v]) t
/-- What a call hands out. -/
def nodeL (L p lf : List Nat) (t : Bool) : List (List Nat) := ownL a n k least after p t ++ (if cut a least p L lf then [] else loopL a n k least after L p lf t)
end
section
variable {a : Nat → Nat → Bool} {n k least : Nat} {after : List Int}
theorem loopL_cons (v : Nat) (L p lf : List Nat) (t : Bool) : loopL a n k least after (v :: L) p lf t = (if skipB a k after p t v then [] else nodeL a n k least after L (p ++ [v]) lf (nextB after p t v)) ++ loopL a n k least after L p (lf ++ [v]) t := rfl
/-- What is looked for. -/
def want (a : Nat → Nat → Bool) (n k least : Nat) (S : List Nat) : Bool := decide (least ≤ S.length) && decide (mxl a n k S)
def gt (after : List Int) (S : List Nat) : Bool := decide (0 < cmpL (nt S) after)
theorem nt_append (p T : List Nat) : nt (p ++ T) = nt p ++ nt T := List.map_append
theorem nt_length (p : List Nat) : (nt p).length = p.length := List.length_map _
/-- What tight says. -/
def Tgt (after : List Int) (p : List Nat) (t : Bool) : Prop := if t = true then ∃ R, after = nt p ++ R else ∀ T, cmpL (nt p ++ T) after = 1
theorem cmp_same (p x y : List Int) : cmpL (p ++ x) (p ++ y) = cmpL x y := by
  induction p with
  | nil => rfl
  | cons c p ih => simp only [List.cons_append, cmpL]; rw [if_neg (by omega), if_neg (by omega), ih]
theorem clo_iff {S : List Nat} : clo a n k S = true ↔ ∀ v, v < n → v ∉ S → ¬ plx a k (v :: S) := by
  unfold clo
  rw [List.all_eq_true]
  constructor
  · intro h v hv hn hp
    have := h v (List.mem_range.2 hv)
    simp [hn, hp] at this
  · intro h v hv
    by_cases hm : v ∈ S
    · simp [hm]
    · simp [hm, h v (List.mem_range.1 hv) hm]
theorem own_eq {p : List Nat} {t : Bool} (ht : Tgt after p t) (hp : plx a k p) : ownL a n k least after p t = [p].filter (fun S => want a n k least S && (decide (S ≠ []) && gt after S)) := by
  have hgt : t = false → gt after p = true := fun h => by
    unfold Tgt at ht; rw [if_neg (by rw [h]; simp)] at ht
    have := ht []
    rw [List.append_nil] at this
    unfold gt; rw [this]; rfl
  have hng : t = true → p.length ≤ after.length ∧ gt after p = false := fun h => by
    unfold Tgt at ht; rw [if_pos h] at ht
    obtain ⟨R, hR⟩ := ht
    refine ⟨by rw [hR, List.length_append, nt_length]; omega, ?_⟩
    unfold gt; rw [hR]
    have := cmp_same (nt p) [] R
    rw [List.append_nil] at this
    rw [this]
    cases R <;> rfl
  have hm : mxl a n k p ↔ p ≠ [] ∧ clo a n k p = true := ⟨fun h => ⟨h.1, clo_iff.2 h.2.2⟩, fun h => ⟨h.1, hp, clo_iff.1 h.2⟩⟩
  unfold ownL want big
  rw [List.filter_cons, List.filter_nil]
  cases t with
  | true =>
    obtain ⟨h1, h2⟩ := hng rfl
    rw [h2]; simp [h1]
  | false =>
    rw [hgt rfl]
    by_cases h0 : p = []
    · subst h0; simp
    · have h0' : 0 < p.length := List.length_pos_iff.2 h0
      by_cases hc : clo a n k p = true
      · rw [hc, decide_eq_true (hm.2 ⟨h0, hc⟩), decide_eq_true h0, decide_eq_true h0']
        simp
      · rw [decide_eq_false (fun h => hc (hm.1 h).2)]
        rw [Bool.not_eq_true] at hc
        rw [hc]; simp
/-- Where the search is cut nothing would be found. -/
theorem cut_none {p L lf : List Nat} (hs : ∀ u w, a u w = a w u) (hi : ∀ u, a u u = false) (hk : 1 ≤ k) (hlf : ∀ v ∈ lf, v < n ∧ v ∉ p ∧ v ∉ L) (h : cut a least p L lf = true) : ∀ S ∈ ext p L, want a n k least S = false := by
  intro S hS
  obtain ⟨T, hT, rfl, hsub⟩ := mem_ext hS
  unfold cut at h
  rw [Bool.or_eq_true, decide_eq_true_iff] at h
  unfold want
  rcases h with h | h
  · have := hsub.length_le
    rw [decide_eq_false (by rw [List.length_append]; omega)]; rfl
  · unfold hop at h
    rw [List.any_eq_true] at h
    obtain ⟨v, hv, hall⟩ := h
    rw [List.all_eq_true] at hall
    obtain ⟨h1, h2, h3⟩ := hlf v hv
    have : ¬ mxl a n k (p ++ T) := fun ⟨_, hp, hm⟩ => by
      refine hm v h1 ?_ (plx_join hs (hi v) hk hp fun u hu => hall u ?_)
      · rw [List.mem_append]; rintro (h | h)
        · exact h2 h
        · exact h3 (hsub.subset h)
      · rw [List.mem_append] at hu ⊢
        exact hu.elim .inl fun h => .inr (hsub.subset h)
    rw [decide_eq_false this]; simp
theorem filter_none {α : Type} {l : List α} {f : α → Bool} (h : ∀ x ∈ l, f x = false) : l.filter f = [] := List.filter_eq_nil_iff.2 fun x hx => by rw [h x hx]; simp
theorem want_pre {p L : List Nat} (hp : ¬ plx a k p) : ∀ S ∈ lx p L, want a n k least S = false := fun S hS => by
  obtain ⟨T, rfl, _⟩ := mem_lx.1 hS
  have : ¬ mxl a n k (p ++ T) := fun h => hp (plx_sub (List.sublist_append_left _ _) h.2.1)
  unfold want; rw [decide_eq_false this]; simp
theorem tgt_next {p : List Nat} {t : Bool} (ht : Tgt after p t) (v : Nat) (hs : ¬ (hereB after p t && decide ((v : Int) < after.getD p.length 0)) = true) : Tgt after (p ++ [v]) (nextB after p t v) := by
  unfold nextB
  unfold hereB at *
  cases t with
  | false =>
    unfold Tgt at *
    rw [if_neg (by simp)] at ht ⊢
    intro T
    rw [nt_append, List.append_assoc]; exact ht _
  | true =>
    unfold Tgt at ht
    rw [if_pos rfl] at ht
    obtain ⟨R, rfl⟩ := ht
    have hl : (nt p).length = p.length := nt_length p
    cases R with
    | nil =>
      rw [List.append_nil, hl]
      unfold Tgt
      rw [if_neg (by simp)]
      intro T
      have := cmp_same (nt p) (nt [v] ++ T) []
      rw [List.append_nil] at this
      rw [nt_append, List.append_assoc, this]; rfl
    | cons x R =>
      have hx : (nt p ++ x :: R).getD p.length 0 = x := by
        rw [List.getD_eq_getElem?_getD, List.getElem?_append_right (by omega), hl, Nat.sub_self]; rfl
      have hlt : p.length < (nt p ++ x :: R).length := by rw [List.length_append, hl]; simp
      rw [hx] at hs ⊢
      simp only [Bool.true_and, hlt, decide_true, decide_eq_true_eq] at hs ⊢
      unfold Tgt
      by_cases he : (v : Int) = x
      · rw [decide_eq_true he, if_pos rfl]
        exact ⟨R, by rw [nt_append, ← he]; simp [nt]⟩
      · rw [decide_eq_false he, if_neg (by simp)]
        intro T
        rw [nt_append, List.append_assoc, cmp_same]
        show (if x < (v : Int) then (1 : Int) else if (v : Int) < x then -1 else _) = 1
        rw [if_pos (by omega)]
theorem skip_low {p L : List Nat} {t : Bool} (ht : Tgt after p t) {v : Nat} (hs : (hereB after p t && decide ((v : Int) < after.getD p.length 0)) = true) : ∀ S ∈ lx (p ++ [v]) L, gt after S = false := fun S hS => by
  obtain ⟨T, rfl, _⟩ := mem_lx.1 hS
  unfold hereB at hs
  simp only [Bool.and_eq_true, decide_eq_true_eq] at hs
  obtain ⟨⟨rfl, hl⟩, hv⟩ := hs
  unfold Tgt at ht
  rw [if_pos rfl] at ht
  obtain ⟨R, rfl⟩ := ht
  have hl' : (nt p).length = p.length := nt_length p
  cases R with
  | nil => rw [List.append_nil, hl'] at hl; omega
  | cons x R =>
    have hx : (nt p ++ x :: R).getD p.length 0 = x := by
      rw [List.getD_eq_getElem?_getD, List.getElem?_append_right (by omega), hl', Nat.sub_self]; rfl
    rw [hx] at hv
    unfold gt
    rw [nt_append, nt_append, List.append_assoc, cmp_same]
    show decide (0 < (if x < (v : Int) then (1 : Int) else if (v : Int) < x then -1 else _)) = false
    rw [if_neg (by omega), if_pos hv]; rfl
/-- The loop finds all that is wanted and lies behind. -/
theorem loop_eq (hs : ∀ u w, a u w = a w u) (hi : ∀ u, a u u = false) (hk : 1 ≤ k) : ∀ (L p lf : List Nat) (t : Bool), (p ++ L).Nodup → (∀ v ∈ L, v < n) → (∀ v ∈ lf, v < n ∧ v ∉ p ∧ v ∉ L) → Tgt after p t → plx a k p →
    loopL a n k least after L p lf t = (ext p L).filter fun S => want a n k least S && (decide (S ≠ []) && gt after S) := by
  intro L
  induction L with
  | nil => intros; rfl
  | cons v L ih =>
    intro p lf t hnd hn hlf ht hp
    have hvL : v ∉ L := fun h => by
      have := (List.nodup_append.1 hnd).2.1
      exact (List.nodup_cons.1 this).1 h
    have hvp : v ∉ p := fun h => (List.nodup_append.1 hnd).2.2 v h v List.mem_cons_self rfl
    have hnd1 : (p ++ L).Nodup := hnd.sublist (List.Sublist.append_left (List.sublist_cons_self v L) p)
    have hnd2 : (p ++ [v] ++ L).Nodup := by simpa using hnd
    rw [loopL_cons, ext_cons, List.filter_append, ih p (lf ++ [v]) t hnd1 (fun u hu => hn u (List.mem_cons_of_mem _ hu)) (fun u hu => by
      rw [List.mem_append, List.mem_singleton] at hu
      rcases hu with hu | rfl
      · obtain ⟨h1, h2, h3⟩ := hlf u hu; exact ⟨h1, h2, fun h => h3 (List.mem_cons_of_mem _ h)⟩
      · exact ⟨hn u List.mem_cons_self, hvp, hvL⟩) ht hp]
    congr 1
    by_cases hsk : skipB a k after p t v = true
    · rw [if_pos hsk]
      refine (filter_none fun S hS => ?_).symm
      unfold skipB at hsk
      rw [Bool.or_eq_true] at hsk
      rcases hsk with h | h
      · rw [skip_low ht h S hS]; simp
      · have h' : ¬ plx a k (p ++ [v]) := by simpa using h
        rw [want_pre h' S hS]; simp
    · rw [if_neg hsk]
      unfold skipB at hsk
      rw [Bool.or_eq_true, not_or] at hsk
      obtain ⟨h1, h2⟩ := hsk
      have hp' : plx a k (p ++ [v]) := by simpa using h2
      have ht' := tgt_next ht v h1
      unfold nodeL lx
      rw [List.filter_cons, own_eq ht' hp', List.filter_cons, List.filter_nil]
      have hlf' : ∀ u ∈ lf, u < n ∧ u ∉ p ++ [v] ∧ u ∉ L := fun u hu => by
        obtain ⟨h1, h2, h3⟩ := hlf u hu
        refine ⟨h1, fun h => ?_, fun h => h3 (List.mem_cons_of_mem _ h)⟩
        rw [List.mem_append, List.mem_singleton] at h
        rcases h with h | rfl
        · exact h2 h
        · exact h3 List.mem_cons_self
      have hrest : (if cut a least (p ++ [v]) L lf = true then [] else loopL a n k least after L (p ++ [v]) lf (nextB after p t v)) = (ext (p ++ [v]) L).filter fun S => want a n k least S && (decide (S ≠ []) && gt after S) := by
        by_cases hc : cut a least (p ++ [v]) L lf = true
        · rw [if_pos hc]
          exact (filter_none fun S hS => by rw [cut_none hs hi hk hlf' hc S hS]; simp).symm
        · rw [if_neg hc]
          exact ih (p ++ [v]) lf _ hnd2 (fun u hu => hn u (List.mem_cons_of_mem _ hu)) hlf' ht' hp'
      rw [hrest]
      split <;> rfl
theorem want_ne {S : List Nat} (h : want a n k least S = true) : S ≠ [] := by
  unfold want at h
  rw [Bool.and_eq_true, decide_eq_true_eq, decide_eq_true_eq] at h
  exact h.2.1
theorem tgt_nil : Tgt after [] true := ⟨after, rfl⟩
theorem plx_nil : plx a k [] := fun v h => by simp at h
/-- The whole search. -/
theorem node_eq (hs : ∀ u w, a u w = a w u) (hi : ∀ u, a u u = false) (hk : 1 ≤ k) (L : List Nat) (hnd : L.Nodup) (hn : ∀ v ∈ L, v < n) :
    nodeL a n k least after L [] [] true = (lx [] L).filter fun S => want a n k least S && gt after S := by
  have hfil : ∀ l : List (List Nat), l.filter (fun S => want a n k least S && (decide (S ≠ []) && gt after S)) = l.filter fun S => want a n k least S && gt after S := fun l => by
    refine List.filter_congr fun S _ => ?_
    by_cases hw : want a n k least S = true
    · rw [hw, decide_eq_true (want_ne hw)]; rfl
    · rw [Bool.not_eq_true] at hw; rw [hw]; rfl
  rw [← hfil]
  unfold nodeL lx
  rw [List.filter_cons, own_eq tgt_nil plx_nil, List.filter_cons, List.filter_nil]
  have hrest : (if cut a least [] L [] = true then [] else loopL a n k least after L [] [] true) = (ext [] L).filter fun S => want a n k least S && (decide (S ≠ []) && gt after S) := by
    by_cases hc : cut a least [] L [] = true
    · rw [if_pos hc]
      exact (filter_none fun S hS => by rw [cut_none hs hi hk (by simp) hc S hS]; simp).symm
    · rw [if_neg hc]
      exact loop_eq hs hi hk L [] [] true hnd hn (by simp) tgt_nil plx_nil
  rw [hrest]
  split <;> rfl
/-- Leaving out nodes that no wanted list has. -/
theorem ext_filter {P : List Nat → Bool} {c : Nat → Bool} (h : ∀ S, P S = true → ∀ x ∈ S, c x = true) : ∀ (L p : List Nat), (ext p (L.filter c)).filter P = (ext p L).filter P := by
  intro L
  induction L with
  | nil => intro p; rfl
  | cons v L ih =>
    intro p
    rw [List.filter_cons]
    split
    · rw [ext, ext, List.filter_append, List.filter_append, List.filter_cons, List.filter_cons, ih, ih]
    · rename_i hc
      rw [ih, ext_cons, List.filter_append, filter_none (l := lx (p ++ [v]) L), List.nil_append]
      intro S hS
      obtain ⟨T, rfl, _⟩ := mem_lx.1 hS
      cases hP : P (p ++ [v] ++ T) with
      | false => rfl
      | true => exact absurd (h _ hP v (by simp)) hc
theorem lx_filter {P : List Nat → Bool} {c : Nat → Bool} (h : ∀ S, P S = true → ∀ x ∈ S, c x = true) (L p : List Nat) : (lx p (L.filter c)).filter P = (lx p L).filter P := by
  unfold lx
  rw [List.filter_cons, List.filter_cons, ext_filter h]
/-- In order. -/
theorem ext_sorted : ∀ (L p : List Nat), L.Pairwise (· < ·) → (ext p L).Pairwise fun S T => cmpL (nt S) (nt T) = -1 := by
  intro L
  induction L with
  | nil => intro p _; exact List.Pairwise.nil
  | cons v L ih =>
    intro p h
    obtain ⟨h1, h2⟩ := List.pairwise_cons.1 h
    rw [ext, List.pairwise_append, List.pairwise_cons]
    refine ⟨⟨fun S hS => ?_, ih _ h2⟩, ih _ h2, fun S hS T hT => ?_⟩
    · obtain ⟨T, hT, rfl, _⟩ := mem_ext hS
      have := cmp_same (nt (p ++ [v])) [] (nt T)
      rw [List.append_nil] at this
      rw [nt_append (p ++ [v]) T, this]
      cases T with
      | nil => exact absurd rfl hT
      | cons x T => rfl
    · have hS' : ∃ S', S = p ++ v :: S' := by
        rw [List.mem_cons] at hS
        rcases hS with rfl | hS
        · exact ⟨[], rfl⟩
        · obtain ⟨S', _, rfl, _⟩ := mem_ext hS
          exact ⟨S', by simp⟩
      obtain ⟨S', rfl⟩ := hS'
      obtain ⟨T', hT', rfl, hsub⟩ := mem_ext hT
      rw [nt_append, nt_append, cmp_same]
      cases T' with
      | nil => exact absurd rfl hT'
      | cons x T' =>
        have : v < x := h1 x (hsub.subset List.mem_cons_self)
        show (if (x : Int) < (v : Int) then (1 : Int) else if (v : Int) < (x : Int) then -1 else _) = -1
        rw [if_neg (by omega), if_pos (by omega)]
theorem lx_sorted {L : List Nat} (h : L.Pairwise (· < ·)) : (lx [] L).Pairwise fun S T => cmpL (nt S) (nt T) = -1 := by
  unfold lx
  rw [List.pairwise_cons]
  refine ⟨fun S hS => ?_, ext_sorted L [] h⟩
  obtain ⟨T, hT, e, _⟩ := mem_ext hS
  rw [List.nil_append] at e
  subst e
  cases S with
  | nil => exact absurd rfl hT
  | cons x S => rfl
end
end Go.Proofs.YtfefginhlliccaaDoor.Pl
