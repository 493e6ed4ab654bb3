/- Printed by merge.py from CltM, CltA, CltB. -/
import Derived.Test.YtknlmgcbdcepnaaDoorCliB
import Derived.Test.YtknlmgcbdcepnaaDoorCliS
import Derived.Test.YtknlmgcbdcepnaaDoorSrtM
/- Plain laws of CliquecountAnswers: what the reference's recursion counts, for each node and each edge. -/
set_option linter.unusedVariables false
set_option linter.unusedSimpArgs false
namespace CoCli

/-- v is joined to all of p. -/
def fitA (a : Nat → Nat → Bool) (p : List Nat) (v : Nat) : Bool := p.all fun u => a u v
/-- The weights of the cliques that begin with p and have k nodes more, of the list L, added up. -/
def rg (a : Nat → Nat → Bool) (f : List Nat → Nat) : Nat → List Nat → List Nat → Nat
  | 0, _, p => f p
  | k + 1, L, p => tsum (fun v T => if fitA a p v = true then rg a f k T (p ++ [v]) else 0) L
section
variable {a : Nat → Nat → Bool}
theorem rg_zero (f : List Nat → Nat) (L p : List Nat) : rg a f 0 L p = f p := rfl
theorem rg_nil (f : List Nat → Nat) (k : Nat) (p : List Nat) : rg a f (k + 1) [] p = 0 := rfl
theorem rg_cons (f : List Nat → Nat) (k v : Nat) (L p : List Nat) : rg a f (k + 1) (v :: L) p = (if fitA a p v = true then rg a f k L (p ++ [v]) else 0) + rg a f (k + 1) L p := rfl
theorem fit_push (p : List Nat) (v x : Nat) : fitA a (p ++ [v]) x = (fitA a p x && a v x) := by unfold fitA; simp
/-- Without weights: the cliques among those joined to all. -/
theorem rg_one : ∀ (k : Nat) (L p : List Nat), rg a (fun _ => 1) k L p = cl a k (L.filter (fitA a p)) := by
  intro k
  induction k with
  | zero => intro L p; rfl
  | succ k ih =>
    intro L p
    induction L with
    | nil => rfl
    | cons v L ihL =>
      rw [rg_cons, ihL, List.filter_cons]
      by_cases h : fitA a p v = true
      · rw [if_pos h, if_pos h, cl_cons, ih, List.filter_filter]
        congr 2
        refine List.filter_congr fun x _ => ?_
        rw [fit_push, Bool.and_comm]
      · rw [if_neg h, if_neg h, Nat.zero_add]
/-- The weights that leave out the nodes with c. -/
theorem rg_out (c : Nat → Bool) : ∀ (k : Nat) (L p : List Nat), rg a (fun S => if S.all (fun x => !c x) = true then 1 else 0) k L p = if p.all (fun x => !c x) = true then rg a (fun _ => 1) k (L.filter fun x => !c x) p else 0 := by
  intro k
  induction k with
  | zero => intro L p; rw [rg_zero, rg_zero]
  | succ k ih =>
    intro L p
    induction L with
    | nil => rw [rg_nil, List.filter_nil, rg_nil]; simp
    | cons v L ihL =>
      rw [rg_cons, ihL, ih, List.filter_cons]
      have e : (p ++ [v]).all (fun x => !c x) = (p.all (fun x => !c x) && !c v) := by simp
      rw [e]
      by_cases hp : p.all (fun x => !c x) = true
      · rw [if_pos hp, hp, Bool.true_and]
        cases hv : c v with
        | true => simp
        | false => simp only [Bool.not_false, if_true]; rw [rg_cons]
      · rw [if_neg hp]
        rw [Bool.not_eq_true] at hp
        rw [hp]; simp
theorem rg_add (f g h : List Nat → Nat) (he : ∀ S, f S + g S = h S) : ∀ (k : Nat) (L p : List Nat), rg a f k L p + rg a g k L p = rg a h k L p := by
  intro k
  induction k with
  | zero => intro L p; exact he p
  | succ k ih =>
    intro L p
    induction L with
    | nil => rfl
    | cons v L ihL =>
      rw [rg_cons, rg_cons, rg_cons, ← ihL]
      by_cases h : fitA a p v = true
      · rw [if_pos h, if_pos h, if_pos h, ← ih]; omega
      · rw [if_neg h, if_neg h, if_neg h]; omega
theorem filter_fit_nil (L : List Nat) : L.filter (fitA a []) = L := List.filter_eq_self.2 fun x _ => rfl
/-- The cliques that have a node. -/
theorem rg_node (hs : ∀ u v, a u v = a v u) (hi : ∀ u, a u u = false) (k : Nat) {L : List Nat} (hn : L.Nodup) {x : Nat} (hx : x ∈ L) : rg a (fun S => if x ∈ S then 1 else 0) (k + 1) L [] = cl a k (L.filter (a x)) := by
  have h1 := rg_add (a := a) (fun S => if x ∈ S then 1 else 0) (fun S => if S.all (fun y => !(decide (y = x))) = true then 1 else 0) (fun _ => 1) (fun S => by
    by_cases h : x ∈ S
    · rw [if_pos h, if_neg (by simp; exact h)]
    · rw [if_neg h, if_pos (by simp; intro y hy e; exact h (e ▸ hy))]) (k + 1) L []
  rw [rg_out, rg_one, rg_one, filter_fit_nil, filter_fit_nil] at h1
  simp only [List.all_nil, if_true] at h1
  have hp : L.Perm (x :: L.filter fun y => !decide (y = x)) := by
    refine (List.perm_ext_iff_of_nodup hn (List.nodup_cons.2 ⟨by simp, hn.filter _⟩)).2 fun y => ?_
    simp
    constructor
    · intro h
      by_cases e : y = x
      · exact .inl e
      · exact .inr ⟨h, e⟩
    · rintro (rfl | h)
      · exact hx
      · exact h.1
  rw [cl_perm hs (k + 1) hp, cl_cons] at h1
  have e : (L.filter fun y => !decide (y = x)).filter (a x) = L.filter (a x) := by
    rw [List.filter_filter]
    refine List.filter_congr fun y _ => ?_
    by_cases hy : y = x
    · subst hy; rw [hi]; rfl
    · simp [hy]
  rw [e] at h1
  omega
/-- The cliques that have both ends of an edge. -/
theorem rg_edge (hs : ∀ u v, a u v = a v u) (hi : ∀ u, a u u = false) (k : Nat) {L : List Nat} (hn : L.Nodup) {u v : Nat} (hu : u ∈ L) (hv : v ∈ L) (huv : a u v = true) : rg a (fun S => if u ∈ S ∧ v ∈ S then 1 else 0) (k + 2) L [] = cl a k (L.filter fun x => a u x && a v x) := by
  have hne : u ≠ v := fun e => by subst e; rw [hi] at huv; cases huv
  -- both, and one alone
  have h1 := rg_add (a := a) (fun S => if u ∈ S ∧ v ∈ S then 1 else 0) (fun S => if u ∈ S ∧ v ∉ S then 1 else 0) (fun S => if u ∈ S then 1 else 0) (fun S => by
    by_cases h : u ∈ S <;> by_cases h' : v ∈ S <;> simp [h, h']) (k + 2) L []
  have h2 := rg_add (a := a) (fun S => if u ∈ S ∧ v ∉ S then 1 else 0) (fun S => if S.all (fun y => !(decide (y = u ∨ y = v))) = true then 1 else 0) (fun S => if S.all (fun y => !(decide (y = v))) = true then 1 else 0) (fun S => by
    have e1 : (S.all (fun y => !(decide (y = u ∨ y = v))) = true) ↔ u ∉ S ∧ v ∉ S := by
      simp
      constructor
      · intro h; exact ⟨fun hm => (h u hm).1 rfl, fun hm => (h v hm).2 rfl⟩
      · rintro ⟨h, h'⟩ y hy; exact ⟨fun e => h (e ▸ hy), fun e => h' (e ▸ hy)⟩
    have e2 : (S.all (fun y => !(decide (y = v))) = true) ↔ v ∉ S := by
      simp
      exact ⟨fun h hm => h v hm rfl, fun h y hy e => h (e ▸ hy)⟩
    by_cases h : u ∈ S <;> by_cases h' : v ∈ S <;> simp only [e1, e2, h, h'] <;> simp) (k + 2) L []
  rw [rg_out, rg_out, rg_one, rg_one, filter_fit_nil, filter_fit_nil] at h2
  simp only [List.all_nil, if_true] at h2
  rw [rg_node hs hi (k + 1) hn hu] at h1
  have hp : (L.filter fun y => !decide (y = v)).Perm (u :: L.filter fun y => !decide (y = u ∨ y = v)) := by
    refine (List.perm_ext_iff_of_nodup (hn.filter _) (List.nodup_cons.2 ⟨by simp, hn.filter _⟩)).2 fun y => ?_
    simp
    constructor
    · rintro ⟨h, h'⟩
      by_cases e : y = u
      · exact .inl e
      · exact .inr ⟨h, e, h'⟩
    · rintro (rfl | h)
      · exact ⟨hu, hne⟩
      · exact ⟨h.1, h.2.2⟩
  rw [cl_perm hs (k + 2) hp, cl_cons] at h2
  have hp2 : (L.filter (a u)).Perm (v :: (L.filter fun y => !decide (y = u ∨ y = v)).filter (a u)) := by
    refine (List.perm_ext_iff_of_nodup (hn.filter _) (List.nodup_cons.2 ⟨by simp, (hn.filter _).filter _⟩)).2 fun y => ?_
    rw [List.mem_filter, List.mem_cons, List.mem_filter, List.mem_filter, Bool.not_eq_true', decide_eq_false_iff_not, not_or]
    constructor
    · rintro ⟨h, h'⟩
      by_cases e : y = v
      · exact .inl e
      · refine .inr ⟨⟨h, fun e' => ?_, e⟩, h'⟩
        subst e'; rw [hi] at h'; cases h'
    · rintro (rfl | h)
      · exact ⟨hv, huv⟩
      · exact ⟨h.1.1, h.2⟩
  rw [cl_perm hs (k + 1) hp2, cl_cons] at h1
  have e : (((L.filter fun y => !decide (y = u ∨ y = v)).filter (a u)).filter (a v)) = L.filter fun x => a u x && a v x := by
    rw [List.filter_filter, List.filter_filter]
    refine List.filter_congr fun y _ => ?_
    by_cases hy : y = u
    · subst hy; rw [hi]; simp
    · by_cases hy' : y = v
      · subst hy'; rw [hi]; simp
      · simp [hy, hy', Bool.and_comm]
  rw [e] at h1
  have hk : k + 1 + 1 = k + 2 := rfl
  rw [hk] at h2
  omega
end
end CoCli

/- Arrays of counts, as functions. -/
set_option linter.unusedVariables false
set_option linter.unusedSimpArgs false
namespace Go.Proofs.YtknlmgcbdcepnaaDoor
open Go.RowKit CoBit CoCli

/-- Block g holds the n numbers f 0, f 1, .. -/
def afl (n : Nat) (f : Nat → Nat) : List Int := (List.range n).map fun i => ((f i : Nat) : Int)
theorem afl_length (n : Nat) (f : Nat → Nat) : (afl n f).length = n := by simp [afl]
theorem afl_at {n i : Nat} (f : Nat → Nat) (h : i < n) : (afl n f)[i]? = some ((f i : Nat) : Int) := by simp [afl, h]
theorem afl_set (n : Nat) (f : Nat → Nat) (i v : Nat) : (afl n f).set i (v : Int) = afl n (fun j => if j = i then v else f j) := by
  refine List.ext_getElem? fun j => ?_
  rw [List.getElem?_set, afl_length]
  by_cases hj : j < n
  · have hR : (afl n (fun j => if j = i then v else f j))[j]? = some (((if j = i then v else f j : Nat)) : Int) := afl_at _ hj
    rw [hR, afl_at f hj]
    by_cases hij : i = j
    · rw [if_pos hij, if_pos (by omega), if_pos hij.symm]
    · rw [if_neg hij, if_neg (fun e => hij e.symm)]
  · have hR : (afl n (fun j => if j = i then v else f j))[j]? = none := List.getElem?_eq_none (by rw [afl_length]; omega)
    rw [hR, List.getElem?_eq_none (l := afl n f) (by rw [afl_length]; omega)]
    by_cases hij : i = j
    · rw [if_pos hij, if_neg (by omega)]
    · rw [if_neg hij]
theorem afl_congr {n : Nat} {f f' : Nat → Nat} (h : ∀ i, i < n → f i = f' i) : afl n f = afl n f' := by
  unfold afl
  refine List.map_congr_left fun i hi => ?_
  rw [h i (List.mem_range.1 hi)]
def AF (w : World) (g n : Nat) (f : Nat → Nat) : Prop := AI w g (afl n f)
section
variable {w w' : World} {g n : Nat} {f f' : Nat → Nat}
theorem AF.lt (h : AF w g n f) : g < w.heap.size := AI.lt h
theorem AF.cell (h : AF w g n f) {i : Nat} (hi : i < n) : w.cell? ⟨g, i, none⟩ = some (.int .i64 ((f i : Nat) : Int)) := by
  have := AI.cell h (i := i) (by rw [afl_length]; exact hi)
  rw [List.getD_eq_getElem?_getD, afl_at f hi] at this
  exact this
theorem AF.frozen (h : AF w g n f) (i : Nat) : w.frozen? ⟨g, i, none⟩ = false := AI.frozen h i
theorem AF.set (h : AF w g n f) (i v : Nat) : AF (w.setCell ⟨g, i, none⟩ (.int .i64 (v : Int))) g n (fun j => if j = i then v else f j) := by
  unfold AF
  rw [← afl_set]
  exact AI.set h i v
theorem AF.far (h : AF w g n f) {p : Addr} (hp : g ≠ p.block) (u : Value) : AF (w.setCell p u) g n f := AI.far h hp u
theorem AF.below {B : Nat} (h : AF w g n f) (hb : Below B w w') (hg : g < B) : AF w' g n f := AI.below h hb hg
theorem AF.grown {row : Option Nat} (h : AF w g n f) (hb : w.grownBy w' row) (hg : some g ≠ row) : AF w' g n f := AI.grown h hb hg
theorem AF.drew (h : AF w g n f) : AF w.drew g n f := h
theorem AF.drewN (h : AF w g n f) (k : Nat) : AF (w.drewN k) g n f := h
theorem AF.congr (h : AF w g n f) (he : ∀ i, i < n → f i = f' i) : AF w g n f' := by unfold AF at h ⊢; rw [← afl_congr he]; exact h
theorem AF.ri (h : AF w g n f) : RI w (some ⟨g, 0, none⟩) n (afl n f) := AI.ri h (afl_length n f).symm
end
end Go.Proofs.YtknlmgcbdcepnaaDoor

/- Plain laws of the reference's leaf: one clique is added to the numbers of its nodes and edges. -/
set_option linter.unusedVariables false
set_option linter.unusedSimpArgs false
namespace CoCli

def wN (x : Nat) (S : List Nat) : Nat := if x ∈ S then 1 else 0
def wE (u v : Nat) (S : List Nat) : Nat := if u ∈ S ∧ v ∈ S then 1 else 0
def hI (p : List Nat) (i u v : Nat) : Nat := if u ∈ p.take i ∧ v ∈ p then 1 else 0
def hK (p : List Nat) (i k u v : Nat) : Nat := hI p i u v + if u = p.getD i 0 ∧ v ∈ p.take k then 1 else 0
section
variable {p : List Nat} {i k u v : Nat}
theorem take_mem {x : Nat} (hi : i < p.length) : x ∈ p.take (i + 1) ↔ x ∈ p.take i ∨ x = p.getD i 0 := by
  rw [List.take_add_one, List.getElem?_eq_getElem hi, List.mem_append, Option.toList_some, List.mem_singleton, List.getD_eq_getElem?_getD, List.getElem?_eq_getElem hi]; rfl
theorem take_lt (hs : p.Pairwise (· < ·)) (hi : i < p.length) {x : Nat} (hx : x ∈ p.take i) : x < p.getD i 0 := by
  obtain ⟨j, hj, e⟩ := List.mem_iff_getElem.1 hx
  rw [List.length_take] at hj
  rw [List.getElem_take] at e
  rw [List.getD_eq_getElem?_getD, List.getElem?_eq_getElem hi]
  have := List.pairwise_iff_getElem.1 hs j i (by omega) hi (by omega)
  rw [e] at this
  exact this
theorem wN_step (hs : p.Pairwise (· < ·)) (hi : i < p.length) (x : Nat) : wN x (p.take (i + 1)) = if x = p.getD i 0 then wN x (p.take i) + 1 else wN x (p.take i) := by
  unfold wN
  by_cases h : x = p.getD i 0
  · have h1 : x ∉ p.take i := fun hm => by have := take_lt hs hi hm; omega
    rw [if_pos ((take_mem hi).2 (.inr h)), if_pos h, if_neg h1]
  · rw [if_neg h]
    have : x ∈ p.take (i + 1) ↔ x ∈ p.take i := by rw [take_mem hi]; exact ⟨fun hh => hh.elim id (fun e => absurd e h), .inl⟩
    by_cases hm : x ∈ p.take i
    · rw [if_pos hm, if_pos (this.2 hm)]
    · rw [if_neg hm, if_neg (fun hh => hm (this.1 hh))]
theorem hK_start (hs : p.Pairwise (· < ·)) (hi : i < p.length) (huv : u < v) : hK p i (i + 1) u v = hI p i u v := by
  unfold hK
  rw [if_neg]; · rfl
  rintro ⟨rfl, h⟩
  rw [take_mem hi] at h
  rcases h with h | h
  · have := take_lt hs hi h; omega
  · omega
theorem hK_step (hs : p.Pairwise (· < ·)) (hk : k < p.length) : hK p i (k + 1) u v = hK p i k u v + if u = p.getD i 0 ∧ v = p.getD k 0 then 1 else 0 := by
  unfold hK
  rw [Nat.add_assoc]
  congr 1
  by_cases hu : u = p.getD i 0
  · by_cases hv : v = p.getD k 0
    · have h1 : v ∉ p.take k := fun hm => by have := take_lt hs hk hm; omega
      rw [if_pos ⟨hu, (take_mem hk).2 (.inr hv)⟩, if_neg (fun h => h1 h.2), if_pos ⟨hu, hv⟩]
    · rw [if_neg (fun h : u = p.getD i 0 ∧ v = p.getD k 0 => hv h.2)]
      have : (u = p.getD i 0 ∧ v ∈ p.take (k + 1)) ↔ (u = p.getD i 0 ∧ v ∈ p.take k) := by rw [take_mem hk]; exact ⟨fun h => ⟨h.1, h.2.elim id (fun e => absurd e hv)⟩, fun h => ⟨h.1, .inl h.2⟩⟩
      by_cases hm : u = p.getD i 0 ∧ v ∈ p.take k
      · rw [if_pos hm, if_pos (this.2 hm)]
      · rw [if_neg hm, if_neg (fun hh => hm (this.1 hh))]
  · rw [if_neg (fun h => hu h.1), if_neg (fun h => hu h.1), if_neg (fun h => hu h.1)]
theorem hK_end (hs : p.Pairwise (· < ·)) (hi : i < p.length) : hK p i p.length u v = hI p (i + 1) u v := by
  unfold hK hI
  rw [List.take_length]
  by_cases hv : v ∈ p
  · by_cases hu : u = p.getD i 0
    · have h1 : u ∉ p.take i := fun hm => by have := take_lt hs hi hm; omega
      rw [if_neg (fun h => h1 h.1), if_pos ⟨hu, hv⟩, if_pos ⟨(take_mem hi).2 (.inr hu), hv⟩]
    · rw [if_neg (fun h : u = p.getD i 0 ∧ v ∈ p => hu h.1)]
      have : (u ∈ p.take (i + 1) ∧ v ∈ p) ↔ (u ∈ p.take i ∧ v ∈ p) := by rw [take_mem hi]; exact ⟨fun h => ⟨h.1.elim id (fun e => absurd e hu), h.2⟩, fun h => ⟨.inl h.1, h.2⟩⟩
      by_cases hm : u ∈ p.take i ∧ v ∈ p
      · rw [if_pos hm, if_pos (this.2 hm)]
      · rw [if_neg hm, if_neg (fun hh => hm (this.1 hh))]
  · rw [if_neg (fun h => hv h.2), if_neg (fun h => hv h.2), if_neg (fun h => hv h.2)]
theorem hI_zero (p : List Nat) (u v : Nat) : hI p 0 u v = 0 := by unfold hI; simp
theorem hI_all (p : List Nat) (u v : Nat) : hI p p.length u v = wE u v p := by unfold hI wE; rw [List.take_length]
theorem hI_le (p : List Nat) (i u v : Nat) : hI p i u v ≤ 1 := by unfold hI; split <;> omega
theorem hK_le (hs : p.Pairwise (· < ·)) (hi : i < p.length) (huv : u < v) : ∀ k, k ≤ p.length → hK p i k u v ≤ 1 := by
  intro k hk
  have h1 : hK p i k u v ≤ hK p i p.length u v := by
    unfold hK
    rw [List.take_length]
    have : (if u = p.getD i 0 ∧ v ∈ p.take k then 1 else 0) ≤ (if u = p.getD i 0 ∧ v ∈ p then 1 else 0 : Nat) := by
      by_cases h : u = p.getD i 0 ∧ v ∈ p.take k
      · rw [if_pos h, if_pos ⟨h.1, List.mem_of_mem_take h.2⟩]; exact Nat.le_refl _
      · rw [if_neg h]; exact Nat.zero_le _
    omega
  rw [hK_end hs hi] at h1
  exact Nat.le_trans h1 (hI_le _ _ _ _)
end
end CoCli
