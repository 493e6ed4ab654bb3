/- Plain maths of cliques: how many cliques of a size there are in a list of nodes. -/
import Derived.Test.YtfefginhlliccaaDoorMskM
import Derived.Test.YtfefginhlliccaaDoorRowM
import Derived.Laws.BitsAllLaws
import Derived.Test.YtfefginhlliccaaDoorArr
import Derived.Test.YtfefginhlliccaaDoorGphA
set_option linter.unusedVariables false
set_option linter.unusedSimpArgs false
namespace CoCli

/-- The sum over all tails of a list. -/
def tsum (f : Nat → List Nat → Nat) : List Nat → Nat
  | [] => 0
  | v :: L => f v L + tsum f L
/-- How many cliques of k nodes there are in a list of nodes. -/
def cl (a : Nat → Nat → Bool) : Nat → List Nat → Nat
  | 0, _ => 1
  | k + 1, L => tsum (fun v T => cl a k (T.filter (a v))) L
section
variable {a b : Nat → Nat → Bool}
theorem cl_zero (L : List Nat) : cl a 0 L = 1 := rfl
theorem cl_nil (k : Nat) : cl a (k + 1) [] = 0 := rfl
theorem cl_cons (k v : Nat) (L : List Nat) : cl a (k + 1) (v :: L) = cl a k (L.filter (a v)) + cl a (k + 1) L := rfl
theorem cl_one (L : List Nat) : cl a 1 L = L.length := by
  induction L with
  | nil => rfl
  | cons v L ih => rw [cl_cons, ih, cl_zero, List.length_cons]; omega
theorem cl_congr (k : Nat) : ∀ L : List Nat, (∀ u ∈ L, ∀ v ∈ L, a u v = b u v) → cl a k L = cl b k L := by
  induction k with
  | zero => intro L _; rfl
  | succ k ih =>
    intro L
    induction L with
    | nil => intro _; rfl
    | cons v L ihL =>
      intro h
      rw [cl_cons, cl_cons, ihL (fun x hx y hy => h x (by simp [hx]) y (by simp [hy]))]
      have e : L.filter (a v) = L.filter (b v) := List.filter_congr fun x hx => h v (by simp) x (by simp [hx])
      rw [e, ih]
      intro x hx y hy
      rw [List.mem_filter] at hx hy
      exact h x (by simp [hx.1]) y (by simp [hy.1])
theorem cl_perm (hs : ∀ u v, a u v = a v u) (k : Nat) : ∀ {L L' : List Nat}, L.Perm L' → cl a k L = cl a k L' := by
  induction k with
  | zero => intro L L' _; rfl
  | succ k ih =>
    intro L L' h
    induction h with
    | nil => rfl
    | cons x _ ihp => rw [cl_cons, cl_cons, ihp, ih (List.Perm.filter _ ‹_›)]
    | swap x y L =>
      rw [cl_cons, cl_cons, cl_cons, cl_cons, List.filter_cons, List.filter_cons, hs y x]
      by_cases hxy : a x y = true
      · rw [if_pos hxy, if_pos hxy]
        cases k with
        | zero => simp [cl_zero]
        | succ k =>
          rw [cl_cons, cl_cons, List.filter_filter, List.filter_filter]
          have e : (L.filter fun z => a x z && a y z) = L.filter fun z => a y z && a x z := List.filter_congr fun z _ => Bool.and_comm _ _
          rw [e]; omega
      · rw [if_neg hxy, if_neg hxy]; omega
    | trans _ _ ih1 ih2 => exact ih1.trans ih2
theorem cl_map (f : Nat → Nat) (k : Nat) : ∀ L : List Nat, cl a k (L.map f) = cl (fun x y => a (f x) (f y)) k L := by
  induction k with
  | zero => intro L; rfl
  | succ k ih =>
    intro L
    induction L with
    | nil => rfl
    | cons v L ihL => rw [List.map_cons, cl_cons, cl_cons, ihL, List.filter_map, ih]; rfl
theorem cl_apart (k : Nat) (L' : List Nat) : ∀ L : List Nat, (∀ u ∈ L, ∀ v ∈ L', a u v = false) → cl a (k + 1) (L ++ L') = cl a (k + 1) L + cl a (k + 1) L' := by
  intro L
  induction L with
  | nil => intro _; simp [cl_nil]
  | cons v L ih =>
    intro h
    rw [List.cons_append, cl_cons, cl_cons, ih (fun u hu => h u (by simp [hu])), List.filter_append]
    have e : L'.filter (a v) = [] := List.filter_eq_nil_iff.2 fun x hx => by rw [h v (by simp) x hx]; simp
    rw [e, List.append_nil]; omega
/-- Nodes without neighbours do not count. -/
theorem cl_alone (k : Nat) (p : Nat → Bool) (L : List Nat) (h : ∀ u ∈ L, ∀ v ∈ L, a u v = true → p u = true ∧ p v = true) : cl a (k + 2) L = cl a (k + 2) (L.filter p) := by
  induction L with
  | nil => rfl
  | cons v L ih =>
    rw [cl_cons, ih (fun x hx y hy => h x (by simp [hx]) y (by simp [hy])), List.filter_cons]
    by_cases hv : p v = true
    · rw [if_pos hv, cl_cons, List.filter_filter]
      have e : L.filter (a v) = L.filter fun x => a v x && p x := List.filter_congr fun x hx => by
        cases hx' : a v x with
        | false => rfl
        | true => rw [(h v (by simp) x (by simp [hx]) hx').2]; rfl
      rw [e]
    · rw [if_neg hv]
      have e : L.filter (a v) = [] := List.filter_eq_nil_iff.2 fun x hx hax => hv (h v (by simp) x (by simp [hx]) hax).1
      rw [e, cl_nil]; omega
/-- What an edge more brings. -/
theorem cl_edge_front (k : Nat) (hs : ∀ u v, a u v = a v u) {u v : Nat} {L : List Nat} (huv : a u v = false) (hb : ∀ x y, b x y = (a x y || (decide (x = u ∧ y = v) || decide (x = v ∧ y = u)))) (hu : u ∉ L) (hv : v ∉ L) :
    cl b (k + 2) (u :: v :: L) = cl a (k + 2) (u :: v :: L) + cl a k (L.filter fun x => a u x && a v x) := by
  have hne : ∀ x ∈ L, x ≠ u ∧ x ≠ v := fun x hx => ⟨fun e => hu (e ▸ hx), fun e => hv (e ▸ hx)⟩
  have hab : ∀ x y, (y ≠ u ∧ y ≠ v) → b x y = a x y := by
    intro x y h
    rw [hb]
    simp [h.1, h.2]
  have hc : ∀ M : List Nat, (∀ x ∈ M, x ∈ L) → ∀ j, cl b j M = cl a j M := fun M hM j => cl_congr j M fun x _ y hy => hab x y (hne y (hM y hy))
  rw [cl_cons, cl_cons, cl_cons, cl_cons, List.filter_cons, List.filter_cons, huv]
  have h1 : b u v = true := by rw [hb]; simp
  have e1 : L.filter (b u) = L.filter (a u) := List.filter_congr fun x hx => hab u x (hne x hx)
  have e2 : L.filter (b v) = L.filter (a v) := List.filter_congr fun x hx => hab v x (hne x hx)
  rw [if_pos h1, e1, e2, cl_cons, hc L (fun _ h => h), hc _ (fun x h => (List.mem_filter.1 h).1), hc _ (fun x h => (List.mem_filter.1 h).1), List.filter_filter]
  have e3 : (L.filter fun x => b v x && a u x) = L.filter fun x => a u x && a v x := List.filter_congr fun x hx => by rw [hab v x (hne x hx), Bool.and_comm]
  rw [e3, hc _ (fun x h => (List.mem_filter.1 h).1)]
  simp
  omega
theorem front {L : List Nat} (hn : L.Nodup) {u v : Nat} (hu : u ∈ L) (hv : v ∈ L) (h : u ≠ v) : ∃ M, L.Perm (u :: v :: M) ∧ u ∉ M ∧ v ∉ M := by
  have p1 := List.perm_cons_erase hu
  have hv' : v ∈ L.erase u := (List.mem_erase_of_ne (Ne.symm h)).2 hv
  have p2 := List.perm_cons_erase hv'
  refine ⟨(L.erase u).erase v, p1.trans (p2.cons u), ?_, ?_⟩
  · have hn1 := (p1.trans (p2.cons u)).nodup_iff.1 hn
    rw [List.nodup_cons, List.nodup_cons] at hn1
    exact fun hm => hn1.1 (by simp [hm])
  · have hn1 := (p1.trans (p2.cons u)).nodup_iff.1 hn
    rw [List.nodup_cons, List.nodup_cons] at hn1
    exact hn1.2.1
theorem cl_edge (k : Nat) (hs : ∀ u v, a u v = a v u) (hi : ∀ u, a u u = false) {u v : Nat} {L : List Nat} (hn : L.Nodup) (hu : u ∈ L) (hv : v ∈ L) (hne : u ≠ v) (huv : a u v = false)
    (hb : ∀ x y, b x y = (a x y || (decide (x = u ∧ y = v) || decide (x = v ∧ y = u)))) :
    cl b (k + 2) L = cl a (k + 2) L + cl a k (L.filter fun x => a u x && a v x) := by
  obtain ⟨M, hp, h1, h2⟩ := front hn hu hv hne
  have hsb : ∀ x y, b x y = b y x := fun x y => by
    rw [hb, hb, hs x y]
    by_cases e1 : x = u ∧ y = v <;> by_cases e2 : x = v ∧ y = u <;> simp [e1, e2, and_comm]
  rw [cl_perm hsb _ hp, cl_edge_front k hs huv hb h1 h2, cl_perm hs _ hp]
  have e := cl_perm hs k (List.Perm.filter (fun x => a u x && a v x) hp)
  rw [e, List.filter_cons, List.filter_cons, hi u, huv]
  simp [huv]
/-- Over all nodes. -/
theorem cl_nodes (hs : ∀ u v, a u v = a v u) (hi : ∀ u, a u u = false) (k : Nat) : ∀ L : List Nat, (L.map fun v => cl a k (L.filter (a v))).sum = (k + 1) * cl a (k + 1) L := by
  induction k with
  | zero =>
    intro L
    have : (L.map fun v => cl a 0 (L.filter (a v))) = L.map fun _ => 1 := rfl
    rw [this, cl_one]
    clear this
    induction L with
    | nil => rfl
    | cons v L ih => rw [List.map_cons, List.sum_cons, ih, List.length_cons]; omega
  | succ k ih =>
    intro L
    induction L with
    | nil => simp [cl_nil]
    | cons w L ihL =>
      rw [List.map_cons, List.sum_cons, List.filter_cons, hi w, if_neg (by simp), cl_cons]
      have key : ∀ M : List Nat, (M.map fun v => cl a (k + 1) ((w :: L).filter (a v))).sum = (M.map fun v => cl a (k + 1) (L.filter (a v))).sum + ((M.filter (a w)).map fun v => cl a k ((L.filter (a w)).filter (a v))).sum := by
        intro M
        induction M with
        | nil => rfl
        | cons v M ihM =>
          rw [List.map_cons, List.sum_cons, List.map_cons, List.sum_cons, ihM, List.filter_cons, List.filter_cons, hs v w]
          by_cases h : a w v = true
          · rw [if_pos h, if_pos h, List.map_cons, List.sum_cons, cl_cons, List.filter_filter, List.filter_filter]
            have e : (L.filter fun x => a w x && a v x) = L.filter fun x => a v x && a w x := List.filter_congr fun z _ => Bool.and_comm _ _
            rw [e]; omega
          · rw [if_neg h, if_neg h]; omega
      rw [key L, ihL, ih (L.filter (a w))]
      rw [Nat.mul_add]
      have : (k + 1 + 1) * cl a (k + 1) (L.filter (a w)) = cl a (k + 1) (L.filter (a w)) + (k + 1) * cl a (k + 1) (L.filter (a w)) := by rw [Nat.add_mul _ 1, Nat.one_mul]; omega
      rw [this]; omega
end
/-- Binomial coefficients. -/
def ch : Nat → Nat → Nat
  | _, 0 => 1
  | 0, _ + 1 => 0
  | n + 1, k + 1 => ch n k + ch n (k + 1)
theorem ch_zero (n : Nat) : ch n 0 = 1 := by cases n <;> rfl
theorem ch_succ (n k : Nat) : ch (n + 1) (k + 1) = ch n k + ch n (k + 1) := rfl
theorem ch_one (n : Nat) : ch n 1 = n := by
  induction n with
  | zero => rfl
  | succ n ih => rw [ch_succ, ih, ch_zero]; omega
theorem ch_mono {n m : Nat} (k : Nat) (h : n ≤ m) : ch n k ≤ ch m k := by
  induction h with
  | refl => exact Nat.le_refl _
  | step _ ih =>
    cases k with
    | zero => rw [ch_zero, ch_zero]; exact Nat.le_refl _
    | succ k => rw [ch_succ]; omega
theorem ch_gt {n k : Nat} (h : n < k) : ch n k = 0 := by
  induction n generalizing k with
  | zero => cases k with
    | zero => omega
    | succ k => rfl
  | succ n ih => cases k with
    | zero => omega
    | succ k => rw [ch_succ, ih (by omega), ih (by omega)]
theorem cl_le_ch (a : Nat → Nat → Bool) (k : Nat) : ∀ L : List Nat, cl a k L ≤ ch L.length k := by
  induction k with
  | zero => intro L; rw [ch_zero]; exact Nat.le_refl _
  | succ k ih =>
    intro L
    induction L with
    | nil => exact Nat.zero_le _
    | cons v L ihL =>
      rw [cl_cons, List.length_cons, ch_succ]
      have h1 := ih (L.filter (a v))
      have h2 := ch_mono k (List.length_filter_le (a v) L)
      omega
theorem cl_whole (a : Nat → Nat → Bool) (k : Nat) : ∀ L : List Nat, L.Pairwise (fun u v => a u v = true) → cl a k L = ch L.length k := by
  induction k with
  | zero => intro L _; rw [ch_zero, cl_zero]
  | succ k ih =>
    intro L
    induction L with
    | nil => intro _; rfl
    | cons v L ihL =>
      intro h
      rw [List.pairwise_cons] at h
      rw [cl_cons, List.length_cons, ch_succ, ihL h.2, List.filter_eq_self.2 h.1, ih L h.2]
end CoCli

namespace Go.Proofs.YtfefginhlliccaaDoor
open Go.RowKit CoBit CoCli

/-- The nodes of a set behind a node. -/
def beh (x v : Nat) : Nat := x &&& (18446744073709551615 - (2 ^ (v + 1) - 1))
theorem beh_lt {x v : Nat} (h : x < 18446744073709551616) : beh x v < 18446744073709551616 := and_lt' h
theorem beh_bit {x v : Nat} (hx : x < 18446744073709551616) (hv : v < 64) (i : Nat) : (beh x v).testBit i = (x.testBit i && decide (v < i)) := by
  unfold beh
  have h1 : (2 : Nat) ^ (v + 1) ≤ 2 ^ 64 := Nat.pow_le_pow_right (by omega) (by omega)
  have h0 : 0 < (2 : Nat) ^ (v + 1) := Nat.two_pow_pos _
  have e64 : (2 : Nat) ^ 64 = 18446744073709551616 := by decide +kernel
  have h2 : 18446744073709551615 - (2 ^ (v + 1) - 1) = 2 ^ 64 - (2 ^ (v + 1) - 1 + 1) := by rw [e64]; omega
  rw [Nat.testBit_and, h2, Nat.testBit_two_pow_sub_succ (by omega), Nat.testBit_two_pow_sub_one]
  by_cases hi : i < 64
  · have e : decide (i < v + 1) = !decide (v < i) := by rw [Bool.eq_iff_iff]; simp; omega
    rw [e]
    simp [hi]
  · have : x.testBit i = false := Nat.testBit_lt_two_pow (Nat.lt_of_lt_of_le (show x < 2 ^ 64 by rw [e64]; exact hx) (Nat.pow_le_pow_right (by omega) (by omega)))
    simp [this]
theorem wrap_two {v : Nat} (h : v < 64) : IntKind.u64.wrap (IntKind.u64.wrap (2 * (2 : Int) ^ v) - 1) = ((2 ^ (v + 1) - 1 : Nat) : Int) := by
  have hp : (2 : Nat) ^ (v + 1) = 2 * 2 ^ v := by rw [Nat.pow_succ]; omega
  have h1 : (2 : Nat) ^ v ≤ 2 ^ 63 := Nat.pow_le_pow_right (by omega) (by omega)
  have h0 : 0 < (2 : Nat) ^ v := Nat.two_pow_pos _
  have e63 : (2 : Nat) ^ 63 = 9223372036854775808 := by decide +kernel
  have e : 2 * (2 : Int) ^ v = ((2 ^ (v + 1) : Nat) : Int) := by rw [hp]; simp
  rw [e]
  generalize 2 ^ (v + 1) = p at *
  generalize 2 ^ v = q at *
  rw [IntKind.wrap_u64, IntKind.wrap_u64]
  omega
/-- Two nodes are neighbours. -/
def ad (rows : List Nat) (u v : Nat) : Bool := (rows.getD u 0).testBit v
theorem filter_behind {L l t : List Nat} {v : Nat} (h : L.Pairwise (· < ·)) (he : L = l ++ v :: t) : (L.filter fun i => decide (v < i)) = t := by
  subst he
  rw [List.pairwise_append] at h
  obtain ⟨h1, h2, h3⟩ := h
  rw [List.pairwise_cons] at h2
  rw [List.filter_append, List.filter_eq_nil_iff.2 (fun x hx => by have := h3 x hx v (by simp); simp; omega), List.nil_append, List.filter_cons, if_neg (by simp)]
  exact List.filter_eq_self.2 fun x hx => by simpa using h2.1 x hx
theorem bl_beh {x v : Nat} (hx : x < 18446744073709551616) (hv : v < 64) : bl (beh x v) = (bl x).filter fun i => decide (v < i) := by
  unfold bl bitsIn
  rw [List.filter_filter]
  exact List.filter_congr fun i _ => by rw [beh_bit hx hv, Bool.and_comm]
theorem bl_next {x v r : Nat} {l t : List Nat} (hx : x < 18446744073709551616) (he : bl x = l ++ v :: t) : bl (beh x v &&& r) = t.filter fun i => r.testBit i := by
  have hv : v < 64 := (mem_bl.1 (show v ∈ bl x by rw [he]; simp)).1
  rw [bl_and, bl_beh hx hv, filter_behind (bl_sorted x) he]
theorem ch_le (n k : Nat) : ch n k ≤ (n + 1) ^ k := by
  induction n generalizing k with
  | zero => cases k with
    | zero => rw [ch_zero]; simp
    | succ k => exact Nat.zero_le _
  | succ n ih => cases k with
    | zero => rw [ch_zero]; simp
    | succ k =>
      rw [ch_succ]
      have h1 := ih k
      have h2 := ih (k + 1)
      have h3 : (n + 1) ^ k ≤ (n + 1 + 1) ^ k := Nat.pow_le_pow_left (by omega) k
      rw [Nat.pow_succ] at h2 ⊢
      have h4 : (n + 1) ^ k * (n + 1) ≤ (n + 1 + 1) ^ k * (n + 1) := Nat.mul_le_mul_right _ h3
      have h5 : (n + 1 + 1) ^ k * (n + 1 + 1) = (n + 1 + 1) ^ k * (n + 1) + (n + 1 + 1) ^ k := Nat.mul_succ _ _
      rw [h5]
      generalize (n + 1 + 1) ^ k * (n + 1) = p at *
      generalize (n + 1) ^ k * (n + 1) = q at *
      omega
theorem cl_bd (a : Nat → Nat → Bool) (k : Nat) (hk : k ≤ 6) (x : Nat) : cl a k (bl x) ≤ 281474976710656 := by
  have h1 := cl_le_ch a k (bl x)
  have h2 := ch_mono k (bl_length x)
  have h3 := ch_le 64 k
  have h4 : (64 + 1) ^ k ≤ 65 ^ 6 := Nat.pow_le_pow_right (by omega) hk
  have h5 : 65 ^ 6 ≤ 281474976710656 := by decide +kernel
  omega

end Go.Proofs.YtfefginhlliccaaDoor

namespace Go.Proofs.YtfefginhlliccaaDoor
open Go.RowKit CoBit CoCli

/-- The error of a graph and a size. -/
def errC (n : Int) (es : List (Int × Int)) (size least : Int) : Int := if chkG n es ≠ 0 then chkG n es else if size < least ∨ 6 < size then 1 else 0
end Go.Proofs.YtfefginhlliccaaDoor
