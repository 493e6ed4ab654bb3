/- Plain maths of cliques: how many cliques of a size there are in a list of nodes. -/
import Derived.Test.YtknlmgcbdcepnaaDoorMskM
import Derived.Test.YtknlmgcbdcepnaaDoorRowM
import Derived.Laws.BitsAllLaws
import Derived.Test.YtknlmgcbdcepnaaDoorArr
import Derived.Test.YtknlmgcbdcepnaaDoorGphA
set_option linter.unusedVariables false
set_option linter.unusedSimpArgs false
namespace CoCli

/-- The sum over all tails of a list. -/
def tsum (f : Nat → List Nat → Nat) : List Nat → Nat
  | [] => 0
  | v :: L => f v L + tsum f L
/-- How many cliques of k nodes there are in a list of nodes. -/
def cl (a : Nat → Nat → Bool) : Nat → List Nat → Nat
  | 0, _ => 1
  | k + 1, L => tsum (fun v T => cl a k (T.filter (a v))) L
section
variable {a b : Nat → Nat → Bool}
theorem cl_zero (L : List Nat) : cl a 0 L = 1 := rfl
theorem cl_nil (k : Nat) : cl a (k + 1) [] = 0 := rfl
theorem cl_cons (k v : Nat) (L : List Nat) : cl a (k + 1) (v :: L) = cl a k (L.filter (a v)) + cl a (k + 1) L := rfl
theorem cl_one (L : List Nat) : cl a 1 L = L.length := by
  induction L with
  | nil => rfl
  | cons v L ih => rw [cl_cons, ih, cl_zero, List.length_cons]; omega
theorem cl_congr (k : Nat) : ∀ L : List Nat, (∀ u ∈ L, ∀ v ∈ L, a u v = b u v) → cl a k L = cl b k L := by
  induction k with
  | zero => intro L _; rfl
  | succ k ih =>
    intro L
    induction L with
    | nil => intro _; rfl
    | cons v L ihL =>
      intro h
      rw [cl_cons, cl_cons, ihL (fun x hx y hy => h x (by simp [hx]) y (by simp [hy]))]
      have e : L.filter (a v) = L.filter (b v) := List.filter_congr fun x hx => h v (by simp) x (by simp [hx])
      rw [e, ih]
      intro x hx y hy
      rw [List.mem_filter] at hx hy
      exact h x (by simp [hx.1]) y (by simp [hy.1])
theorem cl_perm (hs : ∀ u v, a u v = a v u) (k : Nat) : ∀ {L L' : List Nat}, L.Perm L' → cl a k L = cl a k L' := by
  induction k with
  | zero => intro L L' _; rfl
  | succ k ih =>
    intro L L' h
    induction h with
    | nil => rfl
    | cons x _ ihp => rw [cl_cons, cl_cons, ihp, ih (List.Perm.filter _ ‹_›)]
    | swap x y L =>
      rw [cl_cons, cl_cons, cl_cons, cl_cons, List.filter_cons, List.filter_cons, hs y x]
      by_cases hxy : a x y = true
      · rw [if_pos hxy, if_pos hxy]
        cases k with
        | zero => simp [cl_zero]
        | succ k =>
          rw [cl_cons, cl_cons, List.filter_filter, List.filter_filter]
          have e : (L.filter fun z => a x z && a y z) = L.filter fun z => a y z && a x z := List.filter_congr fun z _ => Bool.and_comm _ _
          rw [e]; omega
      · rw [if_neg hxy, if_neg hxy]; omega
    | trans _ _ ih1 ih2 => exact ih1.trans ih2
theorem cl_map (f : Nat → Nat) (k : Nat) : ∀ L : List Nat, cl a k (L.map f) = cl (fun x y => a (f x) (f y)) k L := by
  induction k with
  | zero => intro L; rfl
  | succ k ih =>
    intro L
    induction L with
    | nil => rfl
    | cons v L ihL => rw [List.map_cons, cl_cons, cl_cons, ihL, List.filter_map, ih]; rfl
theorem cl_apart (k : Nat) (L' : List Nat) : ∀ L : List Nat, (∀ u ∈ L, ∀ v ∈ L', a u v = false) → cl a (k + 1) (L ++ L') = cl a (k + 1) L + cl a (k + 1) L' := by
  intro L
  induction L with
  | nil => intro _; simp [cl_nil]
  | cons v L ih =>
    intro h
    rw [List.cons_append, cl_cons, cl_cons, ih (fun u hu => h u (by simp [hu])), List.filter_append]
    have e : L'.filter (a v) = [] := List.filter_eq_nil_iff.2 fun x hx => by rw [h v (by simp) x hx]; simp
    rw [e, List.append_nil]; omega
/-- Nodes without neighbours do not count. -/
theorem cl_alone (k : Nat) (p : Nat → Bool) (L : List Nat) (h : ∀ u ∈ L, ∀ v ∈ L, a u v = true → p u = true ∧ p v = true) : cl a (k + 2) L = cl a (k + 2) (L.filter p) := by
  induction L with
  | nil => rfl
  | cons v L ih =>
    rw [cl_cons, ih (fun x hx y hy => h x (by simp [hx]) y (by simp [hy])), List.filter_cons]
    by_cases hv : p v = true
    · rw [if_pos hv, cl_cons, List.filter_filter]
      have e : L.filter (a v) = L.filter fun x => a v x && p x := List.filter_congr fun x hx => by
        cases hx' : a v x with
        | false => rfl
        | true => rw [(h v (by simp) x (by simp [hx]) hx').2]; rfl
      rw [e]
    · rw [if_neg hv]
      have e : L.filter (a v) = [] := List.filter_eq_nil_iff.2 fun x hx hax => hv (h v (by simp) x (by simp [hx]) hax).1
      rw [e, cl_nil]; omega
/-- What an edge more brings. -/
theorem cl_edge_front (k : Nat) (hs : ∀ u v, a u v = a v u) {u v : Nat} {L : List Nat} (huv : a u v = false) (hb : ∀ x y, b x y = (a x y || (decide (x = u ∧ y = v) || decide (x = v ∧ y = u)))) (hu : u ∉ L) (hv : v ∉ L) :
    cl b (k + 2) (u :: v :: L) = cl a (k + 2) (u :: v :: L) + cl a k (L.filter fun x => a u x && a v x) := by
  have hne : ∀ x ∈ L, x ≠ u ∧ x ≠ v := fun x hx => ⟨fun e => hu (e ▸ hx), fun e => hv (e ▸ hx)⟩
  have hab : ∀ x y, (y ≠ u ∧ y ≠ v) → b x y = a x y := by
    intro x y h
    rw [hb]
    simp [h.1, h.2]
  have hc : ∀ M : List Nat, (∀ x ∈ M, x ∈ L) → ∀ j, cl b j M = cl a j M := fun M hM j => cl_congr j M fun x _ y hy => hab x y (hne y (hM y hy))
  rw [cl_cons, cl_cons, cl_cons, cl_cons, List.filter_cons, List.filter_cons, huv]
  have h1 : b u v = true := by rw [hb]; simp
  have e1 : L.filter (b u) = L.filter (a u) := List.filter_congr fun x hx => hab u x (hne x hx)
  have e2 : L.filter (b v) = L.filter (a v) := List.filter_congr fun x hx => hab v x (hne x hx)
  rw [if_pos h1, e1, e2, cl_cons, hc L (fun _ h => h), hc _ (fun x h => (List.mem_filter.1 h).1), hc _ (fun x h => (List.mem_filter.1 h).1), List.filter_filter]
  have e3 : (L.filter fun x => b v x && a u x) = L.filter fun x => a u x && a v x := List.filter_congr fun x hx => by rw [hab v x (hne x hx), Bool.and_comm]
  rw [e3, hc _ (fun x h => (List.mem_filter.1 h).1)]
  simp
  omega
theorem front {L : List Nat} (hn : L.Nodup) {u v : Nat} (hu : u ∈ L) (hv : v ∈ L) (h : u ≠ v) : ∃ M, L.Perm (u :: v :: M) ∧ u ∉ M ∧ v ∉ M := by
  have p1 := List.perm_cons_erase hu
  have hv' : v ∈ L.erase u := (List.mem_erase_of_ne (Ne.symm h)).2 hv
  have p2 := List.perm_cons_erase hv'
  refine ⟨(L.erase u).erase v, p1.trans (p2.cons u), ?_, ?_⟩
  · have hn1 := (p1.trans (p2.cons u)).nodup_iff.1 hn
    rw [List.nodup_cons, List.nodup_cons] at hn1
    exact fun hm => hn1.1 (by simp [hm])
  · have hn1 := (p1.trans (p2.cons u)).nodup_iff.1 hn
    rw [List.nodup_cons, List.nodup_cons] at hn1
    exact hn1.2.1
theorem cl_edge (k : Nat) (hs : ∀ u v, a u v = a v u) (hi : ∀ u, a u u = false) {u v : Nat} {L : List Nat} (hn : L.Nodup) (hu : u ∈ L) (hv : v ∈ L) (hne : u ≠ v) (huv : a u v = false)
    (hb : ∀ x y, b x y = (a x y || (decide (x = u ∧ y = v) || decide (x = v ∧ y = u)))) :
    cl b (k + 2) L = cl a (k + 2) L + cl a k (L.filter fun x => a u x && a v x) := by
  obtain ⟨M, hp, h1, h2⟩ := front hn hu hv hne
  have hsb : ∀ x y, b x y = b y x := fun x y => by
    rw [hb, hb, hs x y]
    by_cases e1 : x = u ∧ y = v <;> by_cases e2 : x = v ∧ y = u <;> simp [e1, e2, and_comm]
  rw [cl_perm hsb _ hp, cl_edge_front k hs huv hb h1 h2, cl_perm hs _ hp]
  have e := cl_perm hs k (List.Perm.filter (fun x => a u x && a v x) hp)
  rw [e, List.filter_cons, List.filter_cons, hi u, huv]
  simp [huv]
/-- Over all nodes. -/
theorem cl_nodes (hs : ∀ u v, a u v = a v u) (hi : ∀ u, a u u = false) (k : Nat) : ∀ L : List Nat, (L.map fun v => cl a k (L.filter (a v))).sum = (k + 1) * cl a (k + 1) L := by
  induction k with
  | zero =>
    intro L
    have : (L.map fun v => cl a 0 (L.filter (a v))) = L.map fun _ => 1 := rfl
    rw [this, cl_one]
    clear this
    induction L with
    | nil => rfl
    | cons v L ih => rw [List.map_cons, List.sum_cons, ih, List.length_cons]; omega
  | succ k ih =>
    intro L
    induction L with
    | nil => simp [cl_nil]
    | cons w L ihL =>
      rw [List.map_cons, List.sum_cons, List.filter_cons, hi w, if_neg (by simp), cl_cons]
      have key : ∀ M : List Nat, (M.map fun v => cl a (k + 1) ((w :: L).filter (a v))).sum = (M.map fun v => cl a (k + 1) (L.filter (a v))).sum + ((M.filter (a w)).map fun v => cl a k ((L.filter (a w)).filter (a v))).sum := by
        intro M
        induction M with
        | nil => rfl
        | cons v M ihM =>
          rw [List.map_cons, List.sum_cons, List.map_cons, List.sum_cons, ihM, List.filter_cons, List.filter_cons, hs v w]
          by_cases h : a w v = true
          · rw [if_pos h, if_pos h, List.map_cons, List.sum_cons, cl_cons, List.filter_filter, List.filter_filter]
            have e : (L.filter fun x => a w x && a v x) = L.filter fun x => a v x && a w x := List.filter_congr fun z _ => Bool.and_comm _ _
            rw [e]; omega
          · rw [if_neg h, if_neg h]; omega
      rw [key L, ihL, ih (L.filter (a w))]
      rw [Nat.mul_add]
      have : (k + 1 + 1) * cl a (k + 1) (L.filter (a w)) = cl a (k + 1) (L.filter (a w)) + (k + 1) * cl a (k + 1) (L.filter (a w)) := by rw [Nat.add_mul _ 1, Nat.one_mul]; omega
      rw [this]; omega
end
/-- Binomial coefficients. -/
def ch : Nat → Nat → Nat
  | _, 0 => 1
  | 0, _ + 1 => 0
  | n + 1, k + 1 => ch n k + ch n (k + 1)
theorem ch_zero (n : Nat) : ch n 0 = 1 := by cases n <;> rfl
theorem ch_succ (n k : Nat) : ch (n + 1) (k + 1) = ch n k + ch n (k + 1) := rfl
theorem ch_one (n : Nat) : ch n 1 = n := by
  induction n with
  | zero => rfl
  | succ n ih => rw [ch_succ, ih, ch_zero]; omega
theorem ch_mono {n m : Nat} (k : Nat) (h : n ≤ m) : ch n k ≤ ch m k := by
  induction h with
  | refl => exact Nat.le_refl _
  | step _ ih =>
    cases k with
    | zero => rw [ch_zero, ch_zero]; exact Nat.le_refl _
    | succ k => rw [ch_succ]; omega
theorem ch_gt {n k : Nat} (h : n < k) : ch n k = 0 := by
  induction n generalizing k with
  | zero => cases k with
    | zero => omega
    | succ k => rfl
  | succ n ih => cases k with
    | zero => omega
    | succ k => rw [ch_succ, ih (by omega), ih (by omega)]
theorem cl_le_ch (a : Nat → Nat → Bool) (k : Nat) : ∀ L : List Nat, cl a k L ≤ ch L.length k := by
  induction k with
  | zero => intro L; rw [ch_zero]; exact Nat.le_refl _
  | succ k ih =>
    intro L
    induction L with
    | nil => exact Nat.zero_le _
    | cons v L ihL =>
      rw [cl_cons, List.length_cons, ch_succ]
      have h1 := ih (L.filter (a v))
      have h2 := ch_mono k (List.length_filter_le (a v) L)
      omega
theorem cl_whole (a : Nat → Nat → Bool) (k : Nat) : ∀ L : List Nat, L.Pairwise (fun u v => a u v = true) → cl a k L = ch L.length k := by
  induction k with
  | zero => intro L _; rw [ch_zero, cl_zero]
  | succ k ih =>
    intro L
    induction L with
    | nil => intro _; rfl
    | cons v L ihL =>
      intro h
      rw [List.pairwise_cons] at h
      rw [cl_cons, List.length_cons, ch_succ, ihL h.2, List.filter_eq_self.2 h.1, ih L h.2]
end CoCli

namespace Go.Proofs.YtknlmgcbdcepnaaDoor
open Go.RowKit CoBit CoCli

/-- The nodes of a set behind a node. -/
def beh (x v : Nat) : Nat := x &&& (18446744073709551615 - (2 ^ (v + 1) - 1))
theorem beh_lt {x v : Nat} (h : x < 18446744073709551616) : beh x v < 18446744073709551616 := and_lt' h
theorem beh_bit {x v : Nat} (hx : x < 18446744073709551616) (hv : v < 64) (i : Nat) : (beh x v).testBit i = (x.testBit i && decide (v < i)) := by
  unfold beh
  have h1 : (2 : Nat) ^ (v + 1) ≤ 2 ^ 64 := Nat.pow_le_pow_right (by omega) (by omega)
  have h0 : 0 < (2 : Nat) ^ (v + 1) := Nat.two_pow_pos _
  have e64 : (2 : Nat) ^ 64 = 18446744073709551616 := by decide +kernel
  have h2 : 18446744073709551615 - (2 ^ (v + 1) - 1) = 2 ^ 64 - (2 ^ (v + 1) - 1 + 1) := by rw [e64]; omega
  rw [Nat.testBit_and, h2, Nat.testBit_two_pow_sub_succ (by omega), Nat.testBit_two_pow_sub_one]
  by_cases hi : i < 64
  · have e : decide (i < v + 1) = !decide (v < i) := by rw [Bool.eq_iff_iff]; simp; omega
    rw [e]
    simp [hi]
  · have : x.testBit i = false := Nat.testBit_lt_two_pow (Nat.lt_of_lt_of_le (show x < 2 ^ 64 by rw [e64]; exact hx) (Nat.pow_le_pow_right (by omega) (by omega)))
    simp [this]
theorem wrap_two {v : Nat} (h : v < 64) : IntKind.u64.wrap (IntKind.u64.wrap (2 * (2 : Int) ^ v) - 1) = ((2 ^ (v + 1) - 1 : Nat) : Int) := by
  have hp : (2 : Nat) ^ (v + 1) = 2 * 2 ^ v := by rw [Nat.pow_succ]; omega
  have h1 : (2 : Nat) ^ v ≤ 2 ^ 63 := Nat.pow_le_pow_right (by omega) (by omega)
  have h0 : 0 < (2 : Nat) ^ v := Nat.two_pow_pos _
  have e63 : (2 : Nat) ^ 63 = 9223372036854775808 := by decide +kernel
  have e : 2 * (2 : Int) ^ v = ((2 ^ (v + 1) : Nat) : Int) := by rw [hp]; simp
  rw [e]
  generalize 2 ^ (v + 1) = p at *
  generalize 2 ^ v = q at *
  rw [IntKind.wrap_u64, IntKind.wrap_u64]
  omega
set_option maxHeartbeats 400000 in
theorem behind_any (x v : Nat) (hx : x < 18446744073709551616) (hv : v < 64) (w : World) :
    Calls Tryd.prog 45 #[.int .u64 x, .int .i64 v] w fun e w' => e = .returned (.int .u64 (beh x v : Nat)) ∧ w = w' := by
  have h1 := wrap_two hv
  have h3 : 2 ^ (v + 1) - 1 < 18446744073709551616 := by
    have : (2 : Nat) ^ (v + 1) ≤ 2 ^ 64 := Nat.pow_le_pow_right (by omega) (by omega)
    have e64 : (2 : Nat) ^ 64 = 18446744073709551616 := by decide +kernel
    have h0 : 0 < (2 : Nat) ^ (v + 1) := Nat.two_pow_pos _
    omega
  have h2 := u64_andNot_nat x (2 ^ (v + 1) - 1) hx h3
  have h4 : x &&& (18446744073709551615 - (2 ^ (v + 1) - 1)) = beh x v := rfl
  rw [h4] at h2
  rw [← h1] at h2
  clear h4 h3 h1
  go_enter Tryd.func45, Tryd.ntmps45
  go_wp2
  go_ret
  exact ⟨rfl, rfl⟩

/-- Two nodes are neighbours. -/
def ad (rows : List Nat) (u v : Nat) : Bool := (rows.getD u 0).testBit v
theorem filter_behind {L l t : List Nat} {v : Nat} (h : L.Pairwise (· < ·)) (he : L = l ++ v :: t) : (L.filter fun i => decide (v < i)) = t := by
  subst he
  rw [List.pairwise_append] at h
  obtain ⟨h1, h2, h3⟩ := h
  rw [List.pairwise_cons] at h2
  rw [List.filter_append, List.filter_eq_nil_iff.2 (fun x hx => by have := h3 x hx v (by simp); simp; omega), List.nil_append, List.filter_cons, if_neg (by simp)]
  exact List.filter_eq_self.2 fun x hx => by simpa using h2.1 x hx
theorem bl_beh {x v : Nat} (hx : x < 18446744073709551616) (hv : v < 64) : bl (beh x v) = (bl x).filter fun i => decide (v < i) := by
  unfold bl bitsIn
  rw [List.filter_filter]
  exact List.filter_congr fun i _ => by rw [beh_bit hx hv, Bool.and_comm]
theorem bl_next {x v r : Nat} {l t : List Nat} (hx : x < 18446744073709551616) (he : bl x = l ++ v :: t) : bl (beh x v &&& r) = t.filter fun i => r.testBit i := by
  have hv : v < 64 := (mem_bl.1 (show v ∈ bl x by rw [he]; simp)).1
  rw [bl_and, bl_beh hx hv, filter_behind (bl_sorted x) he]
theorem ch_le (n k : Nat) : ch n k ≤ (n + 1) ^ k := by
  induction n generalizing k with
  | zero => cases k with
    | zero => rw [ch_zero]; simp
    | succ k => exact Nat.zero_le _
  | succ n ih => cases k with
    | zero => rw [ch_zero]; simp
    | succ k =>
      rw [ch_succ]
      have h1 := ih k
      have h2 := ih (k + 1)
      have h3 : (n + 1) ^ k ≤ (n + 1 + 1) ^ k := Nat.pow_le_pow_left (by omega) k
      rw [Nat.pow_succ] at h2 ⊢
      have h4 : (n + 1) ^ k * (n + 1) ≤ (n + 1 + 1) ^ k * (n + 1) := Nat.mul_le_mul_right _ h3
      have h5 : (n + 1 + 1) ^ k * (n + 1 + 1) = (n + 1 + 1) ^ k * (n + 1) + (n + 1 + 1) ^ k := Nat.mul_succ _ _
      rw [h5]
      generalize (n + 1 + 1) ^ k * (n + 1) = p at *
      generalize (n + 1) ^ k * (n + 1) = q at *
      omega
theorem cl_bd (a : Nat → Nat → Bool) (k : Nat) (hk : k ≤ 6) (x : Nat) : cl a k (bl x) ≤ 281474976710656 := by
  have h1 := cl_le_ch a k (bl x)
  have h2 := ch_mono k (bl_length x)
  have h3 := ch_le 64 k
  have h4 : (64 + 1) ^ k ≤ 65 ^ 6 := Nat.pow_le_pow_right (by omega) hk
  have h5 : 65 ^ 6 ≤ 281474976710656 := by decide +kernel
  omega

theorem behind_q (x v : Nat) (hx : x < 18446744073709551616) (hv : v < 64) (w : World) :
    Calls Tryd.prog 45 #[.int .u64 x, .int .i64 v] w fun e w' => e = .returned (.int .u64 (beh x v : Nat)) ∧ w' = w := (behind_any x v hx hv w).mono fun _ _ ⟨h1, h2⟩ => ⟨h1, h2.symm⟩
set_option maxRecDepth 100000 in
set_option maxHeartbeats 1000000 in
theorem cnt_any (gr n : Nat) (rows : List Nat) (hl : rows.length = n) (hrl : ∀ x ∈ rows, x < 18446744073709551616) (k : Nat) : k ≤ 6 → ∀ (x : Nat) (w : World), x < 18446744073709551616 → (∀ i, x.testBit i = true → i < n) → Tab w → AU w gr rows →
    Calls Tryd.prog 53 #[.slice (some ⟨gr, 0, none⟩) n n, .int .u64 x, .int .i64 k] w fun e w' => e = .returned (.int .i64 (cl (ad rows) k (bl x) : Nat)) ∧ ∃ q, w' = w.drewN q := by
  induction k with
  | zero =>
    intro hk x w hx hxn hT hA
    go_enter Tryd.func53, Tryd.ntmps53
    go_wp2_with fail
    go_ret
    exact ⟨rfl, 0, rfl⟩
  | succ k ih =>
    intro hk x w hx hxn hT hA
    by_cases hk0 : k = 0
    · subst hk0
      have h1 : cl (ad rows) 1 (bl x) = pop x := by rw [cl_one, pop_bl]
      replace h1 := Lib.hid h1
      go_enter Tryd.func53, Tryd.ntmps53
      go_wp2_with (go_at_call 43; refine (ones_any x hx _).mono ?_; rintro e w' ⟨rfl, rfl⟩)
      go_ret
      exact ⟨retInt (by rw [h1.out]), 0, rfl⟩
    · have ih' := ih (by omega)
      clear ih
      have q1 : (((k + 1 : Nat) : Int) == 0) = false := by rw [beq_eq_false_iff_ne]; omega
      have q2 : (((k + 1 : Nat) : Int) == 1) = false := by rw [beq_eq_false_iff_ne]; omega
      have hbd := cl_bd (ad rows) (k + 1) hk x
      have i3 : IntKind.i64.wrap (((k + 1 : Nat) : Int) - 1) = (k : Int) := by rw [show ((k + 1 : Nat) : Int) - 1 = (k : Int) by omega]; exact IntWalk.i64_in _ ⟨by omega, by omega⟩
      obtain ⟨K, hK⟩ : ∃ K : Int, K = ((k + 1 : Nat) : Int) := ⟨_, rfl⟩
      have hKn : K ≤ 6 := by omega
      have hKp : 2 ≤ K := by omega
      rw [← hK] at q1 q2 i3 ⊢
      replace hK := Lib.hid hK
      go_enter Tryd.func53, Tryd.ntmps53
      go_wp2_with fail
      go_loopw [7, 8] (fun s v wr => ∃ (y m : Nat) (l : List Nat), s = .int .i64 y ∧ v = .int .u64 m ∧ m < 18446744073709551616 ∧ Hid (bl x = l ++ bl m) ∧ Hid (y + cl (ad rows) (k + 1) (bl m) = cl (ad rows) (k + 1) (bl x)) ∧ Hid (∃ q, wr = w.drewN q)) (fun _ v _ => (intOf v).toNat)
      case atStart => exact ⟨0, x, [], rfl, rfl, hx, Lib.hid rfl, Lib.hid (by omega), Lib.hid ⟨0, rfl⟩⟩
      case round =>
        obtain ⟨y, m, l, rfl, rfl, hm, hl1, hy, hw⟩ := hrel
        have hAr : AU wr gr rows := by obtain ⟨q, rfl⟩ := hw.out; exact hA
        have hTr : Tab wr := by obtain ⟨q, rfl⟩ := hw.out; exact hT
        by_cases h0 : 0 < m
        · have hz : ((m : Int) != 0) = true := by simp; omega
          have hst := bl_step h0 hm
          have hl2 : bl x = l ++ Lib.ctz 64 m :: bl (m &&& (m - 1)) := by rw [hl1.out, hst]
          have hin : Lib.ctz 64 m ∈ bl x := by rw [hl2]; simp
          rw [mem_bl] at hin
          have hlt := and_pred_lt h0
          have hlt2 := and_lt' (y := m - 1) hm
          have hand := bits_and_u64_nat m (m - 1) hm (by omega)
          have hsub : IntKind.u64.wrap ((m : Int) - 1) = ((m - 1 : Nat) : Int) := by rw [show (m : Int) - 1 = ((m - 1 : Nat) : Int) by omega]; exact u64_in _ (by omega)
          have hl3 : bl x = (l ++ [Lib.ctz 64 m]) ++ bl (m &&& (m - 1)) := by rw [hl2]; simp
          have hzn := hxn _ hin.2
          have hz64 := hin.1
          have hcm : cl (ad rows) (k + 1) (bl m) = cl (ad rows) k ((bl (m &&& (m - 1))).filter (ad rows (Lib.ctz 64 m))) + cl (ad rows) (k + 1) (bl (m &&& (m - 1))) := by rw [hst, cl_cons]
          have htz := fun w hT => tz_any m h0 hm w hT
          clear hin hst
          generalize Lib.ctz 64 m = z at *
          generalize m &&& (m - 1) = m' at *
          have hnx := bl_next (r := rows.getD z 0) hx hl2
          have hr64 := getD_lt hrl z
          have hbz := beh_lt (v := z) hx
          have hand2 := bits_and_u64_nat (beh x z) (rows.getD z 0) hbz hr64
          have hbr := and_lt (x := beh x z) hr64
          have hcz := hAr.cell (i := z) (by omega)
          have hsubn : ∀ i, (beh x z &&& rows.getD z 0).testBit i = true → i < n := fun i hi => by
            rw [Nat.testBit_and, beh_bit hx hz64] at hi
            simp at hi
            exact hxn i hi.1.1
          have hic := fun w hT hA => ih' (beh x z &&& rows.getD z 0) w hbr hsubn hT hA
          have hbe := behind_q x z hx hz64
          have hnx' : bl (beh x z &&& rows.getD z 0) = (bl m').filter (ad rows z) := hnx
          rw [hnx'] at hic
          have hyb := hy.out
          have hcb : y + cl (ad rows) k ((bl m').filter (ad rows z)) ≤ 281474976710656 := by omega
          have hyy : y + cl (ad rows) k ((bl m').filter (ad rows z)) + cl (ad rows) (k + 1) (bl m') = cl (ad rows) (k + 1) (bl x) := by omega
          clear hl1 hl2 hy hyb hcm hnx hnx' ih'
          generalize beh x z &&& rows.getD z 0 = X at *
          generalize beh x z = bz at *
          generalize rows.getD z 0 = rz at *
          generalize cl (ad rows) k ((bl m').filter (ad rows z)) = C at *
          replace hyy := Lib.hid hyy
          replace hl3 := Lib.hid hl3
          replace hic := Lib.hid hic
          replace hbe := Lib.hid hbe
          replace htz := Lib.hid htz
          have i0 : (0 : Int) ≤ (z : Int) := Int.natCast_nonneg _
          have i1 : (z : Int) < (n : Int) := by omega
          go_wp2_with fail
          refine (htz.out _ hTr).mono ?_
          rintro e w1 ⟨rfl, rfl⟩
          go_wp2_with fail
          go_quiet ((first | (go_at_call 45; exact Calls.quiet_of_same (hbe.out _)) | (go_at_call 53; exact Calls.quiet_of (hic.out _ (Tab.drewN hTr _) (AU.drewN hAr _)))))
          go_wp2_with fail
          go_roundw
          case rel => exact ⟨y + C, m', _, by go_num, rfl, hlt2, hl3, hyy, Lib.hid (by obtain ⟨q, rfl⟩ := hw.out; exact ⟨_, World.drewN_drewN ..⟩)⟩
          case measure => simp [intOf]; omega
        · have hz : ((m : Int) != 0) = false := by simp; omega
          have hfin : ((y : Nat) : Int) = ((cl (ad rows) (k + 1) (bl x) : Nat) : Int) := by
            have := hy.out
            rw [show m = 0 by omega, bl_zero, cl_nil] at this
            omega
          replace hfin := Lib.hid hfin
          go_wp2_with fail
          go_ret
          exact ⟨retInt hfin.out, hw.out⟩
end Go.Proofs.YtknlmgcbdcepnaaDoor

namespace Go.Proofs.YtknlmgcbdcepnaaDoor
open Go.RowKit CoBit CoCli

set_option maxRecDepth 100000 in
set_option maxHeartbeats 4000000 in
theorem masks_any (A : Option Addr) (m c : Nat) (n : Nat) (es : List (Int × Int)) (w : World) (h : RE w A m es) (hm : m ≤ 1099511627776) (hn : n ≤ 64) (hc : chkG n es = 0) :
    Calls Tryd.prog 41 #[.agg #[.int .i64 n, .slice A m c]] w fun e w' => ∃ g, e = .returned (.slice (some ⟨g, 0, none⟩) n n) ∧ w.heap.size ≤ g ∧ AU w' g (CoBit.rowsL n es) ∧ Below w.heap.size w w' := by
  have hml := Lib.hid h.len
  have hE : Hid (∀ u v : Int, (u, v) ∈ es → 0 ≤ u ∧ u < v ∧ v < n) := Lib.hid fun u v hm => chkE_lt (chkG_zero hc).2.2 (u, v) hm
  go_enter Tryd.func41, Tryd.ntmps41
  go_wp2_with (at_make; refine wpList_makeU rfl _ _ rfl rfl rfl (n := n) (by omega) (by omega) (by omega) ?_; intro w1 hA1 hg1; have hG1 := Blk.grown (Blk.new w 24 #[.int .i64 n, .slice A m c]) hg1 (by simp); have c1 := Blk.cell hG1 1; simp at c1)
  have hb1 : Below w.heap.size w w1 := ((Below.refl _ _).alloc (Nat.le_refl _) _).trans (grown_none_below hg1 _ (by simp))
  simp only [World.size_alloc] at hA1
  have hs1 := hA1.lt
  clear hg1 c1
  generalize hgb : w.heap.size + 1 = gb at *
  have hgb1 : w.heap.size < gb := by omega
  clear hgb
  have hr1 := RE.below h hb1 (Nat.le_refl _)
  go_loopw [12] (fun i wr => ∃ k : Nat, k ≤ m ∧ i = .int .i64 k ∧ AU wr gb (CoBit.rowsL n (es.take k)) ∧ Blk wr w.heap.size 24 #[.int .i64 n, .slice A m c] ∧ Below w.heap.size w wr) (fun i _ => m - (intOf i).toNat)
  case atStart => exact ⟨0, Nat.zero_le _, rfl, hA1, hG1, hb1⟩
  case round =>
    obtain ⟨k, hk, rfl, hA, hG, hb⟩ := hrel
    have hs := hb.size
    have hgl := hA.lt
    by_cases hlt : k < m
    · obtain ⟨ad, u, v, rfl, hbl, hy, hc1, hc2⟩ := (RE.below h hb (Nat.le_refl _)).get hlt
      have hst := CoBit.rowsL_take (N := n) hy.out
      have hrl := CoBit.rowsL_length n (es.take k)
      have hrlt := rows_lt (N := n) (es.take k) hn
      by_cases hok : 0 ≤ u ∧ u < v ∧ v < n
      · obtain ⟨k0, k1, k2⟩ := hok
        obtain ⟨u, rfl⟩ := Int.eq_ofNat_of_zero_le k0
        obtain ⟨v, rfl⟩ := Int.eq_ofNat_of_zero_le (show 0 ≤ v by omega)
        rw [putE_ok (by omega) (by omega)] at hst
        generalize CoBit.rowsL n (es.take k) = rows at *
        have a1 := getD_lt hrlt u
        have hA2 := hA.alloc (.cells #[.int .i64 u, .int .i64 v] 59)
        have hcu := hA2.cell (i := u) (by omega)
        have hfu := hA2.frozen u
        have o1 := bits_or_u64_nat (rows.getD u 0) (2 ^ v) a1 (two_pow_lt (by omega))
        have p1 := wrap_pow (v := v) (by omega)
        have p2 := wrap_pow (v := u) (by omega)
        have hset : (rows.set u (rows.getD u 0 ||| 2 ^ v)).length = n := by simp [hrl]
        have hrl' := hrl
        generalize hr1e : rows.getD u 0 = r1 at *
        replace hr1e := Lib.hid hr1e
        have hA3 := hA2.drew.set u (r1 ||| 2 ^ v)
        have hlt2 : r1 ||| 2 ^ v < 18446744073709551616 := CoBit.or_lt a1 (two_pow_lt (by omega))
        have a2 : (rows.set u (r1 ||| 2 ^ v)).getD v 0 < 18446744073709551616 := by
          refine getD_lt ?_ v
          intro x hx
          rcases List.mem_or_eq_of_mem_set hx with hx | rfl
          · exact hrlt x hx
          · exact hlt2
        have hcv := hA3.cell (i := v) (by omega)
        have hfv := hA3.frozen v
        generalize rows.set u (r1 ||| 2 ^ v) = rows2 at *
        have o2 := bits_or_u64_nat (rows2.getD v 0) (2 ^ u) a2 (two_pow_lt (by omega))
        generalize hr2e : rows2.getD v 0 = r2 at *
        replace hr2e := Lib.hid hr2e
        have hA4 := hA3.drew.set v (r2 ||| 2 ^ u)
        generalize rows2.set v (r2 ||| 2 ^ u) = rows3 at *
        replace hst := Lib.hid hst
        clear hrlt
        replace hrl : n ≤ rows.length := by omega
        replace hset : n ≤ rows2.length := by omega
        clear hrl'
        generalize r1 ||| 2 ^ v = q1 at *
        generalize r2 ||| 2 ^ u = q2 at *
        have i0 : (0 : Int) ≤ (u : Int) := Int.natCast_nonneg _
        have i1 : (u : Int) < (n : Int) := by omega
        have i2 : (0 : Int) ≤ (v : Int) := Int.natCast_nonneg _
        have hne : gb ≠ wr.heap.size := by omega
        rw [← p1] at o1
        rw [← p2] at o2
        clear p1 p2 a1 a2 hlt2 hcv hfv hcu hfu
        go_wp2
        have hN : Blk (wr.alloc (.cells #[.int .i64 u, .int .i64 v] 59)) wr.heap.size 59 #[.int .i64 u, .int .i64 v] := Blk.new _ _ _
        have hG2 := hG.alloc (.cells #[.int .i64 u, .int .i64 v] 59)
        have hb2 := hb.alloc hs (.cells #[.int .i64 u, .int .i64 v] 59)
        generalize wr.alloc (.cells #[.int .i64 u, .int .i64 v] 59) = W at *
        have n0 := Blk.cell hN 0
        have n1 := Blk.cell hN 1
        simp at n0 n1
        have hcu := hA2.cell (i := u) (by omega)
        rw [hr1e.out] at hcu
        have hfu := hA2.frozen u
        go_region
        go_wp2
        have hN2 : Blk (W.setCell ⟨gb, u, none⟩ (.int .u64 (q1 : Int))).drew wr.heap.size 59 #[.int .i64 u, .int .i64 v] := Blk.drew (Blk.far hN (p := ⟨gb, u, none⟩) (by simp; omega) _)
        have hG3 : Blk (W.setCell ⟨gb, u, none⟩ (.int .u64 (q1 : Int))).drew w.heap.size 24 #[.int .i64 n, .slice (some ad) m c] := Blk.drew (Blk.far hG2 (p := ⟨gb, u, none⟩) (by simp; omega) _)
        have hb3 : Below w.heap.size w (W.setCell ⟨gb, u, none⟩ (.int .u64 (q1 : Int))).drew := (hb2.setCell (p := ⟨gb, u, none⟩) (by simp; omega) _).drew
        have hA3' : AU (W.setCell ⟨gb, u, none⟩ (.int .u64 (q1 : Int))).drew gb rows2 := hA3
        have hA4' : AU ((W.setCell ⟨gb, u, none⟩ (.int .u64 (q1 : Int))).drew.setCell ⟨gb, v, none⟩ (.int .u64 (q2 : Int))) gb rows3 := hA4
        clear hN hG2 hb2 hA3 hA4 hA2 n0 n1 hcu hfu
        generalize (W.setCell ⟨gb, u, none⟩ (.int .u64 (q1 : Int))).drew = W2 at *
        have n0 := Blk.cell hN2 0
        have n1 := Blk.cell hN2 1
        simp at n0 n1
        have hcv := hA3'.cell (i := v) (by omega)
        rw [hr2e.out] at hcv
        have hfv := hA3'.frozen v
        go_region
        go_wp2
        go_roundw
        case rel => exact ⟨k + 1, by omega, by go_num, by rw [hst.out]; exact hA4', Blk.drew (Blk.far (p := ⟨gb, v, none⟩) hG3 (by simp; omega) _), (hb3.setCell (p := ⟨gb, v, none⟩) (by simp; omega) _).drew⟩
        case measure => simp [intOf]; omega
      · exact absurd (hE.out u v (List.mem_of_getElem? hy.out)) hok
    · have hfin : AU wr gb (CoBit.rowsL n es) := by
        rwa [List.take_of_length_le (by rw [hml.out]; omega)] at hA
      go_wp2
      go_ret
      exact ⟨gb, rfl, by omega, hfin, hb⟩

/-- The error of a graph and a size. -/
def errC (n : Int) (es : List (Int × Int)) (size least : Int) : Int := if chkG n es ≠ 0 then chkG n es else if size < least ∨ 6 < size then 1 else 0
set_option maxHeartbeats 1000000 in
theorem ccheck_any (A : Option Addr) (m c : Nat) (n : Int) (es : List (Int × Int)) (size least : Int) (w : World) (h : RE w A m es) (hm : m ≤ 1099511627776) :
    Calls Tryd.prog 40 #[.agg #[.int .i64 n, .slice A m c], .int .i64 size, .int .i64 least] w fun e w' => e = .returned (.int .i64 (errC n es size least)) ∧ Below w.heap.size w w' := by
  by_cases h0 : chkG n es = 0
  · have hw : (size < least ∧ errC n es size least = 1) ∨ (¬ size < least ∧ 6 < size ∧ errC n es size least = 1) ∨ (¬ size < least ∧ ¬ 6 < size ∧ errC n es size least = 0) := by
      unfold errC
      rw [if_neg (by simp [h0])]
      by_cases h1 : size < least
      · exact .inl ⟨h1, if_pos (.inl h1)⟩
      · by_cases h2 : 6 < size
        · exact .inr (.inl ⟨h1, h2, if_pos (.inr h2)⟩)
        · exact .inr (.inr ⟨h1, h2, if_neg (by omega)⟩)
    rcases hw with ⟨h1, h3⟩ | ⟨h1, h2, h3⟩ | ⟨h1, h2, h3⟩
    all_goals
      replace h3 := Lib.hid h3
      go_enter Tryd.func40, Tryd.ntmps40
      go_wp2_with fail
      refine (gcheck_any A m c n es _ (h.alloc _) hm).mono ?_
      rintro e w1 ⟨rfl, hb1⟩
      rw [h0]
      have hb0 : Below w.heap.size w w1 := ((Below.refl _ _).alloc (Nat.le_refl _) _).trans (hb1.mono (by simp))
      clear hb1
      go_wp2_with fail
      go_ret
      exact ⟨retInt h3.out.symm, hb0⟩
  · have h3 : errC n es size least = chkG n es := by unfold errC; rw [if_pos h0]
    have hb : (chkG n es != 0) = true := by rw [bne_iff_ne]; exact h0
    generalize hz : chkG n es = z at *
    replace h3 := Lib.hid h3
    replace hz := Lib.hid hz
    clear h0
    go_enter Tryd.func40, Tryd.ntmps40
    go_wp2_with fail
    refine (gcheck_any A m c n es _ (h.alloc _) hm).mono ?_
    rintro e w1 ⟨rfl, hb1⟩
    rw [hz.out]
    have hb0 : Below w.heap.size w w1 := ((Below.refl _ _).alloc (Nat.le_refl _) _).trans (hb1.mono (by simp))
    clear hb1
    go_wp2_with fail
    go_ret
    exact ⟨retInt h3.out.symm, hb0⟩
end Go.Proofs.YtknlmgcbdcepnaaDoor
