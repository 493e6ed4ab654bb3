/- Plain laws of the reference's sets, and of cores of graphs. -/
import Derived.Test.YtdibfecejgjfmaaGreatDoorSetB
set_option linter.unusedVariables false
namespace Go.Proofs.YtdibfecejgjfmaaGreatDoor

theorem mem_put {l : List Int} {x y : Int} : x ∈ putL l y ↔ x = y ∨ x ∈ l := by
  induction l with
  | nil => simp [putL]
  | cons z l ih =>
    unfold putL
    split
    · rw [List.mem_cons, ih, List.mem_cons]
      constructor
      · rintro (h | h | h)
        · exact .inr (.inl h)
        · exact .inl h
        · exact .inr (.inr h)
      · rintro (h | h | h)
        · exact .inr (.inl h)
        · exact .inl h
        · exact .inr (.inr h)
    · split
      · rename_i h1 h2
        subst h2
        simp
      · simp
theorem put_sorted {l : List Int} {y : Int} (h : l.Pairwise (· < ·)) : (putL l y).Pairwise (· < ·) := by
  induction l with
  | nil => simp [putL]
  | cons z l ih =>
    obtain ⟨h1, h2⟩ := List.pairwise_cons.1 h
    unfold putL
    split
    · rename_i hzy
      refine List.pairwise_cons.2 ⟨fun x hx => ?_, ih h2⟩
      rcases mem_put.1 hx with rfl | hx
      · exact hzy
      · exact h1 x hx
    · split
      · exact h
      · rename_i h3 h4
        refine List.pairwise_cons.2 ⟨fun x hx => ?_, h⟩
        rcases List.mem_cons.1 hx with rfl | hx
        · omega
        · have := h1 x hx; omega
theorem foldl_put_mem {xs acc : List Int} {x : Int} : x ∈ xs.foldl putL acc ↔ x ∈ acc ∨ x ∈ xs := by
  induction xs generalizing acc with
  | nil => simp
  | cons y xs ih =>
    rw [List.foldl_cons, ih, mem_put, List.mem_cons]
    constructor
    · rintro ((h | h) | h)
      · exact .inr (.inl h)
      · exact .inl h
      · exact .inr (.inr h)
    · rintro (h | h | h)
      · exact .inl (.inr h)
      · exact .inl (.inl h)
      · exact .inr h
theorem mem_of {xs : List Int} {x : Int} : x ∈ ofL xs ↔ x ∈ xs := by unfold ofL; rw [foldl_put_mem]; simp
theorem foldl_put_sorted {xs acc : List Int} (h : acc.Pairwise (· < ·)) : (xs.foldl putL acc).Pairwise (· < ·) := by
  induction xs generalizing acc with
  | nil => exact h
  | cons y xs ih => exact ih (put_sorted h)
theorem of_sorted (xs : List Int) : (ofL xs).Pairwise (· < ·) := foldl_put_sorted List.Pairwise.nil
/-- Ascending lists with the same elements are the same. -/
theorem sorted_ext {a b : List Int} (ha : a.Pairwise (· < ·)) (hb : b.Pairwise (· < ·)) (h : ∀ x, x ∈ a ↔ x ∈ b) : a = b := by
  induction a generalizing b with
  | nil =>
    cases b with
    | nil => rfl
    | cons y b => have := (h y).2 (by simp); cases this
  | cons x a ih =>
    obtain ⟨a1, a2⟩ := List.pairwise_cons.1 ha
    cases b with
    | nil => have := (h x).1 (by simp); cases this
    | cons y b =>
      obtain ⟨b1, b2⟩ := List.pairwise_cons.1 hb
      have hxy : x = y := by
        rcases List.mem_cons.1 ((h x).1 (by simp)) with e | e
        · exact e
        · rcases List.mem_cons.1 ((h y).2 (by simp)) with e' | e'
          · exact e'.symm
          · have := b1 x e; have := a1 y e'; omega
      subst hxy
      congr 1
      refine ih a2 b2 fun z => ⟨fun hz => ?_, fun hz => ?_⟩
      · rcases List.mem_cons.1 ((h z).1 (by simp [hz])) with e | e
        · have := a1 z hz; omega
        · exact e
      · rcases List.mem_cons.1 ((h z).2 (by simp [hz])) with e | e
        · have := b1 z hz; omega
        · exact e
theorem of_id {xs : List Int} (h : xs.Pairwise (· < ·)) : ofL xs = xs := sorted_ext (of_sorted xs) h fun x => mem_of
theorem meet_sorted {a : List Int} (h : a.Pairwise (· < ·)) (b : List Int) : meetL a b = a.filter (fun x => x ∈ b) := by unfold meetL; rw [of_id h]
theorem minus_sorted {a : List Int} (h : a.Pairwise (· < ·)) (b : List Int) : minusL a b = a.filter (fun x => x ∉ b) := by unfold minusL; rw [of_id h]

/-- How many neighbours of v are in l. -/
def dg (nb : Int → List Int) (l : List Int) (v : Int) : Nat := ((nb v).filter (fun x => decide (x ∈ l))).length
theorem dg_mono {nb : Int → List Int} {l l' : List Int} {v : Int} (h : ∀ x ∈ l, x ∈ l') : dg nb l v ≤ dg nb l' v := by
  unfold dg
  rw [← List.countP_eq_length_filter, ← List.countP_eq_length_filter]
  exact List.countP_mono_left fun x _ hx => by simp at hx ⊢; exact h x hx
theorem dg_congr {nb : Int → List Int} {l l' : List Int} {v : Int} (h : ∀ x, x ∈ l ↔ x ∈ l') : dg nb l v = dg nb l' v :=
  Nat.le_antisymm (dg_mono fun x hx => (h x).1 hx) (dg_mono fun x hx => (h x).2 hx)
/-- v lies in the k-core. -/
def inC (nb : Int → List Int) (n : Int) (k : Int) (v : Int) : Prop := ∃ S : List Int, v ∈ S ∧ ∀ u ∈ S, 0 ≤ u ∧ u < n ∧ k ≤ (dg nb S u : Int)
/-- The list holds the k-core. -/
def Good (nb : Int → List Int) (n k : Int) (l : List Int) : Prop := Vld l n ∧ ∀ v, inC nb n k v → v ∈ l
theorem inC_dg {nb : Int → List Int} {n k v : Int} {l : List Int} (h : inC nb n k v) (hl : ∀ v, inC nb n k v → v ∈ l) : k ≤ (dg nb l v : Int) := by
  obtain ⟨S, hv, hS⟩ := h
  have h1 := (hS v hv).2.2
  have h2 : dg nb S v ≤ dg nb l v := dg_mono fun x hx => hl x ⟨S, hx, hS⟩
  omega
theorem vld_filter {l : List Int} {n : Int} (h : Vld l n) (p : Int → Bool) : Vld (l.filter p) n := ⟨fun x hx => h.1 x (List.mem_filter.1 hx).1, h.2.filter p⟩
theorem good_minus {nb : Int → List Int} {n k v : Int} {l : List Int} (h : Good nb n k l) (hd : (dg nb l v : Int) < k) : Good nb n k (minusL l [v]) := by
  rw [minus_sorted h.1.2]
  refine ⟨vld_filter h.1 _, fun u hu => ?_⟩
  rw [List.mem_filter]
  refine ⟨h.2 u hu, ?_⟩
  simp
  rintro rfl
  have := inC_dg hu h.2
  omega
theorem core_done {nb : Int → List Int} {n k : Int} {l : List Int} (h : Good nb n k l) (hd : ∀ v ∈ l, k ≤ (dg nb l v : Int)) (v : Int) : v ∈ l ↔ inC nb n k v :=
  ⟨fun hv => ⟨l, hv, fun u hu => ⟨(h.1.1 u hu).1, (h.1.1 u hu).2, hd u hu⟩⟩, h.2 v⟩
theorem inC_range {nb : Int → List Int} {n k v : Int} (h : inC nb n k v) : 0 ≤ v ∧ v < n := by
  obtain ⟨S, hv, hS⟩ := h
  exact ⟨(hS v hv).1, (hS v hv).2.1⟩
theorem inC_mono {nb : Int → List Int} {n k k' v : Int} (h : inC nb n k v) (hk : k' ≤ k) : inC nb n k' v := by
  obtain ⟨S, hv, hS⟩ := h
  exact ⟨S, hv, fun u hu => ⟨(hS u hu).1, (hS u hu).2.1, by have := (hS u hu).2.2; omega⟩⟩
/-- The numbers from 0 to n - 1. -/
def rng (n : Nat) : List Int := (List.range n).map fun i : Nat => (i : Int)
theorem mem_rng {n : Nat} {x : Int} : x ∈ rng n ↔ 0 ≤ x ∧ x < n := by
  unfold rng
  rw [List.mem_map]
  constructor
  · rintro ⟨i, hi, rfl⟩
    rw [List.mem_range] at hi
    omega
  · intro h
    exact ⟨x.toNat, by rw [List.mem_range]; omega, by omega⟩
theorem rng_length (n : Nat) : (rng n).length = n := by unfold rng; simp
theorem rng_succ (n : Nat) : rng (n + 1) = rng n ++ [(n : Int)] := by unfold rng; rw [List.range_succ, List.map_append]; rfl
theorem rng_sorted (n : Nat) : (rng n).Pairwise (· < ·) := by
  unfold rng
  rw [List.pairwise_map]
  exact List.pairwise_lt_range.imp fun h => by omega
theorem rng_vld (n : Nat) : Vld (rng n) n := ⟨fun x hx => mem_rng.1 hx, rng_sorted n⟩
theorem good_all (nb : Int → List Int) (n : Nat) (k : Int) : Good nb n k (rng n) := ⟨rng_vld n, fun v hv => mem_rng.2 (inC_range hv)⟩
/-- What is left when some have been taken. -/
def rst (n : Nat) (p : List Int) : List Int := (rng n).filter fun x => decide (x ∉ p)
theorem mem_rst {n : Nat} {p : List Int} {x : Int} : x ∈ rst n p ↔ (0 ≤ x ∧ x < n) ∧ x ∉ p := by unfold rst; rw [List.mem_filter, mem_rng]; simp
theorem rst_nil (n : Nat) : rst n [] = rng n := by unfold rst; rw [List.filter_eq_self]; intro x _; simp
theorem rst_sorted (n : Nat) (p : List Int) : (rst n p).Pairwise (· < ·) := (rng_sorted n).filter _
theorem rst_vld (n : Nat) (p : List Int) : Vld (rst n p) n := vld_filter (rng_vld n) _
theorem rst_push (n : Nat) (p : List Int) (v : Int) : minusL (rst n p) [v] = rst n (p ++ [v]) := by
  rw [minus_sorted (rst_sorted n p)]
  refine sorted_ext ((rst_sorted n p).filter _) (rst_sorted n _) fun x => ?_
  rw [List.mem_filter, mem_rst, mem_rst]
  simp
  constructor
  · rintro ⟨⟨h1, h2⟩, h3⟩; exact ⟨h1, h2, h3⟩
  · rintro ⟨h1, h2, h3⟩; exact ⟨⟨h1, h2⟩, h3⟩
end Go.Proofs.YtdibfecejgjfmaaGreatDoor
