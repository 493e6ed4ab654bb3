/- What is made of numbers (cohesionmake): sets and orders. -/
import Derived.Test.YtknlmgcbdcepnaaDoorMakA
import Derived.Test.YtknlmgcbdcepnaaDoorSetA
set_option linter.unusedVariables false
namespace Go.Proofs.YtknlmgcbdcepnaaDoor
open Go.RowKit

/-- The call returns a new list with P, and turns the deck alone. -/
def RetD (w : World) (g : Nat) (P : List Int → Prop) (e : Ending) (w' : World) : Prop := ∃ (xs : List Int) (A : Option Addr) (n c : Nat), e = .returned (.slice A n c) ∧ n ≤ c ∧ P xs ∧ RI w' A n xs ∧ Fr w.heap.size A ∧ Dk w' g ∧ w.grownBy w' (some g)
theorem vld_more {xs : List Int} {m m' : Int} (h : Vld xs m) (hm : m ≤ m') : Vld xs m' := ⟨fun x hx => ⟨(h.1 x hx).1, Int.lt_of_lt_of_le (h.1 x hx).2 hm⟩, h.2⟩
theorem vld_push {xs : List Int} {m : Int} (h : Vld xs m) (hm : 0 ≤ m) : Vld (xs ++ [m]) (m + 1) := by
  refine ⟨?_, ?_⟩
  · intro x hx
    rcases List.mem_append.1 hx with hx | hx
    · have := h.1 x hx; omega
    · rw [List.mem_singleton.1 hx]; omega
  · rw [List.pairwise_append]
    refine ⟨h.2, List.pairwise_singleton _ _, ?_⟩
    intro a ha b hb
    rw [List.mem_singleton.1 hb]
    exact (h.1 a ha).2
theorem grown_of_new {w w' w2 : World} {g : Nat} {row : Option Nat} (h : w.grownBy w' (some g)) (h2 : w'.grownBy w2 row) (hr : ∀ k, row = some k → w.heap.size ≤ k) : w.grownBy w2 (some g) :=
  ⟨h2.os.trans h.os, h2.tape.trans h.tape, h2.output.trans h.output, Nat.le_trans h.size h2.size, fun k hk hne => (h2.block k (Nat.lt_of_lt_of_le hk h.size) (fun e => by have := hr _ e.symm; omega)).trans (h.block k hk hne)⟩

/-- The list has each number from 0 to n - 1 once. -/
def Ord (xs : List Int) (n : Nat) : Prop := xs.length = n ∧ xs.Nodup ∧ ∀ x ∈ xs, 0 ≤ x ∧ x < n
theorem ord_nil : Ord [] 0 := ⟨rfl, List.Pairwise.nil, by simp⟩
theorem ord_put {xs : List Int} {n i : Nat} (h : Ord xs n) (hi : i ≤ n) : Ord (xs.take i ++ [(n : Int)] ++ xs.drop i) (n + 1) := by
  obtain ⟨h1, h2, h3⟩ := h
  have hp : (xs.take i ++ [(n : Int)] ++ xs.drop i).Perm ((n : Int) :: xs) := by
    have h := List.perm_middle (a := (n : Int)) (l₁ := xs.take i) (l₂ := xs.drop i)
    rw [List.take_append_drop] at h
    simpa using h
  refine ⟨by rw [hp.length_eq]; simp [h1], ?_, ?_⟩
  · rw [hp.nodup_iff, List.nodup_cons]
    exact ⟨fun hm => by have := (h3 _ hm).2; omega, h2⟩
  · intro x hx
    rcases List.mem_cons.1 (hp.mem_iff.1 hx) with rfl | hx
    · omega
    · have := h3 x hx; omega
theorem OI.take {w : World} {B : Nat} {A : Option Addr} {n c k : Nat} {ys : List Int} (h : OI w B (.slice A n c) ys) (hn : n = ys.length) (hk : k ≤ n) : w.ownsRow B 3 1 (.slice A k c) k (ints (ys.take k)) := by
  refine ⟨by rw [ints_length, List.length_take]; omega, ?_⟩
  rcases h.2 with ⟨hv, h0⟩ | ⟨g, cap, cur, hv, h1, h2, h3, h4, h5, h6⟩
  · injection hv with e1 e2 e3
    subst e1; subst e3
    exact .inl ⟨by rw [show k = 0 by omega], by omega⟩
  · injection hv with e1 e2 e3
    subst e1; subst e3
    refine .inr ⟨g, c, cur, rfl, h1, h2, by omega, h4, h5, ?_⟩
    rw [ints_take, ← h6, List.take_take, Nat.mul_one, Nat.min_eq_left (by omega)]
theorem own_one {w : World} {B : Nat} (x : Int) (hB : B ≤ w.heap.size) : (w.alloc (.cells #[.int .i64 x] 3)).ownsRow B 3 1 (.slice (some ⟨w.heap.size, 0, none⟩) 1 1) 1 (ints [x]) :=
  World.ownsRow_lit w #[.int .i64 x] 1 hB (by unfold maxLen; omega) rfl

end Go.Proofs.YtknlmgcbdcepnaaDoor
