/- Words for slices that a call makes by their length: numbers and sets of bits in a block of their own. -/
import Derived.Test.YtknlmgcbdcepnaaDoorMem
set_option linter.unusedVariables false
namespace Go.Proofs.YtknlmgcbdcepnaaDoor
open Go.RowKit

def u64s (xs : List Nat) : List Value := xs.map fun x : Nat => Value.int .u64 (x : Int)
/-- Block g holds the numbers xs. -/
def AI (w : World) (g : Nat) (xs : List Int) : Prop := Blk w g 3 (ints xs).toArray
/-- Block g holds the sets xs. -/
def AU (w : World) (g : Nat) (xs : List Nat) : Prop := Blk w g 65 (u64s xs).toArray
section
variable {w w' : World} {g : Nat} {xs : List Int} {us : List Nat}
theorem AI.lt (h : AI w g xs) : g < w.heap.size := Blk.lt h
theorem AI.cell (h : AI w g xs) {i : Nat} (hi : i < xs.length) : w.cell? ⟨g, i, none⟩ = some (.int .i64 (xs.getD i 0)) := by
  rw [Blk.cell h i]
  simp [ints, List.getD_eq_getElem?_getD, hi]
theorem AI.frozen (h : AI w g xs) (i : Nat) : w.frozen? ⟨g, i, none⟩ = false := Blk.frozen h i
theorem AI.set (h : AI w g xs) (i : Nat) (v : Int) : AI (w.setCell ⟨g, i, none⟩ (.int .i64 v)) g (xs.set i v) := by
  have := Blk.set h i (.int .i64 v)
  unfold AI
  have e : (ints xs).toArray.setIfInBounds i (.int .i64 v) = (ints (xs.set i v)).toArray := by simp [ints, List.map_set]
  rwa [e] at this
theorem AI.far (h : AI w g xs) {p : Addr} (hp : g ≠ p.block) (u : Value) : AI (w.setCell p u) g xs := Blk.far h hp u
theorem AI.below {B : Nat} (h : AI w g xs) (hb : Below B w w') (hg : g < B) : AI w' g xs := Blk.below h hb hg
theorem AI.grown {row : Option Nat} (h : AI w g xs) (hb : w.grownBy w' row) (hg : some g ≠ row) : AI w' g xs := Blk.grown h hb hg
theorem AI.alloc (h : AI w g xs) (o : Obj) : AI (w.alloc o) g xs := Blk.alloc h o
theorem AI.drew (h : AI w g xs) : AI w.drew g xs := h
theorem AI.drewN (h : AI w g xs) (n : Nat) : AI (w.drewN n) g xs := h
theorem AI.ri (h : AI w g xs) {n : Nat} (hn : n = xs.length) : RI w (some ⟨g, 0, none⟩) n xs := by
  subst hn
  refine ⟨by rw [ints_length]; omega, fun _ => ⟨_, rfl, h.lt, fun j u hu => ?_⟩⟩
  have hc := Blk.cell h j
  have : ((⟨g, 0, none⟩ : Addr).add j) = ⟨g, j, none⟩ := by unfold Addr.add; split <;> simp_all
  rw [this, hc]
  simpa using hu
theorem AU.lt (h : AU w g us) : g < w.heap.size := Blk.lt h
theorem AU.cell (h : AU w g us) {i : Nat} (hi : i < us.length) : w.cell? ⟨g, i, none⟩ = some (.int .u64 ((us.getD i 0 : Nat) : Int)) := by
  rw [Blk.cell h i]
  simp [u64s, List.getD_eq_getElem?_getD, hi]
theorem AU.frozen (h : AU w g us) (i : Nat) : w.frozen? ⟨g, i, none⟩ = false := Blk.frozen h i
theorem AU.set (h : AU w g us) (i : Nat) (v : Nat) : AU (w.setCell ⟨g, i, none⟩ (.int .u64 (v : Int))) g (us.set i v) := by
  have := Blk.set h i (.int .u64 (v : Int))
  unfold AU
  have e : (u64s us).toArray.setIfInBounds i (.int .u64 (v : Int)) = (u64s (us.set i v)).toArray := by simp [u64s, List.map_set]
  rwa [e] at this
theorem AU.far (h : AU w g us) {p : Addr} (hp : g ≠ p.block) (u : Value) : AU (w.setCell p u) g us := Blk.far h hp u
theorem AU.below {B : Nat} (h : AU w g us) (hb : Below B w w') (hg : g < B) : AU w' g us := Blk.below h hb hg
theorem AU.grown {row : Option Nat} (h : AU w g us) (hb : w.grownBy w' row) (hg : some g ≠ row) : AU w' g us := Blk.grown h hb hg
theorem AU.alloc (h : AU w g us) (o : Obj) : AU (w.alloc o) g us := Blk.alloc h o
theorem AU.drew (h : AU w g us) : AU w.drew g us := h
theorem AU.drewN (h : AU w g us) (n : Nat) : AU (w.drewN n) g us := h
end
theorem blk_of_own {w : World} {B g n : Nat} {e : TypeId} {xs : List Value} (h : w.ownsRow B e 1 (.slice (some ⟨g, 0, none⟩) n n) n xs) : Blk w g e xs.toArray := by
  rcases h.2 with ⟨hv, _⟩ | ⟨g', cap, cur, hv, _, hh, _, _, hs, ht⟩
  · cases hv
  · injection hv with h1 h2 h3
    injection h1 with h1
    injection h1 with h1
    subst h1; subst h3
    unfold Blk
    rw [hh]
    have : cur = xs.toArray := by
      rw [← ht, List.take_of_length_le (by simp [hs])]
    rw [this]
theorem uint_info : (Tryd.prog.info? 65).map (fun i => (i.zero, i.size, i.bytes)) = some (some (.int .u64 0), 1, 8) := by kernel_rfl
/-- make([]int, n) -/
theorem wpList_makeI {ops : Array Oper} {rest : List Oper} {o : Oper} {a : Act} {Q : Exit → Act → World → Prop} {w : World} {L C : Int} {n : Nat}
    (hg : o.guard = none) (l c : Operand) (hop : o.op = Op.makeSlice 26 l c) (hl : a.eval l = .int .i64 L) (hc : a.eval c = .int .i64 C) (hL : L = (n : Int)) (hC : C = (n : Int)) (hn : n ≤ 1099511627776)
    (h : ∀ w', AI w' w.heap.size (List.replicate n 0) → w.grownBy w' none → wpList Tryd.prog ops Q rest (a.put o.dst (.slice (some ⟨w.heap.size, 0, none⟩) n n)) w') :
    wpList Tryd.prog ops Q (o :: rest) a w := by
  obtain ⟨i0, hi0, hz0, hz1, hz2⟩ := info_parts int_info
  refine wpList_make_full w hg l c 26 hop w.heap.size 3 i0 _ 1 Tryd.underlying26 hi0 hz0 hz1 _ _ L C n hl hc hL hC (by rw [hz2]; omega) (by unfold maxLen; omega) (Nat.le_refl _) ?_
  intro w' h1 h2
  refine h w' ?_ h2
  have := blk_of_own h1
  rw [show (Value.int IntKind.i64 0).cells = #[.int .i64 0] from rfl, Nat.mul_one, toList_madeCells_one] at this
  unfold AI
  have e : ints (List.replicate n 0) = List.replicate n (.int .i64 0) := List.map_replicate
  rw [e]; exact this
/-- make([]uint64, n) -/
theorem wpList_makeU {ops : Array Oper} {rest : List Oper} {o : Oper} {a : Act} {Q : Exit → Act → World → Prop} {w : World} {L C : Int} {n : Nat}
    (hg : o.guard = none) (l c : Operand) (hop : o.op = Op.makeSlice 61 l c) (hl : a.eval l = .int .i64 L) (hc : a.eval c = .int .i64 C) (hL : L = (n : Int)) (hC : C = (n : Int)) (hn : n ≤ 1099511627776)
    (h : ∀ w', AU w' w.heap.size (List.replicate n 0) → w.grownBy w' none → wpList Tryd.prog ops Q rest (a.put o.dst (.slice (some ⟨w.heap.size, 0, none⟩) n n)) w') :
    wpList Tryd.prog ops Q (o :: rest) a w := by
  obtain ⟨i0, hi0, hz0, hz1, hz2⟩ := info_parts uint_info
  refine wpList_make_full w hg l c 61 hop w.heap.size 65 i0 _ 1 Tryd.underlying61 hi0 hz0 hz1 _ _ L C n hl hc hL hC (by rw [hz2]; omega) (by unfold maxLen; omega) (Nat.le_refl _) ?_
  intro w' h1 h2
  refine h w' ?_ h2
  have := blk_of_own h1
  rw [show (Value.int IntKind.u64 0).cells = #[.int .u64 0] from rfl, Nat.mul_one, toList_madeCells_one] at this
  unfold AU
  have e : u64s (List.replicate n 0) = List.replicate n (.int .u64 0) := List.map_replicate
  rw [e]; exact this
theorem grown_none_below {w w' : World} (h : w.grownBy w' none) (B : Nat) (hB : B ≤ w.heap.size) : Below B w w' := (Below.refl _ _).grown h hB (fun k hk => by cases hk)
theorem grown_setB {w w' : World} {g : Nat} (h : w.grownBy w' (some g)) (i : Nat) (u : Value) : w.grownBy (w'.setCell ⟨g, i, none⟩ u) (some g) :=
  ⟨h.os, h.tape, h.output, by simpa [World.setCell] using h.size, fun k hk hne => (Below.heap_setCell w' ⟨g, i, none⟩ u k (fun e => hne (by rw [e]))).trans (h.block k hk hne)⟩
def bools (xs : List Bool) : List Value := xs.map Value.bool
/-- Block g holds the truth values xs. -/
def AB (w : World) (g : Nat) (xs : List Bool) : Prop := Blk w g 4 (bools xs).toArray
section
variable {w w' : World} {g : Nat} {bs : List Bool}
theorem AB.lt (h : AB w g bs) : g < w.heap.size := Blk.lt h
theorem AB.cell (h : AB w g bs) {i : Nat} (hi : i < bs.length) : w.cell? ⟨g, i, none⟩ = some (.bool (bs.getD i false)) := by
  rw [Blk.cell h i]
  simp [bools, List.getD_eq_getElem?_getD, hi]
theorem AB.frozen (h : AB w g bs) (i : Nat) : w.frozen? ⟨g, i, none⟩ = false := Blk.frozen h i
theorem AB.set (h : AB w g bs) (i : Nat) (v : Bool) : AB (w.setCell ⟨g, i, none⟩ (.bool v)) g (bs.set i v) := by
  have := Blk.set h i (.bool v)
  unfold AB
  have e : (bools bs).toArray.setIfInBounds i (.bool v) = (bools (bs.set i v)).toArray := by simp [bools, List.map_set]
  rwa [e] at this
theorem AB.below {B : Nat} (h : AB w g bs) (hb : Below B w w') (hg : g < B) : AB w' g bs := Blk.below h hb hg
theorem AB.alloc (h : AB w g bs) (o : Obj) : AB (w.alloc o) g bs := Blk.alloc h o
theorem AB.drewN (h : AB w g bs) (n : Nat) : AB (w.drewN n) g bs := h
end
theorem bool_info : (Tryd.prog.info? 4).map (fun i => (i.zero, i.size, i.bytes)) = some (some (.bool false), 1, 1) := by kernel_rfl
end Go.Proofs.YtknlmgcbdcepnaaDoor
