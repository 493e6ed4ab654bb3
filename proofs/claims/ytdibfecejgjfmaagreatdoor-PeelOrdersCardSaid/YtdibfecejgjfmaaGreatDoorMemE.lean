/- Words for slices of edges. -/
import Derived.Test.YtdibfecejgjfmaaGreatDoorMem
set_option linter.unusedVariables false
namespace Go.Proofs.YtdibfecejgjfmaaGreatDoor
open Go.RowKit

/-- The cells of edges. -/
def edgs (es : List (Int × Int)) : List Value := es.flatMap fun e => [.int .i64 e.1, .int .i64 e.2]
theorem edgs_cons (e : Int × Int) (es : List (Int × Int)) : edgs (e :: es) = .int .i64 e.1 :: .int .i64 e.2 :: edgs es := rfl
theorem edgs_nil : edgs [] = [] := rfl
theorem edgs_append (a b : List (Int × Int)) : edgs (a ++ b) = edgs a ++ edgs b := by simp [edgs]
theorem edgs_length (es : List (Int × Int)) : (edgs es).length = es.length * 2 := by
  induction es with
  | nil => rfl
  | cons e es ih => rw [edgs_cons]; simp [ih]; omega
theorem edgs_at {es : List (Int × Int)} {k : Nat} {e : Int × Int} (h : es[k]? = some e) : (edgs es)[k * 2]? = some (.int .i64 e.1) ∧ (edgs es)[k * 2 + 1]? = some (.int .i64 e.2) := by
  induction es generalizing k with
  | nil => simp at h
  | cons x es ih =>
    cases k with
    | zero => simp at h; subst h; simp [edgs_cons]
    | succ k =>
      have := ih (k := k) (by simpa using h)
      rw [edgs_cons, show (k + 1) * 2 = k * 2 + 1 + 1 by omega]
      simpa using this
theorem edgs_one (es : List (Int × Int)) : ∀ u ∈ edgs es, u.oneCell' = true := by
  intro u hu
  simp only [edgs, List.mem_flatMap] at hu
  obtain ⟨e, _, hu⟩ := hu
  simp at hu
  rcases hu with rfl | rfl <;> rfl

/-- The slice reads as the edges es. -/
def RE (w : World) (A : Option Addr) (n : Nat) (es : List (Int × Int)) : Prop := Reads w w.heap.size 2 A n (edgs es)
section
variable {w w' : World} {n : Nat} {A : Option Addr} {es : List (Int × Int)}
theorem RE.len (h : RE w A n es) : es.length = n := by have := h.1; rw [edgs_length] at this; omega
theorem RE.get {k : Nat} (h : RE w A n es) (hk : k < n) : ∃ ad u v, A = some ad ∧ ad.block < w.heap.size ∧ Hid (es[k]? = some (u, v)) ∧ w.cell? (ad.add (k * 2)) = some (.int .i64 u) ∧ w.cell? ⟨(ad.add (k * 2)).block, (ad.add (k * 2)).off + 1, none⟩ = some (.int .i64 v) := by
  obtain ⟨ad, e, hb, hc⟩ := h.2 (by omega)
  have hl := h.len
  have hx : es[k]? = some es[k] := List.getElem?_eq_getElem (by omega)
  obtain ⟨h1, h2⟩ := edgs_at hx
  exact ⟨ad, _, _, e, hb, Lib.hid hx, hc _ _ h1, by have := hc _ _ h2; rw [← add_of_add] at this; exact this⟩
theorem RE.below {b : Nat} (h : RE w A n es) (hb : Below b w w') (hB : w.heap.size ≤ b) : RE w' A n es := (Reads.below h hb hB).more hb.size
theorem RE.drew (h : RE w A n es) : RE w.drew A n es := h
theorem RE.drewN (h : RE w A n es) (k : Nat) : RE (w.drewN k) A n es := h
theorem RE.alloc (h : RE w A n es) (o : Obj) : RE (w.alloc o) A n es := (Reads.alloc h (Nat.le_refl _) o).more (by simp)
theorem RE.none_ : RE w A 0 [] := Reads.none_
end
theorem RE.kept {w w' : World} {n : Nat} {A : Option Addr} {es : List (Int × Int)} {row : Option Nat} (h : RE w A n es) (hg : w.grownBy w' row) (hne : ∀ ad, A = some ad → some ad.block ≠ row) : RE w' A n es :=
  ⟨h.1, fun hn => by
    obtain ⟨ad, e, hb, hc⟩ := (show Reads w w.heap.size 2 A n (edgs es) from h).2 hn
    exact ⟨ad, e, Nat.lt_of_lt_of_le hb hg.size, fun j u hu => (World.cell?_of_block (hg.block (ad.add j).block (by rw [block_of_add]; exact hb) (by rw [block_of_add]; exact hne ad e))).trans (hc j u hu)⟩⟩
theorem edge_info : (Tryz.prog.info? 53).map (fun i => (i.zero, i.size, i.bytes)) = some (some (.agg #[.int .i64 0, .int .i64 0]), 2, 16) := by kernel_rfl
/-- The slice v is the call's own, and holds the edges es. -/
def OE (w : World) (B : Nat) (v : Value) (es : List (Int × Int)) : Prop := w.ownsRow B 53 2 v es.length (edgs es)
section
variable {w w' : World} {B : Nat} {v : Value} {es : List (Int × Int)}
theorem OE.nil_ : OE w B (.slice none 0 0) [] := World.ownsRow_nil _ _ _ _
theorem OE.alloc (h : OE w B v es) (o : Obj) : OE (w.alloc o) B v es := World.ownsRow.alloc h o
theorem OE.kept {row : Option Nat} (h : OE w B v es) (hg : w.grownBy w' row) (hne : v.ownBlock = none ∨ v.ownBlock ≠ row) : OE w' B v es := World.ownsRow.kept h hg hne
theorem OE.block_lt (h : OE w B v es) : ∀ k, v.ownBlock = some k → B ≤ k ∧ k < w.heap.size := World.ownsRow.lt h
theorem OE.form (h : OE w B v es) : ∃ A n c, v = .slice A n c ∧ n = es.length ∧ n ≤ c ∧ c ≤ maxLen ∧ RE w A n es ∧ Fr B A := by
  obtain ⟨A, c, rfl, h1, h2⟩ := own_form h
  exact ⟨A, _, c, rfl, rfl, h1, h2, Reads.of_own h, own_fresh h⟩
theorem OE.re {A : Option Addr} {n c : Nat} (h : OE w B (.slice A n c) es) (hn : n = es.length) : RE w A n es ∧ n ≤ c ∧ Fr B A := by
  subst hn
  obtain ⟨A', c', hv, h1, _⟩ := own_form h
  injection hv with _ _ hc
  exact ⟨Reads.of_own h, by rw [hc]; exact h1, own_fresh h⟩
theorem OE.set_far (h : OE w B v es) {p : Addr} (hp : p.block < B) (u : Value) : OE (w.setCell p u) B v es := ownsRow_setCell_below h hp u
end
theorem news_edge (w : World) (t : TypeId) (a b : Int) : Reads (w.alloc (.cells #[.int .i64 a, .int .i64 b] t)) (w.alloc (.cells #[.int .i64 a, .int .i64 b] t)).heap.size 2 (some ⟨w.heap.size, 0, none⟩) 1 (edgs [(a, b)]) :=
  ⟨rfl, fun _ => ⟨_, rfl, by simp, World.news_of_block (cs := #[.int .i64 a, .int .i64 b]) (t := t) (fr := (0, 0)) (heap_alloc_new w _)⟩⟩
/-- append of one edge. -/
theorem wpList_pushE {ops : Array Oper} {rest : List Oper} {o : Oper} {a : Act} {Q : Exit → Act → World → Prop} {w : World} {T B H : Nat} {v : Value} {es : List (Int × Int)} {x y : Int}
    (hgd : o.guard = none) (s z : Operand) (ho : o.op = .call { callee := .builtin .append, args := #[s, z], argTypes := #[22, 22] })
    (hs : a.eval s = v) (hx : a.eval z = .slice (some ⟨H, 0, none⟩) 1 1) (hH : H = w.heap.size) (hown : OE w B v es) (hn : es.length ≤ 1099511627776) (hB : B ≤ w.heap.size)
    (h : ∀ v' w', OE w' B v' (es ++ [(x, y)]) → Below B w w' → w.grownBy w' v.ownBlock → wpList Tryz.prog ops Q rest (a.put o.dst v') w') :
    wpList Tryz.prog ops Q (o :: rest) a (w.alloc (.cells #[.int .i64 x, .int .i64 y] T)) := by
  obtain ⟨i0, hi0, hz0, hz1, hz2⟩ := info_parts edge_info
  subst hH
  refine wpList_append_any _ hgd s z _ ho B 53 i0 _ 2 16 Tryz.underlying22 hi0 hz0 hz1 hz2 rfl (by omega) v es.length (edgs es) hs (hown.alloc _) _ _ 1 1 (edgs [(x, y)]) hx (news_edge w T x y) (edgs_one _) (by unfold maxLen; omega) (by omega) (by simp; omega) ?_
  intro v' w' h1 h2 _
  refine h v' w' ?_ (below_own ((Below.refl _ _).alloc hB _) h2 (by simp; omega) (own_block hown)) ?_
  · unfold OE
    rw [List.length_append, edgs_append]; exact h1
  · refine ⟨h2.os, h2.tape, h2.output, Nat.le_trans (by simp) h2.size, fun k hk hne => (h2.block k (by simp; omega) hne).trans (Below.heap_alloc w _ k hk)⟩
end Go.Proofs.YtdibfecejgjfmaaGreatDoor
