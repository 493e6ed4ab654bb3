/- Words for slices of edges. -/
import Derived.Test.YtkcmbpokoijglaaMem
set_option linter.unusedVariables false
namespace Go.Proofs.Ytkcmbpokoijglaa
open Go.RowKit

/-- The cells of edges. -/
def edgs (es : List (Int × Int)) : List Value := es.flatMap fun e => [.int .i64 e.1, .int .i64 e.2]
theorem edgs_cons (e : Int × Int) (es : List (Int × Int)) : edgs (e :: es) = .int .i64 e.1 :: .int .i64 e.2 :: edgs es := rfl
theorem edgs_nil : edgs [] = [] := rfl
theorem edgs_append (a b : List (Int × Int)) : edgs (a ++ b) = edgs a ++ edgs b := by simp [edgs]
theorem edgs_length (es : List (Int × Int)) : (edgs es).length = es.length * 2 := by
  induction es with
  | nil => rfl
  | cons e es ih => rw [edgs_cons]; simp [ih]; omega
theorem edgs_at {es : List (Int × Int)} {k : Nat} {e : Int × Int} (h : es[k]? = some e) : (edgs es)[k * 2]? = some (.int .i64 e.1) ∧ (edgs es)[k * 2 + 1]? = some (.int .i64 e.2) := by
  induction es generalizing k with
  | nil => simp at h
  | cons x es ih =>
    cases k with
    | zero => simp at h; subst h; simp [edgs_cons]
    | succ k =>
      have := ih (k := k) (by simpa using h)
      rw [edgs_cons, show (k + 1) * 2 = k * 2 + 1 + 1 by omega]
      simpa using this
theorem edgs_one (es : List (Int × Int)) : ∀ u ∈ edgs es, u.oneCell' = true := by
  intro u hu
  simp only [edgs, List.mem_flatMap] at hu
  obtain ⟨e, _, hu⟩ := hu
  simp at hu
  rcases hu with rfl | rfl <;> rfl

/-- The slice reads as the edges es. -/
def RE (w : World) (A : Option Addr) (n : Nat) (es : List (Int × Int)) : Prop := Reads w w.heap.size 2 A n (edgs es)
section
variable {w w' : World} {n : Nat} {A : Option Addr} {es : List (Int × Int)}
theorem RE.len (h : RE w A n es) : es.length = n := by have := h.1; rw [edgs_length] at this; omega
theorem RE.get {k : Nat} (h : RE w A n es) (hk : k < n) : ∃ ad u v, A = some ad ∧ ad.block < w.heap.size ∧ Hid (es[k]? = some (u, v)) ∧ w.cell? (ad.add (k * 2)) = some (.int .i64 u) ∧ w.cell? ⟨(ad.add (k * 2)).block, (ad.add (k * 2)).off + 1, none⟩ = some (.int .i64 v) := by
  obtain ⟨ad, e, hb, hc⟩ := h.2 (by omega)
  have hl := h.len
  have hx : es[k]? = some es[k] := List.getElem?_eq_getElem (by omega)
  obtain ⟨h1, h2⟩ := edgs_at hx
  exact ⟨ad, _, _, e, hb, Lib.hid hx, hc _ _ h1, by have := hc _ _ h2; rw [← add_of_add] at this; exact this⟩
theorem RE.below {b : Nat} (h : RE w A n es) (hb : Below b w w') (hB : w.heap.size ≤ b) : RE w' A n es := (Reads.below h hb hB).more hb.size
theorem RE.drew (h : RE w A n es) : RE w.drew A n es := h
theorem RE.drewN (h : RE w A n es) (k : Nat) : RE (w.drewN k) A n es := h
theorem RE.alloc (h : RE w A n es) (o : Obj) : RE (w.alloc o) A n es := (Reads.alloc h (Nat.le_refl _) o).more (by simp)
theorem RE.none_ : RE w A 0 [] := Reads.none_
end
theorem RE.kept {w w' : World} {n : Nat} {A : Option Addr} {es : List (Int × Int)} {row : Option Nat} (h : RE w A n es) (hg : w.grownBy w' row) (hne : ∀ ad, A = some ad → some ad.block ≠ row) : RE w' A n es :=
  ⟨h.1, fun hn => by
    obtain ⟨ad, e, hb, hc⟩ := (show Reads w w.heap.size 2 A n (edgs es) from h).2 hn
    exact ⟨ad, e, Nat.lt_of_lt_of_le hb hg.size, fun j u hu => (World.cell?_of_block (hg.block (ad.add j).block (by rw [block_of_add]; exact hb) (by rw [block_of_add]; exact hne ad e))).trans (hc j u hu)⟩⟩
section
variable {w w' : World} {B : Nat} {v : Value} {es : List (Int × Int)}
end
theorem news_edge (w : World) (t : TypeId) (a b : Int) : Reads (w.alloc (.cells #[.int .i64 a, .int .i64 b] t)) (w.alloc (.cells #[.int .i64 a, .int .i64 b] t)).heap.size 2 (some ⟨w.heap.size, 0, none⟩) 1 (edgs [(a, b)]) :=
  ⟨rfl, fun _ => ⟨_, rfl, by simp, World.news_of_block (cs := #[.int .i64 a, .int .i64 b]) (t := t) (fr := (0, 0)) (heap_alloc_new w _)⟩⟩
end Go.Proofs.Ytkcmbpokoijglaa
