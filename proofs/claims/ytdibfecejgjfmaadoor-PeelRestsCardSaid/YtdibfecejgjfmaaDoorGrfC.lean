/- The reference's graphs (cohesionref03): with. -/
import Derived.Test.YtdibfecejgjfmaaDoorGrfB
set_option linter.unusedVariables false
set_option linter.unusedSimpArgs false
namespace Go.Proofs.YtdibfecejgjfmaaDoor
open Go.RowKit

/-- A list of edges with one more. -/
def withL : List (Int × Int) → (Int × Int) → List (Int × Int)
  | [], e => [e]
  | x :: l, e => if ltE x e then x :: withL l e else if x = e then x :: l else e :: x :: l
theorem ltE_irr (e : Int × Int) : ¬ ltE e e := by unfold ltE; omega
theorem with_drop {es : List (Int × Int)} {k : Nat} {y e : Int × Int} (h : es[k]? = some y) : withL (es.drop k) e = if ltE y e then y :: withL (es.drop (k + 1)) e else if y = e then es.drop k else e :: es.drop k := by
  obtain ⟨hk, he⟩ := List.getElem?_eq_some_iff.1 h
  rw [List.drop_eq_getElem_cons hk, he]; rfl
theorem with_step {es : List (Int × Int)} {k : Nat} {y e : Int × Int} (hx : withL es e = es.take k ++ withL (es.drop k) e) (h : es[k]? = some y) (hl : ltE y e) : withL es e = es.take (k + 1) ++ withL (es.drop (k + 1)) e := by
  rw [hx, with_drop h, if_pos hl, takeE h, List.append_assoc]; rfl
theorem with_same {es : List (Int × Int)} {k : Nat} {e : Int × Int} (hx : withL es e = es.take k ++ withL (es.drop k) e) (h : es[k]? = some e) : withL es e = es := by
  rw [hx, with_drop h, if_neg (ltE_irr e), if_pos rfl, List.take_append_drop]
theorem with_here {es : List (Int × Int)} {k : Nat} {y e : Int × Int} (hx : withL es e = es.take k ++ withL (es.drop k) e) (h : es[k]? = some y) (h1 : ¬ ltE y e) (h2 : y ≠ e) : withL es e = es.take k ++ [e] ++ es.drop k := by
  rw [hx, with_drop h, if_neg h1, if_neg h2, List.append_assoc]; rfl
theorem with_end {es : List (Int × Int)} {k : Nat} {e : Int × Int} (hx : withL es e = es.take k ++ withL (es.drop k) e) (h : es.length ≤ k) : withL es e = es.take k ++ [e] ++ es.drop k := by
  rw [hx, List.drop_of_length_le h]; simp [withL]
theorem mem_with {es : List (Int × Int)} {e z : Int × Int} : z ∈ withL es e ↔ z = e ∨ z ∈ es := by
  induction es with
  | nil => simp [withL]
  | cons x l ih =>
    unfold withL
    split
    · rw [List.mem_cons, ih, List.mem_cons]
      constructor
      · rintro (h | h | h)
        · exact .inr (.inl h)
        · exact .inl h
        · exact .inr (.inr h)
      · rintro (h | h | h)
        · exact .inr (.inl h)
        · exact .inl h
        · exact .inr (.inr h)
    · split
      · rename_i h; subst h; simp
      · simp
theorem ltE_tr {a b c : Int × Int} (h : ltE a b) (h' : ltE b c) : ltE a c := by unfold ltE at *; omega
theorem ltE_tot {a b : Int × Int} (h : ¬ ltE a b) (h' : a ≠ b) : ltE b a := by
  unfold ltE at *
  have : ¬ (a.1 = b.1 ∧ a.2 = b.2) := fun ⟨h1, h2⟩ => h' (Prod.ext h1 h2)
  omega
theorem with_sorted {es : List (Int × Int)} {e : Int × Int} (h : es.Pairwise ltE) : (withL es e).Pairwise ltE := by
  induction es with
  | nil => simp [withL]
  | cons x l ih =>
    rw [List.pairwise_cons] at h
    unfold withL
    split
    · rename_i hx
      rw [List.pairwise_cons]
      refine ⟨fun z hz => ?_, ih h.2⟩
      rcases mem_with.1 hz with rfl | hz
      · exact hx
      · exact h.1 z hz
    · split
      · rw [List.pairwise_cons]; exact h
      · rename_i h1 h2
        have h3 := ltE_tot h1 h2
        rw [List.pairwise_cons, List.pairwise_cons]
        refine ⟨fun z hz => ?_, h⟩
        rcases List.mem_cons.1 hz with rfl | hz
        · exact h3
        · exact ltE_tr h3 (h.1 z hz)
theorem srt_with {n : Int} {es : List (Int × Int)} {e : Int × Int} (h : Srt n es) (h0 : 0 ≤ e.1) (h1 : e.1 < e.2) (h2 : e.2 < n) : Srt n (withL es e) :=
  ⟨fun z hz => by rcases mem_with.1 hz with rfl | hz; exact ⟨h0, h1, h2⟩; exact h.1 z hz, with_sorted h.2⟩
theorem with_length (es : List (Int × Int)) (e : Int × Int) : (withL es e).length ≤ es.length + 1 := by
  induction es with
  | nil => simp [withL]
  | cons x l ih =>
    unfold withL
    split
    · simp; omega
    · split <;> simp
theorem edgs_take (es : List (Int × Int)) (k : Nat) : edgs (es.take k) = (edgs es).take (k * 2) := by
  induction es generalizing k with
  | nil => simp [edgs]
  | cons e es ih =>
    cases k with
    | zero => simp [edgs]
    | succ k => rw [List.take_succ_cons, edgs_cons, edgs_cons, ih, show (k + 1) * 2 = k * 2 + 1 + 1 by omega]; rfl
theorem edgs_drop (es : List (Int × Int)) (k : Nat) : edgs (es.drop k) = (edgs es).drop (k * 2) := by
  induction es generalizing k with
  | nil => simp [edgs]
  | cons e es ih =>
    cases k with
    | zero => simp [edgs]
    | succ k => rw [List.drop_succ_cons, edgs_cons, ih, show (k + 1) * 2 = k * 2 + 1 + 1 by omega]; rfl
theorem RE.head {w : World} {n : Nat} {A : Option Addr} {es : List (Int × Int)} (h : RE w A n es) {k : Nat} (hk : k ≤ n) : RE w A k (es.take k) := by
  have := Reads.head h hk
  rwa [← edgs_take] at this
theorem RE.cut {w : World} {n : Nat} {A : Option Addr} {es : List (Int × Int)} (h : RE w A n es) {k cap : Nat} (hk : k ≤ n) (hc : n ≤ cap) : RE w (if cap = k then A else A.map (·.add (k * 2))) (n - k) (es.drop k) := by
  have := Reads.cut h hk hc
  rwa [← edgs_drop] at this
/-- The call returns a list of edges, the old one or a new one. -/
def RetW (w : World) (A : Option Addr) (es : List (Int × Int)) (e : Ending) (w' : World) : Prop := ∃ A' n' c', e = .returned (.slice A' n' c') ∧ n' ≤ c' ∧ RE w' A' n' es ∧ Below w.heap.size w w' ∧ (A' = A ∨ Fr w.heap.size A')

end Go.Proofs.YtdibfecejgjfmaaDoor
