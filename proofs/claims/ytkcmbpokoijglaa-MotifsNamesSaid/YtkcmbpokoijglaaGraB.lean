/- The reference's graphs (cohesionref03): the check. -/
import Derived.Test.YtkcmbpokoijglaaSetB
import Derived.Test.YtkcmbpokoijglaaMemE
set_option linter.unusedVariables false
namespace Go.Proofs.Ytkcmbpokoijglaa
open Go.RowKit

theorem below_call {w w1 w2 : World} {n : Nat} (h : Below w.heap.size w w1) (hb : Below n w1 w2) (hn : w1.heap.size ≤ n := by exact Nat.le_refl _) : Below w.heap.size w w2 := h.trans (hb.mono (Nat.le_trans h.size hn))
/-- The order of edges. -/
def ltE (a b : Int × Int) : Prop := a.1 < b.1 ∨ a.1 = b.1 ∧ a.2 < b.2
instance (a b : Int × Int) : Decidable (ltE a b) := by unfold ltE; infer_instance

/-- The first error among edges behind one. -/
def chkE (n : Int) : Option (Int × Int) → List (Int × Int) → Int
  | _, [] => 0
  | p, e :: es => if e.1 < 0 ∨ e.2 ≤ e.1 ∨ n ≤ e.2 then 6 else if (match p with | some q => decide (¬ ltE q e) | none => false) = true then 5 else chkE n (some e) es
/-- The first error of a graph. -/
def chkG (n : Int) (es : List (Int × Int)) : Int := if n < 0 ∨ 64 < n then 1 else chkE n none es
def prevE (es : List (Int × Int)) (k : Nat) : Option (Int × Int) := if k = 0 then none else es[k - 1]?
theorem chk_out {n : Int} {es : List (Int × Int)} {k : Nat} {u v : Int} (h : chkE n none es = chkE n (prevE es k) (es.drop k)) (hx : es[k]? = some (u, v)) (hb : u < 0 ∨ v ≤ u ∨ n ≤ v) : chkE n none es = 6 := by
  rw [h]
  obtain ⟨hk, he⟩ := List.getElem?_eq_some_iff.1 hx
  rw [List.drop_eq_getElem_cons hk, he]
  simp only [chkE]
  rw [if_pos hb]
theorem chk_down {n : Int} {es : List (Int × Int)} {k : Nat} {u v u' v' : Int} (h : chkE n none es = chkE n (prevE es k) (es.drop k)) (hx : es[k]? = some (u, v)) (hb : ¬ (u < 0 ∨ v ≤ u ∨ n ≤ v)) (hk0 : 0 < k) (hp : es[k - 1]? = some (u', v')) (hl : ¬ ltE (u', v') (u, v)) : chkE n none es = 5 := by
  rw [h]
  obtain ⟨hk, he⟩ := List.getElem?_eq_some_iff.1 hx
  rw [List.drop_eq_getElem_cons hk, he, prevE, if_neg (by omega), hp]
  simp only [chkE]
  rw [if_neg hb, if_pos (by simpa using hl)]
theorem chk_step {n : Int} {es : List (Int × Int)} {k : Nat} {u v : Int} (h : chkE n none es = chkE n (prevE es k) (es.drop k)) (hx : es[k]? = some (u, v)) (hb : ¬ (u < 0 ∨ v ≤ u ∨ n ≤ v)) (hl : 0 < k → ∀ u' v', es[k - 1]? = some (u', v') → ltE (u', v') (u, v)) : chkE n none es = chkE n (prevE es (k + 1)) (es.drop (k + 1)) := by
  rw [h]
  obtain ⟨hk, he⟩ := List.getElem?_eq_some_iff.1 hx
  rw [List.drop_eq_getElem_cons hk, he]
  simp only [chkE]
  rw [if_neg hb, if_neg]
  · congr 1
    rw [prevE, if_neg (by omega), Nat.add_sub_cancel, hx]
  · by_cases hk0 : k = 0
    · subst hk0; simp [prevE]
    · rw [prevE, if_neg hk0]
      have hlt : k - 1 < es.length := by omega
      rw [List.getElem?_eq_getElem hlt]
      have := hl (by omega) es[k-1].1 es[k-1].2 (List.getElem?_eq_getElem hlt)
      simpa using this

end Go.Proofs.Ytkcmbpokoijglaa

namespace Go.Proofs.Ytkcmbpokoijglaa
open Go.RowKit

theorem takeE {es : List (Int × Int)} {k : Nat} {e : Int × Int} (h : es[k]? = some e) : es.take (k + 1) = es.take k ++ [e] := by
  obtain ⟨hk, rfl⟩ := List.getElem?_eq_some_iff.1 h
  exact List.take_succ_eq_append_getElem hk
/-- The other ends of the edges at x. -/
def nbl (es : List (Int × Int)) (x : Int) : List Int := es.flatMap fun e => (if e.1 = x then [e.2] else []) ++ (if e.2 = x then [e.1] else [])
theorem nbl_take {es : List (Int × Int)} {k : Nat} {u v x : Int} (h : es[k]? = some (u, v)) : nbl (es.take (k + 1)) x = nbl (es.take k) x ++ (if u = x then [v] else []) ++ (if v = x then [u] else []) := by
  unfold nbl; rw [takeE h, List.flatMap_append]; simp
theorem nbl_length (es : List (Int × Int)) (x : Int) : (nbl es x).length ≤ 2 * es.length := by
  unfold nbl
  induction es with
  | nil => simp
  | cons e es ih =>
    rw [List.flatMap_cons, List.length_append, List.length_append, List.length_cons]
    have : (if e.1 = x then [e.2] else ([] : List Int)).length ≤ 1 := by split <;> simp
    have : (if e.2 = x then [e.1] else ([] : List Int)).length ≤ 1 := by split <;> simp
    omega
theorem five_else {c : Prop} [Decidable c] {a : Int} (h : (if c then 5 else a) = 0) : a = 0 := by
  split at h
  · omega
  · exact h
theorem chkE_lt {n : Int} {es : List (Int × Int)} {p : Option (Int × Int)} (h : chkE n p es = 0) : ∀ e ∈ es, 0 ≤ e.1 ∧ e.1 < e.2 ∧ e.2 < n := by
  induction es generalizing p with
  | nil => simp
  | cons e es ih =>
    simp only [chkE] at h
    by_cases h1 : e.1 < 0 ∨ e.2 ≤ e.1 ∨ n ≤ e.2
    · rw [if_pos h1] at h; cases h
    · rw [if_neg h1] at h
      have h2 : chkE n (some e) es = 0 := by
        exact five_else h
      intro x hx
      rcases List.mem_cons.1 hx with rfl | hx
      · omega
      · exact ih h2 x hx
theorem chkG_zero {n : Int} {es : List (Int × Int)} (h : chkG n es = 0) : 0 ≤ n ∧ n ≤ 64 ∧ chkE n none es = 0 := by
  unfold chkG at h
  split at h
  · cases h
  · exact ⟨by omega, by omega, h⟩
/-- The neighbours of a node. -/
def nbG (n : Int) (es : List (Int × Int)) (x : Int) : List Int := if chkG n es = 0 then ofL (nbl es x) else []

end Go.Proofs.Ytkcmbpokoijglaa
