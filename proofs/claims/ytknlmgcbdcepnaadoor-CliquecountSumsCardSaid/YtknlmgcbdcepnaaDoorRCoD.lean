/- The reference's cores (cohesionref10), fourth part: later neighbours along an order. -/
import Derived.Test.YtknlmgcbdcepnaaDoorRCoC
import Derived.Deep.RegionHeld3
set_option linter.unusedVariables false
namespace Go.Proofs.YtknlmgcbdcepnaaDoor
open Go.RowKit

/-- The list has each number from 0 to n - 1 once. -/
def OrdI (l : List Int) (n : Int) : Prop := (l.length : Int) = n ∧ Vld (ofL l) n ∧ ((ofL l).length : Int) = n
instance (l : List Int) (n : Int) : Decidable (OrdI l n) := by unfold OrdI; infer_instance
theorem put_length_new {l : List Int} {x : Int} (h : x ∉ l) : (putL l x).length = l.length + 1 := by
  induction l with
  | nil => rfl
  | cons y l ih =>
    simp at h
    unfold putL
    split
    · simp [ih h.2]
    · rw [if_neg (by omega)]; simp
theorem of_cons (x : Int) (l : List Int) : ofL (x :: l) = putL (ofL l) x := sorted_ext (of_sorted _) (put_sorted (of_sorted l)) fun y => by rw [mem_of, mem_put, mem_of, List.mem_cons]
theorem put_id {l : List Int} (h : l.Pairwise (· < ·)) {x : Int} (hx : x ∈ l) : putL l x = l := sorted_ext (put_sorted h) h fun y => by
  rw [mem_put]
  constructor
  · rintro (rfl | h)
    · exact hx
    · exact h
  · exact .inr
theorem of_length_nodup (l : List Int) : (ofL l).length = l.length ↔ l.Nodup := by
  induction l with
  | nil => simp [ofL]
  | cons x l ih =>
    rw [of_cons, List.nodup_cons]
    by_cases hx : x ∈ l
    · rw [put_id (of_sorted l) (mem_of.2 hx)]
      have := of_length l
      constructor
      · intro h; simp at h; omega
      · intro h; exact absurd hx h.1
    · rw [put_length_new (fun h => hx (mem_of.1 h)), List.length_cons]
      constructor
      · intro h; exact ⟨hx, ih.1 (by omega)⟩
      · intro h; rw [ih.2 h.2]
/-- The list has each number from 0 to n - 1 once, in plain words. -/
def Per (l : List Int) (n : Nat) : Prop := l.length = n ∧ l.Nodup ∧ ∀ x ∈ l, 0 ≤ x ∧ x < n
theorem ordI_per {l : List Int} {n : Nat} : OrdI l n ↔ Per l n := by
  unfold OrdI Per
  constructor
  · rintro ⟨h1, h2, h3⟩
    exact ⟨by omega, (of_length_nodup l).1 (by omega), fun x hx => h2.1 x (mem_of.2 hx)⟩
  · rintro ⟨h1, h2, h3⟩
    have := (of_length_nodup l).2 h2
    exact ⟨by omega, ⟨fun x hx => h3 x (mem_of.1 hx), of_sorted l⟩, by omega⟩

/-- How many neighbours stand behind each node. -/
def IsLater (nb : Int → List Int) (n : Nat) (o ls : List Int) : Prop := ls.length = n ∧ ∀ i v, o[i]? = some v → ls.getD v.toNat 0 = (dg nb (o.drop (i + 1)) v : Int)
def LaterTo (nb : Int → List Int) (n : Nat) (o ls : List Int) (k : Nat) : Prop := ls.length = n ∧ ∀ (i : Nat) (v : Int), i < k → o[i]? = some v → ls.getD v.toNat 0 = (dg nb (o.drop (i + 1)) v : Int)
theorem nodup_at {o : List Int} (h : o.Nodup) {i j : Nat} {v : Int} (hi : o[i]? = some v) (hj : o[j]? = some v) : i = j := by
  obtain ⟨h1, e1⟩ := List.getElem?_eq_some_iff.1 hi
  obtain ⟨h2, e2⟩ := List.getElem?_eq_some_iff.1 hj
  have hp := List.pairwise_iff_getElem.1 h
  rcases Nat.lt_trichotomy i j with h | h | h
  · exact absurd (e1.trans e2.symm) (hp i j h1 h2 h)
  · exact h
  · exact absurd (e2.trans e1.symm) (hp j i h2 h1 h)
theorem later_step {nb : Int → List Int} {n : Nat} {o ls : List Int} {k : Nat} {v : Int} (h : LaterTo nb n o ls k) (ho : Per o n) (hv : o[k]? = some v) : LaterTo nb n o (ls.set v.toNat (dg nb (o.drop (k + 1)) v : Nat)) (k + 1) := by
  refine ⟨by rw [List.length_set]; exact h.1, fun i u hi hu => ?_⟩
  have hv0 := ho.2.2 v (mem_at hv)
  have hu0 := ho.2.2 u (mem_at hu)
  rw [List.getD_eq_getElem?_getD]
  by_cases he : i = k
  · subst he
    rw [hv] at hu
    injection hu with hu
    subst hu
    rw [List.getElem?_set_self (by rw [h.1]; omega)]
    rfl
  · have hne : u.toNat ≠ v.toNat := fun e => he (nodup_at ho.2.1 hu (by rw [hv, show v = u by omega]))
    rw [List.getElem?_set_ne (by omega), ← List.getD_eq_getElem?_getD]
    exact h.2 i u (by omega) hu

end Go.Proofs.YtknlmgcbdcepnaaDoor
