/- The reference's cores (cohesionref10), fifth part: Later and Check. -/
import Derived.Test.YtdibfecejgjfmaaGreatDoorRCoD
set_option linter.unusedVariables false
namespace Go.Proofs.YtdibfecejgjfmaaGreatDoor
open Go.RowKit

/-- The error of Later. -/
def errL (n : Int) (es : List (Int × Int)) (o : List Int) : Int := if chkG n es = 0 then (if OrdI o n then 0 else 4) else chkG n es
/-- What Later returns. -/
def LaterL (n : Int) (es : List (Int × Int)) (o ls : List Int) : Prop := (errL n es o = 0 → IsLater (nbG n es) n.toNat o ls) ∧ (errL n es o ≠ 0 → ls = [])
theorem chkG_err (n : Int) (es : List (Int × Int)) : errL n es [] = errL n es [] := rfl
theorem later_unique {nb : Int → List Int} {n : Nat} {o a b : List Int} (ho : Per o n) (ha : IsLater nb n o a) (hb : IsLater nb n o b) : a = b := by
  refine List.ext_getElem? fun v => ?_
  by_cases hv : v < n
  · have hin : (v : Int) ∈ o := by
      have hp : o.Perm (rng n) := by
        refine (List.perm_ext_iff_of_nodup ho.2.1 ((rng_sorted n).imp fun h => by omega)).2 fun x => ⟨fun hx => mem_rng.2 (ho.2.2 x hx), fun hx => ?_⟩
        by_cases hxo : x ∈ o
        · exact hxo
        · have hx' : x ∈ rst n o := mem_rst.2 ⟨mem_rng.1 hx, hxo⟩
          have h1 : o.Nodup ∧ ∀ y ∈ x :: o, 0 ≤ y ∧ y < n := ⟨ho.2.1, fun y hy => by
            rcases List.mem_cons.1 hy with rfl | hy
            · exact mem_rng.1 hx
            · exact ho.2.2 y hy⟩
          have h2 := nodup_length (n := n) (o := x :: o) (List.nodup_cons.2 ⟨hxo, ho.2.1⟩) h1.2
          have := ho.1
          simp at h2
          omega
      exact hp.mem_iff.2 (mem_rng.2 ⟨by omega, by omega⟩)
    obtain ⟨i, hi, he⟩ := List.getElem_of_mem hin
    have h1 := ha.2 i (v : Int) (by rw [List.getElem?_eq_getElem hi, he])
    have h2 := hb.2 i (v : Int) (by rw [List.getElem?_eq_getElem hi, he])
    rw [Int.toNat_natCast] at h1 h2
    have e1 : a[v]? = some (a.getD v 0) := by rw [List.getD_eq_getElem?_getD, List.getElem?_eq_getElem (by rw [ha.1]; exact hv)]; rfl
    have e2 : b[v]? = some (b.getD v 0) := by rw [List.getD_eq_getElem?_getD, List.getElem?_eq_getElem (by rw [hb.1]; exact hv)]; rfl
    rw [e1, e2, h1, h2]
  · rw [List.getElem?_eq_none (by rw [ha.1]; omega), List.getElem?_eq_none (by rw [hb.1]; omega)]
theorem errL_zero {n : Int} {es : List (Int × Int)} {o : List Int} (h : errL n es o = 0) : chkG n es = 0 ∧ OrdI o n := by
  unfold errL at h
  split at h
  · split at h
    · exact ⟨by assumption, by assumption⟩
    · omega
  · exact absurd h (by assumption)
theorem laterL_unique {n : Int} {es : List (Int × Int)} {o a b : List Int} (ha : LaterL n es o a) (hb : LaterL n es o b) : a = b := by
  by_cases hz : errL n es o = 0
  · obtain ⟨h1, h2⟩ := errL_zero hz
    obtain ⟨z0, z1, _⟩ := chkG_zero h1
    obtain ⟨n, rfl⟩ := Int.eq_ofNat_of_zero_le z0
    exact later_unique (ordI_per.1 h2) (ha.1 hz) (hb.1 hz)
  · rw [ha.2 hz, hb.2 hz]

/-- How many neighbours have no lesser number. -/
def hi (nb : Int → List Int) (ns : List Int) (v : Int) : Nat := ((nb v).filter fun w => decide (ns.getD v.toNat 0 ≤ ns.getD w.toNat 0)).length
/-- The numbers are right at place i of the order. -/
def okAt (nb : Int → List Int) (ns o : List Int) (i : Nat) (v : Int) : Prop :=
  (∀ u, 0 < i → o[i - 1]? = some u → ns.getD u.toNat 0 ≤ ns.getD v.toNat 0) ∧ (dg nb (o.drop (i + 1)) v : Int) ≤ ns.getD v.toNat 0 ∧ ns.getD v.toNat 0 ≤ (hi nb ns v : Int)
def okTo (nb : Int → List Int) (ns o : List Int) (k : Nat) : Prop := ∀ i v, i < k → o[i]? = some v → okAt nb ns o i v
/-- What the check of numbers and an order answers. -/
def IsChk (n : Int) (es : List (Int × Int)) (ns o : List Int) (x : Int) : Prop :=
  (chkG n es ≠ 0 → x = chkG n es) ∧ (chkG n es = 0 → ((ns.length : Int) ≠ n ∨ ¬ OrdI o n) → x = 4) ∧ (chkG n es = 0 → (ns.length : Int) = n → OrdI o n → (x = 0 ∧ okTo (nbG n es) ns o o.length) ∨ (x = 12 ∧ ¬ okTo (nbG n es) ns o o.length))
theorem isChk_unique {n : Int} {es : List (Int × Int)} {ns o : List Int} {x y : Int} (hx : IsChk n es ns o x) (hy : IsChk n es ns o y) : x = y := by
  by_cases hz : chkG n es = 0
  · by_cases h1 : (ns.length : Int) ≠ n ∨ ¬ OrdI o n
    · rw [hx.2.1 hz h1, hy.2.1 hz h1]
    · have h2 : (ns.length : Int) = n := by
        by_cases h : (ns.length : Int) = n
        · exact h
        · exact absurd (.inl h) h1
      have h3 : OrdI o n := by
        by_cases h : OrdI o n
        · exact h
        · exact absurd (.inr h) h1
      rcases hx.2.2 hz h2 h3 with ⟨a, b⟩ | ⟨a, b⟩ <;> rcases hy.2.2 hz h2 h3 with ⟨c, d⟩ | ⟨c, d⟩
      · rw [a, c]
      · exact absurd b d
      · exact absurd d b
      · rw [a, c]
  · rw [hx.1 hz, hy.1 hz]
end Go.Proofs.YtdibfecejgjfmaaGreatDoor

namespace Go.Proofs.YtdibfecejgjfmaaGreatDoor
open Go.RowKit

theorem hi_take {nb : List Int} {ns : List Int} {a : Int} {j : Nat} {x : Int} (h : nb[j]? = some x) : ((nb.take (j + 1)).filter fun w => decide (a ≤ ns.getD w.toNat 0)).length = ((nb.take j).filter fun w => decide (a ≤ ns.getD w.toNat 0)).length + (if a ≤ ns.getD x.toNat 0 then 1 else 0) := by
  rw [take_at h, List.filter_append, List.length_append]
  congr 1
  by_cases hx : a ≤ ns.getD x.toNat 0
  · rw [if_pos hx, List.filter_cons, if_pos (decide_eq_true hx)]; rfl
  · rw [if_neg hx, List.filter_cons, if_neg (fun e => hx (of_decide_eq_true e))]; rfl
theorem okTo_step {nb : Int → List Int} {ns o : List Int} {k : Nat} {v : Int} (h : okTo nb ns o k) (hv : o[k]? = some v) (hk : okAt nb ns o k v) : okTo nb ns o (k + 1) := by
  intro i u hi hu
  by_cases he : i = k
  · subst he
    rw [hv] at hu
    injection hu with hu
    subst hu
    exact hk
  · exact h i u (by omega) hu
theorem okTo_bad {nb : Int → List Int} {ns o : List Int} {k : Nat} {v : Int} (hv : o[k]? = some v) (hk : ¬ okAt nb ns o k v) : ¬ okTo nb ns o o.length := fun h => hk (h k v (List.getElem?_eq_some_iff.1 hv).1 hv)
theorem nbG_range {n : Nat} {es : List (Int × Int)} (hc : chkG n es = 0) {v x : Int} (h : x ∈ nbG n es v) : 0 ≤ x ∧ x < n := by
  have hlt := chkE_lt (chkG_zero hc).2.2
  unfold nbG at h
  rw [if_pos hc, mem_of] at h
  unfold nbl at h
  rw [List.mem_flatMap] at h
  obtain ⟨e, he, hx⟩ := h
  have h1 := hlt e he
  rw [List.mem_append] at hx
  rcases hx with hx | hx
  · split at hx
    · rw [List.mem_singleton.1 hx]; omega
    · cases hx
  · split at hx
    · rw [List.mem_singleton.1 hx]; omega
    · cases hx
theorem getD_at {xs : List Int} {k : Nat} {y : Int} (h : xs[k]? = some y) : xs.getD k 0 = y := by rw [List.getD_eq_getElem?_getD, h]; rfl

end Go.Proofs.YtdibfecejgjfmaaGreatDoor
