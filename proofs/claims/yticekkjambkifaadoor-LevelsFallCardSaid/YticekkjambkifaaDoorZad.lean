/- Printed by merge.py from PeeM, RCoF, GphA, CorB, PeeA, Gen, Wpt. -/
import Derived.Test.YticekkjambkifaaDoorZac
import Derived.Test.YticekkjambkifaaDoorMakC
import Derived.Test.YticekkjambkifaaDoorZab
import Derived.Test.YticekkjambkifaaDoorZaa
import Derived.Deep.RegionHeld3
/- Plain: edges within a set, the sum of degrees, densities compared. -/
set_option linter.unusedVariables false
set_option linter.unusedSimpArgs false
namespace Go.Proofs.YticekkjambkifaaDoor
open Go.RowKit CoBit

/-- The number of edges within a set. -/
def insE (es : List (Int × Int)) (S : List Int) : Nat := (es.filter fun e => decide (e.1 ∈ S ∧ e.2 ∈ S)).length
theorem insE_nil (S : List Int) : insE [] S = 0 := rfl
theorem insE_cons (e : Int × Int) (es : List (Int × Int)) (S : List Int) : insE (e :: es) S = insE es S + (if e.1 ∈ S ∧ e.2 ∈ S then 1 else 0) := by
  unfold insE
  by_cases h : e.1 ∈ S ∧ e.2 ∈ S <;> simp [List.filter_cons, h]
theorem insE_congr {es : List (Int × Int)} {S T : List Int} (h : ∀ x, x ∈ S ↔ x ∈ T) : insE es S = insE es T := by
  unfold insE
  have e1 : (fun e : Int × Int => decide (e.1 ∈ S ∧ e.2 ∈ S)) = fun e => decide (e.1 ∈ T ∧ e.2 ∈ T) := funext fun e => by simp only [h]
  rw [e1]
theorem insE_mono {es : List (Int × Int)} {S T : List Int} (h : ∀ x ∈ S, x ∈ T) : insE es S ≤ insE es T := by
  induction es with
  | nil => simp [insE_nil]
  | cons e es ih =>
    rw [insE_cons, insE_cons]
    by_cases h1 : e.1 ∈ S ∧ e.2 ∈ S
    · rw [if_pos h1, if_pos ⟨h _ h1.1, h _ h1.2⟩]; omega
    · rw [if_neg h1]; split <;> omega
theorem insE_le (es : List (Int × Int)) (S : List Int) : insE es S ≤ es.length := List.length_filter_le _ _
/-- What edge e adds to the number of neighbours of v in S. -/
def oneE (e : Int × Int) (S : List Int) (v : Int) : Nat := (if e.1 = v ∧ e.2 ∈ S then 1 else 0) + (if e.2 = v ∧ e.1 ∈ S then 1 else 0)
def cntE (es : List (Int × Int)) (S : List Int) (v : Int) : Nat := ((nbl es v).filter fun x => decide (x ∈ S)).length
theorem nbl_cons (e : Int × Int) (es : List (Int × Int)) (v : Int) : nbl (e :: es) v = ((if e.1 = v then [e.2] else []) ++ (if e.2 = v then [e.1] else [])) ++ nbl es v := rfl
theorem cntE_cons (e : Int × Int) (es : List (Int × Int)) (S : List Int) (v : Int) : cntE (e :: es) S v = cntE es S v + oneE e S v := by
  unfold cntE oneE
  rw [nbl_cons, List.filter_append, List.length_append, List.filter_append, List.length_append]
  by_cases h1 : e.1 = v <;> by_cases h2 : e.2 = v <;> by_cases h3 : e.1 ∈ S <;> by_cases h4 : e.2 ∈ S <;> simp [h1, h2, h3, h4] <;> simp_all <;> omega
theorem sum_add {α : Type} (l : List α) (f g : α → Nat) : (l.map fun x => f x + g x).sum = (l.map f).sum + (l.map g).sum := by
  induction l with
  | nil => rfl
  | cons a l ih => simp only [List.map_cons, List.sum_cons]; rw [ih]; omega
theorem sum_zero {α : Type} (l : List α) (f : α → Nat) (h : ∀ x ∈ l, f x = 0) : (l.map f).sum = 0 := by
  induction l with
  | nil => rfl
  | cons a l ih => simp only [List.map_cons, List.sum_cons]; rw [h a (by simp), ih fun x hx => h x (by simp [hx])]
theorem sum_point {S : List Int} (hn : S.Nodup) (u : Int) (c : Nat) : (S.map fun v => if u = v then c else 0).sum = if u ∈ S then c else 0 := by
  induction S with
  | nil => rfl
  | cons a S ih =>
    obtain ⟨h1, h2⟩ := List.nodup_cons.1 hn
    simp only [List.map_cons, List.sum_cons]
    rw [ih h2]
    by_cases h : u = a
    · subst h; simp [h1]
    · simp [h]
theorem sum_one {S : List Int} (hn : S.Nodup) (e : Int × Int) (hne : e.1 ≠ e.2) : (S.map fun v => oneE e S v).sum = if e.1 ∈ S ∧ e.2 ∈ S then 2 else 0 := by
  unfold oneE
  rw [sum_add]
  have h1 : (S.map fun v => if e.1 = v ∧ e.2 ∈ S then 1 else 0).sum = if e.1 ∈ S ∧ e.2 ∈ S then 1 else 0 := by
    by_cases h : e.2 ∈ S
    · have := sum_point hn e.1 1
      simp only [h, and_true]; exact this
    · simp only [h, and_false, if_false]
      exact sum_zero _ _ fun _ _ => rfl
  have h2 : (S.map fun v => if e.2 = v ∧ e.1 ∈ S then 1 else 0).sum = if e.1 ∈ S ∧ e.2 ∈ S then 1 else 0 := by
    by_cases h : e.1 ∈ S
    · have := sum_point hn e.2 1
      simp only [h, and_true, true_and]; exact this
    · simp only [h, and_false, false_and, if_false]
      exact sum_zero _ _ fun _ _ => rfl
  rw [h1, h2]
  split <;> rfl
theorem sum_cnt {es : List (Int × Int)} {S : List Int} (hn : S.Nodup) (hne : ∀ e ∈ es, e.1 ≠ e.2) : (S.map fun v => cntE es S v).sum = 2 * insE es S := by
  induction es with
  | nil => rw [insE_nil]; exact sum_zero _ _ fun _ _ => rfl
  | cons e es ih =>
    have e1 : (S.map fun v => cntE (e :: es) S v) = S.map fun v => cntE es S v + oneE e S v := List.map_congr_left fun v _ => cntE_cons e es S v
    rw [e1, sum_add, ih fun x hx => hne x (by simp [hx]), sum_one hn e (hne e (by simp)), insE_cons]
    split <;> omega
theorem nbl_nodup {n : Int} {es : List (Int × Int)} (h : Srt n es) (v : Int) : (nbl es v).Nodup := by
  induction es with
  | nil => exact List.nodup_nil
  | cons e es ih =>
    obtain ⟨h1, h2⟩ := h
    obtain ⟨h3, h4⟩ := List.pairwise_cons.1 h2
    have he := h1 e (by simp)
    have ih := ih ⟨fun x hx => h1 x (by simp [hx]), h4⟩
    rw [nbl_cons]
    refine List.nodup_append.2 ⟨?_, ih, fun a ha b hb => ?_⟩
    · by_cases h5 : e.1 = v <;> by_cases h6 : e.2 = v <;> simp [h5, h6] <;> omega
    · rintro rfl
      have hb' := mem_nbl.1 hb
      simp only [List.mem_append] at ha
      rcases ha with ha | ha
      · split at ha
        · rename_i h7
          obtain rfl := List.mem_singleton.1 ha
          rcases hb' with hb' | hb'
          · have := h3 _ hb'; unfold ltE at this; simp at this; omega
          · have := h1 _ (List.mem_cons_of_mem _ hb'); simp at this; omega
        · cases ha
      · split at ha
        · rename_i h7
          obtain rfl := List.mem_singleton.1 ha
          rcases hb' with hb' | hb'
          · have := h1 _ (List.mem_cons_of_mem _ hb'); simp at this; omega
          · have := h3 _ hb'; unfold ltE at this; simp at this; omega
        · cases ha
theorem nodup_filter_len {a b : List Int} (ha : a.Nodup) (hb : b.Nodup) (h : ∀ x, x ∈ a ↔ x ∈ b) (p : Int → Bool) : (a.filter p).length = (b.filter p).length :=
  (((List.perm_ext_iff_of_nodup ha hb).2 h).filter p).length_eq
theorem sorted_nodup {a : List Int} (h : a.Pairwise (· < ·)) : a.Nodup := h.imp fun {x y} hxy e => by omega
theorem ltE_trans {a b c : Int × Int} (h : ltE a b) (h' : ltE b c) : ltE a c := by unfold ltE at *; omega
theorem chkE_srt {n : Int} : ∀ (es : List (Int × Int)) (p : Option (Int × Int)), chkE n p es = 0 → (∀ e ∈ es, ∀ q, p = some q → ltE q e) ∧ es.Pairwise ltE
  | [], _, _ => ⟨fun e h => absurd h (by simp), List.Pairwise.nil⟩
  | e :: es, p, h => by
    unfold chkE at h
    by_cases h1 : e.1 < 0 ∨ e.2 ≤ e.1 ∨ n ≤ e.2
    · rw [if_pos h1] at h; omega
    · rw [if_neg h1] at h
      cases p with
      | none =>
        simp only [Bool.false_eq_true, if_false] at h
        obtain ⟨h3, h4⟩ := chkE_srt es (some e) h
        exact ⟨(fun x hx q hq => by cases hq), List.pairwise_cons.2 ⟨fun x hx => h3 x hx e rfl, h4⟩⟩
      | some q0 =>
        by_cases hl : ltE q0 e
        · rw [if_neg (by simp [hl])] at h
          obtain ⟨h3, h4⟩ := chkE_srt es (some e) h
          refine ⟨fun x hx q hq => ?_, List.pairwise_cons.2 ⟨fun x hx => h3 x hx e rfl, h4⟩⟩
          injection hq with hq
          subst hq
          rcases List.mem_cons.1 hx with rfl | hx
          · exact hl
          · exact ltE_trans hl (h3 x hx e rfl)
        · rw [if_pos (by simp [hl])] at h; omega
theorem srt_of_chk {n : Int} {es : List (Int × Int)} (h : chkG n es = 0) : Srt n es :=
  ⟨chkE_lt (chkG_zero h).2.2, (chkE_srt es none (chkG_zero h).2.2).2⟩
theorem dg_cnt {n : Int} {es : List (Int × Int)} (hc : chkG n es = 0) (S : List Int) (v : Int) : dg (nbG n es) S v = cntE es S v := by
  have hs := srt_of_chk hc
  unfold dg cntE
  have e1 : nbG n es v = ofL (nbl es v) := if_pos hc
  rw [e1]
  exact nodup_filter_len (sorted_nodup (of_sorted _)) (nbl_nodup hs v) (fun x => mem_of) _
/-- The degrees within a set add up to twice its edges. -/
theorem hand {n : Int} {es : List (Int × Int)} (hc : chkG n es = 0) {S : List Int} (hn : S.Nodup) : (S.map fun v => dg (nbG n es) S v).sum = 2 * insE es S := by
  have hs := srt_of_chk hc
  have e1 : (S.map fun v => dg (nbG n es) S v) = S.map fun v => cntE es S v := List.map_congr_left fun v _ => dg_cnt hc S v
  rw [e1]
  exact sum_cnt hn fun e he => by have := hs.1 e he; omega
/-- A sum that is at most the length times a number has a part that is at most it. -/
theorem sum_part {l : List Int} {f : Int → Nat} {a b : Nat} (h : (l.map f).sum * a ≤ l.length * b) (h0 : 0 < l.length) : ∃ x ∈ l, f x * a ≤ b := by
  apply Classical.byContradiction
  intro hc
  have hall : ∀ x ∈ l, b + 1 ≤ f x * a := fun x hx => by
    rcases Nat.lt_or_ge b (f x * a) with h1 | h1
    · exact h1
    · exact absurd ⟨x, hx, h1⟩ hc
  have h2 : ∀ l : List Int, (∀ x ∈ l, b + 1 ≤ f x * a) → l.length * (b + 1) ≤ (l.map f).sum * a := by
    intro l
    induction l with
    | nil => intro _; simp
    | cons x l ih =>
      intro h
      have h3 := ih fun y hy => h y (by simp [hy])
      have h4 := h x (by simp)
      simp only [List.map_cons, List.sum_cons, List.length_cons]
      rw [Nat.add_mul, Nat.add_mul]
      omega
  have h5 := h2 l hall
  rw [Nat.mul_add] at h5
  omega
end Go.Proofs.YticekkjambkifaaDoor

/- The reference's cores (cohesionref10), fifth part: Later and Check. -/
set_option linter.unusedVariables false
namespace Go.Proofs.YticekkjambkifaaDoor
open Go.RowKit

/-- The error of Later. -/
def errL (n : Int) (es : List (Int × Int)) (o : List Int) : Int := if chkG n es = 0 then (if OrdI o n then 0 else 4) else chkG n es
/-- What Later returns. -/
def LaterL (n : Int) (es : List (Int × Int)) (o ls : List Int) : Prop := (errL n es o = 0 → IsLater (nbG n es) n.toNat o ls) ∧ (errL n es o ≠ 0 → ls = [])
theorem chkG_err (n : Int) (es : List (Int × Int)) : errL n es [] = errL n es [] := rfl
theorem later_unique {nb : Int → List Int} {n : Nat} {o a b : List Int} (ho : Per o n) (ha : IsLater nb n o a) (hb : IsLater nb n o b) : a = b := by
  refine List.ext_getElem? fun v => ?_
  by_cases hv : v < n
  · have hin : (v : Int) ∈ o := by
      have hp : o.Perm (rng n) := by
        refine (List.perm_ext_iff_of_nodup ho.2.1 ((rng_sorted n).imp fun h => by omega)).2 fun x => ⟨fun hx => mem_rng.2 (ho.2.2 x hx), fun hx => ?_⟩
        by_cases hxo : x ∈ o
        · exact hxo
        · have hx' : x ∈ rst n o := mem_rst.2 ⟨mem_rng.1 hx, hxo⟩
          have h1 : o.Nodup ∧ ∀ y ∈ x :: o, 0 ≤ y ∧ y < n := ⟨ho.2.1, fun y hy => by
            rcases List.mem_cons.1 hy with rfl | hy
            · exact mem_rng.1 hx
            · exact ho.2.2 y hy⟩
          have h2 := nodup_length (n := n) (o := x :: o) (List.nodup_cons.2 ⟨hxo, ho.2.1⟩) h1.2
          have := ho.1
          simp at h2
          omega
      exact hp.mem_iff.2 (mem_rng.2 ⟨by omega, by omega⟩)
    obtain ⟨i, hi, he⟩ := List.getElem_of_mem hin
    have h1 := ha.2 i (v : Int) (by rw [List.getElem?_eq_getElem hi, he])
    have h2 := hb.2 i (v : Int) (by rw [List.getElem?_eq_getElem hi, he])
    rw [Int.toNat_natCast] at h1 h2
    have e1 : a[v]? = some (a.getD v 0) := by rw [List.getD_eq_getElem?_getD, List.getElem?_eq_getElem (by rw [ha.1]; exact hv)]; rfl
    have e2 : b[v]? = some (b.getD v 0) := by rw [List.getD_eq_getElem?_getD, List.getElem?_eq_getElem (by rw [hb.1]; exact hv)]; rfl
    rw [e1, e2, h1, h2]
  · rw [List.getElem?_eq_none (by rw [ha.1]; omega), List.getElem?_eq_none (by rw [hb.1]; omega)]
theorem errL_zero {n : Int} {es : List (Int × Int)} {o : List Int} (h : errL n es o = 0) : chkG n es = 0 ∧ OrdI o n := by
  unfold errL at h
  split at h
  · split at h
    · exact ⟨by assumption, by assumption⟩
    · omega
  · exact absurd h (by assumption)
theorem laterL_unique {n : Int} {es : List (Int × Int)} {o a b : List Int} (ha : LaterL n es o a) (hb : LaterL n es o b) : a = b := by
  by_cases hz : errL n es o = 0
  · obtain ⟨h1, h2⟩ := errL_zero hz
    obtain ⟨z0, z1, _⟩ := chkG_zero h1
    obtain ⟨n, rfl⟩ := Int.eq_ofNat_of_zero_le z0
    exact later_unique (ordI_per.1 h2) (ha.1 hz) (hb.1 hz)
  · rw [ha.2 hz, hb.2 hz]

/-- How many neighbours have no lesser number. -/
def hi (nb : Int → List Int) (ns : List Int) (v : Int) : Nat := ((nb v).filter fun w => decide (ns.getD v.toNat 0 ≤ ns.getD w.toNat 0)).length
/-- The numbers are right at place i of the order. -/
def okAt (nb : Int → List Int) (ns o : List Int) (i : Nat) (v : Int) : Prop :=
  (∀ u, 0 < i → o[i - 1]? = some u → ns.getD u.toNat 0 ≤ ns.getD v.toNat 0) ∧ (dg nb (o.drop (i + 1)) v : Int) ≤ ns.getD v.toNat 0 ∧ ns.getD v.toNat 0 ≤ (hi nb ns v : Int)
def okTo (nb : Int → List Int) (ns o : List Int) (k : Nat) : Prop := ∀ i v, i < k → o[i]? = some v → okAt nb ns o i v
/-- What the check of numbers and an order answers. -/
def IsChk (n : Int) (es : List (Int × Int)) (ns o : List Int) (x : Int) : Prop :=
  (chkG n es ≠ 0 → x = chkG n es) ∧ (chkG n es = 0 → ((ns.length : Int) ≠ n ∨ ¬ OrdI o n) → x = 4) ∧ (chkG n es = 0 → (ns.length : Int) = n → OrdI o n → (x = 0 ∧ okTo (nbG n es) ns o o.length) ∨ (x = 12 ∧ ¬ okTo (nbG n es) ns o o.length))
theorem isChk_unique {n : Int} {es : List (Int × Int)} {ns o : List Int} {x y : Int} (hx : IsChk n es ns o x) (hy : IsChk n es ns o y) : x = y := by
  by_cases hz : chkG n es = 0
  · by_cases h1 : (ns.length : Int) ≠ n ∨ ¬ OrdI o n
    · rw [hx.2.1 hz h1, hy.2.1 hz h1]
    · have h2 : (ns.length : Int) = n := by
        by_cases h : (ns.length : Int) = n
        · exact h
        · exact absurd (.inl h) h1
      have h3 : OrdI o n := by
        by_cases h : OrdI o n
        · exact h
        · exact absurd (.inr h) h1
      rcases hx.2.2 hz h2 h3 with ⟨a, b⟩ | ⟨a, b⟩ <;> rcases hy.2.2 hz h2 h3 with ⟨c, d⟩ | ⟨c, d⟩
      · rw [a, c]
      · exact absurd b d
      · exact absurd d b
      · rw [a, c]
  · rw [hx.1 hz, hy.1 hz]
end Go.Proofs.YticekkjambkifaaDoor

namespace Go.Proofs.YticekkjambkifaaDoor
open Go.RowKit

theorem hi_take {nb : List Int} {ns : List Int} {a : Int} {j : Nat} {x : Int} (h : nb[j]? = some x) : ((nb.take (j + 1)).filter fun w => decide (a ≤ ns.getD w.toNat 0)).length = ((nb.take j).filter fun w => decide (a ≤ ns.getD w.toNat 0)).length + (if a ≤ ns.getD x.toNat 0 then 1 else 0) := by
  rw [take_at h, List.filter_append, List.length_append]
  congr 1
  by_cases hx : a ≤ ns.getD x.toNat 0
  · rw [if_pos hx, List.filter_cons, if_pos (decide_eq_true hx)]; rfl
  · rw [if_neg hx, List.filter_cons, if_neg (fun e => hx (of_decide_eq_true e))]; rfl
theorem okTo_step {nb : Int → List Int} {ns o : List Int} {k : Nat} {v : Int} (h : okTo nb ns o k) (hv : o[k]? = some v) (hk : okAt nb ns o k v) : okTo nb ns o (k + 1) := by
  intro i u hi hu
  by_cases he : i = k
  · subst he
    rw [hv] at hu
    injection hu with hu
    subst hu
    exact hk
  · exact h i u (by omega) hu
theorem okTo_bad {nb : Int → List Int} {ns o : List Int} {k : Nat} {v : Int} (hv : o[k]? = some v) (hk : ¬ okAt nb ns o k v) : ¬ okTo nb ns o o.length := fun h => hk (h k v (List.getElem?_eq_some_iff.1 hv).1 hv)
theorem nbG_range {n : Nat} {es : List (Int × Int)} (hc : chkG n es = 0) {v x : Int} (h : x ∈ nbG n es v) : 0 ≤ x ∧ x < n := by
  have hlt := chkE_lt (chkG_zero hc).2.2
  unfold nbG at h
  rw [if_pos hc, mem_of] at h
  unfold nbl at h
  rw [List.mem_flatMap] at h
  obtain ⟨e, he, hx⟩ := h
  have h1 := hlt e he
  rw [List.mem_append] at hx
  rcases hx with hx | hx
  · split at hx
    · rw [List.mem_singleton.1 hx]; omega
    · cases hx
  · split at hx
    · rw [List.mem_singleton.1 hx]; omega
    · cases hx
theorem getD_at {xs : List Int} {k : Nat} {y : Int} (h : xs[k]? = some y) : xs.getD k 0 = y := by rw [List.getD_eq_getElem?_getD, h]; rfl

end Go.Proofs.YticekkjambkifaaDoor

/- Package graph: the check, and the order of edges. -/
set_option linter.unusedVariables false
namespace Go.Proofs.YticekkjambkifaaDoor
open Go.RowKit

def cmpI (a b : Int) : Int := if a < b then -1 else if b < a then 1 else 0
def orI (x y : Int) : Int := if x = 0 then y else x
def ordE (a b : Int × Int) : Int := orI (cmpI a.1 b.1) (cmpI a.2 b.2)
theorem cmpI_lt {a b : Int} (h : a < b) : cmpI a b = -1 := if_pos h
theorem cmpI_gt {a b : Int} (h : b < a) : cmpI a b = 1 := by unfold cmpI; rw [if_neg (by omega), if_pos h]
theorem cmpI_eq {a b : Int} (h : a = b) : cmpI a b = 0 := by unfold cmpI; rw [if_neg (by omega), if_neg (by omega)]
theorem ord_lt (a b : Int × Int) : (ordE a b < 0 → ltE a b) ∧ (ltE a b → ordE a b < 0) := by
  unfold ordE orI ltE
  rcases Int.lt_trichotomy a.1 b.1 with h | h | h
  · rw [cmpI_lt h, if_neg (by omega)]
    exact ⟨fun _ => .inl h, fun _ => by omega⟩
  · rw [cmpI_eq h, if_pos rfl]
    rcases Int.lt_trichotomy a.2 b.2 with h2 | h2 | h2
    · rw [cmpI_lt h2]; exact ⟨fun _ => .inr ⟨h, h2⟩, fun _ => by omega⟩
    · rw [cmpI_eq h2]; exact ⟨fun h => by omega, fun h => by omega⟩
    · rw [cmpI_gt h2]; exact ⟨fun h => by omega, fun h => by omega⟩
  · rw [cmpI_gt h, if_neg (by omega)]
    exact ⟨fun h => by omega, fun h => by omega⟩
set_option maxHeartbeats 400000 in
theorem nan_any (a : Int) (w : World) : Calls Tryd.prog 135 #[.int .i64 a] w fun e w' => e = .returned (.bool false) ∧ w = w' := by
  go_enter Tryd.func135, Tryd.ntmps135
  go_wp2
  go_ret
  exact ⟨by simp, rfl⟩
set_option maxHeartbeats 400000 in
theorem compare_any (a b : Int) (w : World) : Calls Tryd.prog 120 #[.int .i64 a, .int .i64 b] w fun e w' => e = .returned (.int .i64 (cmpI a b)) ∧ w = w' := by
  have hw : (a < b ∧ cmpI a b = -1) ∨ (¬ a < b ∧ b < a ∧ cmpI a b = 1) ∨ (¬ a < b ∧ ¬ b < a ∧ cmpI a b = 0) := by
    unfold cmpI
    by_cases h1 : a < b
    · exact .inl ⟨h1, if_pos h1⟩
    · by_cases h2 : b < a
      · exact .inr (.inl ⟨h1, h2, by rw [if_neg h1, if_pos h2]⟩)
      · exact .inr (.inr ⟨h1, h2, by rw [if_neg h1, if_neg h2]⟩)
  rcases hw with ⟨h1, h3⟩ | ⟨h1, h2, h3⟩ | ⟨h1, h2, h3⟩
  all_goals
    replace h3 := Lib.hid h3
    go_enter Tryd.func120, Tryd.ntmps120
    go_wp2_with (go_at_call 135; refine (nan_any _ _).mono ?_; rintro e w' ⟨rfl, rfl⟩)
    go_ret
    exact ⟨retInt h3.out.symm, rfl⟩
set_option maxHeartbeats 1000000 in
theorem or_any (A : Option Addr) (c : Nat) (x y : Int) (w : World) (h : RI w A 2 [x, y]) :
    Calls Tryd.prog 119 #[.slice A 2 c] w fun e w' => e = .returned (.int .i64 (orI x y)) ∧ w = w' := by
  go_enter Tryd.func119, Tryd.ntmps119
  go_wp2
  go_loop [8] (fun i => ∃ k : Nat, k ≤ 2 ∧ i = .int .i64 k ∧ (0 < k → x = 0) ∧ (1 < k → y = 0)) (fun i => 2 - (intOf i).toNat)
  case atStart => exact ⟨0, by omega, rfl, by omega, by omega⟩
  case round =>
    obtain ⟨k, hk, rfl, h1, h2⟩ := hrel
    by_cases hlt : k < 2
    · obtain ⟨ad, z, rfl, hz, hc⟩ := h.get hlt
      have hz' : (k = 0 ∧ z = x) ∨ (k = 1 ∧ z = y) := by
        rcases (show k = 0 ∨ k = 1 by omega) with rfl | rfl
        · have := hz.out; simp at this; exact .inl ⟨rfl, this.symm⟩
        · have := hz.out; simp at this; exact .inr ⟨rfl, this.symm⟩
      by_cases h0 : z = 0
      · have hb : (z != 0) = false := by simpa using h0
        have f1 : 0 < k + 1 → x = 0 := fun _ => by rcases hz' with ⟨r1, r2⟩ | ⟨r1, r2⟩ <;> omega
        have f2 : 1 < k + 1 → y = 0 := fun _ => by rcases hz' with ⟨r1, r2⟩ | ⟨r1, r2⟩ <;> omega
        replace f1 := Lib.hid f1
        replace f2 := Lib.hid f2
        clear hz' h1 h2 h0
        go_wp2
        go_round
        case rel => exact ⟨k + 1, by omega, by go_num, f1.out, f2.out⟩
        case measure => simp [intOf]; omega
      · have hb : (z != 0) = true := by simpa using h0
        have hv : z = orI x y := by
          unfold orI
          rcases hz' with ⟨r1, r2⟩ | ⟨r1, r2⟩
          · rw [if_neg (by rw [← r2]; exact h0), r2]
          · rw [if_pos (h1 (by omega)), r2]
        replace hv := Lib.hid hv
        clear hz' h1 h2 h0
        go_wp2
        go_ret
        exact ⟨retInt hv.out, rfl⟩
    · have hv : orI x y = 0 := by rw [h1 (by omega), h2 (by omega)]; rfl
      replace hv := Lib.hid hv
      clear h1 h2
      go_wp2
      go_ret
      exact ⟨retInt hv.out.symm, rfl⟩
theorem RI.two {w : World} {t : TypeId} (x y : Int) {H : Nat} (hH : H = w.heap.size) : RI (w.alloc (.cells #[.int .i64 x, .int .i64 y] t)) (some ⟨H, 0, none⟩) 2 [x, y] := by
  subst hH
  exact ⟨rfl, fun _ => ⟨_, rfl, by simp, World.news_of_block (cs := #[.int .i64 x, .int .i64 y]) (t := t) (fr := (0, 0)) (heap_alloc_new w _)⟩⟩
set_option maxHeartbeats 2000000 in
theorem order_any (a b c d : Int) (w : World) :
    Calls Tryd.prog 93 #[.agg #[.int .i64 a, .int .i64 b], .agg #[.int .i64 c, .int .i64 d]] w fun e w' => e = .returned (.int .i64 (ordE (a, b) (c, d))) ∧ Below w.heap.size w w' := by
  have k1 := fun w => compare_any a c w
  have k2 := fun w => compare_any b d w
  have hdef : ordE (a, b) (c, d) = orI (cmpI a c) (cmpI b d) := rfl
  generalize cmpI a c = p at *
  generalize cmpI b d = q at *
  replace k1 := Lib.hid k1
  replace k2 := Lib.hid k2
  replace hdef := Lib.hid hdef
  go_enter Tryd.func93, Tryd.ntmps93
  go_wp2
  go_region_held3 (fun w' => w'.cell? ⟨w.heap.size, 0, none⟩ = some (.int .i64 a) ∧ w'.cell? ⟨w.heap.size, 1, none⟩ = some (.int .i64 b) ∧ w'.cell? ⟨w.heap.size + 1, 0, none⟩ = some (.int .i64 c) ∧ w'.cell? ⟨w.heap.size + 1, 1, none⟩ = some (.int .i64 d)) (go_keep)
    ((first | (go_at_call 120; (with_reducible refine (k1.out _).mono ?_); rintro e w' ⟨rfl, rfl⟩) | (go_at_call 120; (with_reducible refine (k2.out _).mono ?_); rintro e w' ⟨rfl, rfl⟩) | (go_at_call 119; refine (or_any _ _ p q _ ?_).mono ?_; exact (RI.two p q (by simp)).drew; rintro e w' ⟨rfl, rfl⟩)))
  all_goals go_wp2
  all_goals go_ret
  all_goals exact ⟨retInt hdef.out.symm, by go_grown⟩

set_option maxRecDepth 100000 in
set_option maxHeartbeats 2000000 in
theorem gcheck_any (A : Option Addr) (m c : Nat) (n : Int) (es : List (Int × Int)) (w : World) (h : RE w A m es) (hm : m ≤ 1099511627776) :
    Calls Tryd.prog 52 #[.agg #[.int .i64 n, .slice A m c]] w fun e w' => e = .returned (.int .i64 (chkG n es)) ∧ Below w.heap.size w w' := by
  by_cases hn : n < 0 ∨ 64 < n
  · have hv : chkG n es = 1 := by rw [chkG, if_pos hn]
    replace hv := Lib.hid hv
    rcases hn with hn | hn
    all_goals
      go_enter Tryd.func52, Tryd.ntmps52
      go_wp2
      go_ret
      exact ⟨retInt hv.out.symm, by go_grown⟩
  · have hv : chkG n es = chkE n none es := by rw [chkG, if_neg hn]
    replace hv := Lib.hid hv
    have hn0 : 0 ≤ n := by omega
    have hn1 : n ≤ 64 := by omega
    clear hn
    have hml := Lib.hid h.len
    go_enter Tryd.func52, Tryd.ntmps52
    go_wp2
    go_loopw [16] (fun i wr => ∃ k : Nat, k ≤ m ∧ i = .int .i64 k ∧ Hid (chkE n none es = chkE n (prevE es k) (es.drop k)) ∧ Blk wr w.heap.size 25 #[.int .i64 n, .slice A m c] ∧ Below w.heap.size w wr) (fun i _ => m - (intOf i).toNat)
    case atStart => exact ⟨0, Nat.zero_le _, rfl, Lib.hid rfl, Blk.new _ _ _, by go_grown⟩
    case round =>
      obtain ⟨k, hk, rfl, hx, hB, hb⟩ := hrel
      have hg0 := Blk.cell hB 0
      have hg1 := Blk.cell hB 1
      simp at hg0 hg1
      have hlt0 := Blk.lt hB
      by_cases hlt : k < m
      · obtain ⟨ad, u, v, rfl, hbl, hy, hc1, hc2⟩ := (RE.below h hb (Nat.le_refl _)).get hlt
        by_cases hbad : u < 0 ∨ v ≤ u ∨ n ≤ v
        · have hf := Lib.hid (hv.out.trans (chk_out hx.out hy.out hbad))
          have hb' := hb
          have hw : decide (u < 0) = true ∨ (decide (u < 0) = false ∧ decide (v ≤ u) = true) ∨ (decide (u < 0) = false ∧ decide (v ≤ u) = false ∧ decide (n ≤ v) = true) := by simp; omega
          clear hbad
          rcases hw with q1 | ⟨q1, q2⟩ | ⟨q1, q2, q3⟩
          all_goals
            go_wp2
            go_ret
            exact ⟨retInt hf.out.symm, by go_grown⟩
        · have q1 : decide (u < 0) = false := by simp; omega
          have q2 : decide (v ≤ u) = false := by simp; omega
          have q3 : decide (n ≤ v) = false := by simp; omega
          by_cases hk0 : 0 < k
          · obtain ⟨ad', u', v', had, _, hy', hc1', hc2'⟩ := (RE.below h hb (Nat.le_refl _)).get (show k - 1 < m by omega)
            obtain rfl : ad = ad' := by injection had
            clear had
            have hh : Hid ((ordE (u', v') (u, v) < 0 → chkE n none es = chkE n (prevE es (k + 1)) (es.drop (k + 1))) ∧ (0 ≤ ordE (u', v') (u, v) → chkE n none es = 5)) := by
              have ho := ord_lt (u', v') (u, v)
              refine Lib.hid ⟨fun hl => chk_step hx.out hy.out hbad fun _ a b hab => ?_, fun hl => chk_down hx.out hy.out hbad hk0 hy'.out (fun h => by have := ho.2 h; omega)⟩
              rw [hy'.out] at hab
              simp at hab
              obtain ⟨rfl, rfl⟩ := hab
              exact ho.1 hl
            clear hbad
            have bf := fun w => order_any u' v' u v w
            generalize ordE (u', v') (u, v) = O at *
            replace bf := Lib.hid bf
            have i0 : (0 : Int) ≤ (k : Int) - 1 := by omega
            have i1 : (k : Int) - 1 < (m : Int) := by omega
            have i2 : ((k : Int) - 1).toNat = k - 1 := by omega
            have i3 : IntKind.i64.wrap ((k : Int) - 1) = (k : Int) - 1 := IntWalk.i64_in _ ⟨by omega, by omega⟩
            have i4 : decide ((0 : Int) < (k : Int)) = true := by simp; omega
            have i5 : (1 : Int) ≤ (k : Int) := by omega
            have i6 : (k : Int) ≤ (m : Int) := by omega
            have i7 : k - 1 < m := by omega
            have hz := hb.size
            go_wp2
            obtain ⟨W, hW⟩ : ∃ W, W = wr.alloc (.cells #[.int .i64 u, .int .i64 v] 73) := ⟨_, rfl⟩
            have hN : Blk W wr.heap.size 73 #[.int .i64 u, .int .i64 v] := by rw [hW]; exact Blk.new _ _ _
            have hB2 : Blk W w.heap.size 25 #[.int .i64 n, .slice (some ad) m c] := by rw [hW]; exact Blk.alloc hB _
            have hb2 : Below w.heap.size w W := by rw [hW]; exact hb.alloc hz _
            have ZZ : wr.heap.size + 1 ≤ W.heap.size := by rw [hW]; simp
            have hp1 : W.cell? (ad.add ((k - 1) * 2)) = some (.int .i64 u') := by rw [hW, World.cell?_alloc_lt _ _ _ (by rw [block_of_add]; exact hbl)]; exact hc1'
            have hp2 : W.cell? ⟨(ad.add ((k - 1) * 2)).block, (ad.add ((k - 1) * 2)).off + 1, none⟩ = some (.int .i64 v') := by rw [hW, World.cell?_alloc_lt _ _ _ (by show (ad.add ((k - 1) * 2)).block < _; rw [block_of_add]; exact hbl)]; exact hc2'
            rw [← hW]
            clear hW hg0 hg1 hc1 hc2 hc1' hc2' hB hb
            have hg1 := Blk.cell hB2 1
            have hn0' := Blk.cell hN 0
            have hn1' := Blk.cell hN 1
            simp at hg1 hn0' hn1'
            have hlw : w.heap.size < wr.heap.size + 1 := by omega
            have hla : (ad.add ((k - 1) * 2)).block < wr.heap.size + 1 := by rw [block_of_add]; omega
            have BV : Below w.heap.size w W := hb2
            have BN : Below (wr.heap.size + 1) W W := Below.refl _ _
            go_region_held3 (fun w' => w'.cell? ⟨w.heap.size, 1, none⟩ = some (.slice (some ad) m c) ∧ w'.cell? (ad.add ((k - 1) * 2)) = some (.int .i64 u') ∧ w'.cell? ⟨(ad.add ((k - 1) * 2)).block, (ad.add ((k - 1) * 2)).off + 1, none⟩ = some (.int .i64 v') ∧ w'.cell? ⟨wr.heap.size, 0, none⟩ = some (.int .i64 u) ∧ w'.cell? ⟨wr.heap.size, 1, none⟩ = some (.int .i64 v))
              ((first | (go_split_ands; refine ⟨?_, ?_, ?_, ?_, ?_⟩ <;> (rw [hb9.cell (by first | (simp; omega) | (rw [block_of_add] at hla; simp [block_of_add]; omega))]; assumption)) | ((repeat' apply And.intro) <;> (go_keep; done))))
              ((go_at_call 93; (with_reducible refine (bf.out _).mono ?_); rintro e w9 ⟨rfl, hb9⟩; replace BV : Below w.heap.size w w9 := (by first | exact below_call BV hb9 | exact below_call BV.drew hb9); replace BN : Below (wr.heap.size + 1) W w9 := (by first | exact BN.trans (hb9.mono ZZ) | exact BN.drew.trans (hb9.mono ZZ))))
            replace hB2 := Blk.below hB2 BN (by omega)
            clear hb9 hp1 hp2 hg1 hn0' hn1' BN hN
            by_cases hO : O < 0
            · have hO' : decide (0 ≤ O) = false := by simp; omega
              have hf := Lib.hid (hh.out.1 hO)
              clear hh bf
              go_wp2
              go_roundw
              case rel => exact ⟨k + 1, by omega, by go_num, hf, hB2, BV⟩
              case measure => simp [intOf]; omega
            · have hO' : decide (0 ≤ O) = true := by simp; omega
              have hf := Lib.hid (hv.out.trans (hh.out.2 (by omega)))
              clear hh bf
              go_wp2
              go_ret
              exact ⟨retInt hf.out.symm, BV⟩
          · have hst := Lib.hid (chk_step hx.out hy.out hbad (fun h0 => absurd h0 hk0))
            clear hbad
            have i4 : decide ((0 : Int) < (k : Int)) = false := by simp; omega
            go_wp2
            go_quiet (fail)
            go_wp2
            go_roundw
            case rel => exact ⟨k + 1, by omega, by go_num, hst, (Blk.alloc hB _).drewN _, below_drewN (hb.alloc hb.size _) _⟩
            case measure => simp [intOf]; omega
      · have hf : chkG n es = 0 := by
          rw [hv.out, hx.out, List.drop_of_length_le (by rw [hml.out]; omega)]; rfl
        replace hf := Lib.hid hf
        go_wp2
        go_ret
        exact ⟨retInt hf.out.symm, hb⟩
end Go.Proofs.YticekkjambkifaaDoor

/- Package core, first part: whole orders, and later neighbours. -/
set_option linter.unusedVariables false
namespace Go.Proofs.YticekkjambkifaaDoor
open Go.RowKit

def seenL (n : Nat) (p : List Int) : List Bool := (List.range n).map fun i : Nat => decide ((i : Int) ∈ p)
theorem seenL_length (n : Nat) (p : List Int) : (seenL n p).length = n := by simp [seenL]
theorem seenL_get {n : Nat} {p : List Int} {i : Nat} (h : i < n) : (seenL n p).getD i false = decide ((i : Int) ∈ p) := by
  rw [List.getD_eq_getElem?_getD]
  simp [seenL, h]
theorem seenL_nil (n : Nat) : seenL n [] = List.replicate n false := by
  unfold seenL
  refine List.ext_getElem? fun i => ?_
  rw [List.getElem?_map, List.getElem?_replicate]
  by_cases h : i < n <;> simp [h]
theorem seenL_push {n : Nat} {p : List Int} {x : Nat} : seenL n (p ++ [(x : Int)]) = (seenL n p).set x true := by
  refine List.ext_getElem? fun i => ?_
  rw [List.getElem?_set]
  unfold seenL
  rw [List.getElem?_map, List.getElem?_map, List.length_map, List.length_range]
  by_cases h : i < n
  · by_cases he : x = i
    · subst he
      simp [h]
    · rw [if_neg he]
      simp [h]
      intro hx; omega
  · by_cases he : x = i
    · subst he; simp [h]
    · simp [h, he]
end Go.Proofs.YticekkjambkifaaDoor

namespace Go.Proofs.YticekkjambkifaaDoor
open Go.RowKit CoBit

theorem u64_clr {x b : Nat} (hx : x < 18446744073709551616) (hb : b < 64) : bits .andNot .u64 (x : Int) ((bitN b : Nat) : Int) = ((clr x b : Nat) : Int) := u64_andNot_nat x (2 ^ b) hx (two_pow_lt hb)
theorem per_drop {o : List Int} {n k : Nat} {x : Int} (h : Per o n) (hx : o[k]? = some x) : x ∉ o.drop (k + 1) := by
  have h1 : (o.drop k).Nodup := h.2.1.sublist (List.drop_sublist _ _)
  rw [drop_at hx, List.nodup_cons] at h1
  exact h1.1
theorem per_all {o : List Int} {n i : Nat} (h : Per o n) (hi : i < n) : (i : Int) ∈ o := by
  have hp : rst n o = [] := by
    by_cases he : rst n o = []
    · exact he
    · obtain ⟨x, hx⟩ := List.exists_mem_of_ne_nil _ he
      have hx' := mem_rst.1 hx
      have h2 := nodup_length (n := n) (o := x :: o) (List.nodup_cons.2 ⟨hx'.2, h.2.1⟩) (fun y hy => by
        rcases List.mem_cons.1 hy with rfl | hy
        · exact hx'.1
        · exact h.2.2 y hy)
      have := h.1
      simp at h2
      omega
  by_cases hm : (i : Int) ∈ o
  · exact hm
  · have : (i : Int) ∈ rst n o := mem_rst.2 ⟨by omega, hm⟩
    rw [hp] at this
    cases this
theorem left_start {o : List Int} {n : Nat} (h : Per o n) : ∀ i, i < n → ((2 ^ n - 1).testBit i = true ↔ (i : Int) ∈ o.drop 0) := by
  intro i hi
  rw [all_bit]
  simp [hi]
  exact per_all h hi
theorem left_step {o : List Int} {n k x : Nat} {left : Nat} (h : Per o n) (hx : o[k]? = some (x : Int)) (hl : left < 18446744073709551616) (hx64 : x < 64) (hb : ∀ i, i < n → (left.testBit i = true ↔ (i : Int) ∈ o.drop k)) : ∀ i, i < n → ((clr left x).testBit i = true ↔ (i : Int) ∈ o.drop (k + 1)) := by
  intro i hi
  rw [clr_bit hl hx64]
  have h1 := hb i hi
  have h2 := per_drop h hx
  rw [drop_at hx, List.mem_cons] at h1
  simp only [Bool.and_eq_true, decide_eq_true_eq, h1]
  constructor
  · rintro ⟨h | h, hne⟩
    · omega
    · exact h
  · intro hm
    exact ⟨.inr hm, fun e => h2 (e ▸ hm)⟩

end Go.Proofs.YticekkjambkifaaDoor

/- Package peel: inside, walked. -/
set_option linter.unusedVariables false
namespace Go.Proofs.YticekkjambkifaaDoor
open Go.RowKit CoBit

theorem sum_take {l : List Nat} {k x : Nat} (h : l[k]? = some x) : (l.take (k + 1)).sum = (l.take k).sum + x := by
  have : l.take (k + 1) = l.take k ++ [x] := by
    rw [List.take_succ_eq_append_getElem (List.getElem?_eq_some_iff.1 h).1, (List.getElem?_eq_some_iff.1 h).2]
  rw [this, List.sum_append]; simp
/-- The set of the bits of x. -/
def bset (x : Nat) : List Int := nts (bl x)
theorem bset_sorted (x : Nat) : (bset x).Pairwise (· < ·) := nts_sorted (bl_sorted x)
theorem mem_bset {x i : Nat} : (i : Int) ∈ bset x ↔ i < 64 ∧ x.testBit i = true := by
  unfold bset
  rw [mem_nts', mem_bl]
/-- The sum of the degrees of the first k nodes of a set, within it. -/
def psum (n : Nat) (es : List (Int × Int)) (x k : Nat) : Nat := (((bset x).take k).map fun v => dg (nbG n es) (bset x) v).sum
theorem psum_step {n : Nat} {es : List (Int × Int)} {x k : Nat} {v : Int} (h : (bset x)[k]? = some v) : psum n es x (k + 1) = psum n es x k + dg (nbG n es) (bset x) v := by
  unfold psum
  rw [take_at h, List.map_append, List.sum_append]; simp
theorem bset_length (x : Nat) : (bset x).length ≤ 64 := by unfold bset; rw [nts_length]; exact bl_length x
theorem dg_set (nb : Int → List Int) {S : List Int} (hn : S.Nodup) (v : Int) : dg nb S v ≤ (nb v).length := List.length_filter_le _ _
theorem psum_all {n : Nat} {es : List (Int × Int)} {x k : Nat} (hc : chkG n es = 0) (hk : (bset x).length ≤ k) : psum n es x k = 2 * insE es (bset x) := by
  unfold psum
  rw [List.take_of_length_le hk]
  exact hand hc (sorted_nodup (bset_sorted x))
theorem bset_at {n x k : Nat} {v : Int} (hx : ∀ i, x.testBit i = true → i < n) (h : (bset x)[k]? = some v) : ∃ u : Nat, v = (u : Int) ∧ u < n := by
  have hm := List.mem_of_getElem? h
  obtain ⟨u, hu, rfl⟩ := mem_nts.1 hm
  exact ⟨u, rfl, hx u (mem_bl.1 hu).2⟩
theorem pop_row {n : Nat} {es : List (Int × Int)} (hc : chkG n es = 0) (hn : n ≤ 64) (v x : Nat) : pop ((rowsL n es).getD v 0 &&& x) = dg (nbG n es) (bset x) v :=
  pop_dg hc hn v x (bset x) fun i hi => by rw [mem_bset]; exact ⟨fun h => ⟨by omega, h⟩, fun h => h.2⟩

end Go.Proofs.YticekkjambkifaaDoor

/- Words for slices of elements of any fixed form: reading, rows of the call's own, appending. -/
set_option linter.unusedVariables false
namespace Go.Proofs.YticekkjambkifaaDoor
open Go.RowKit

/-- How an element lies in memory: so many cells. -/
structure El (α : Type) where
  size : Nat
  cells : α → List Value
  len : ∀ x, (cells x).length = size
  one : ∀ x, ∀ u ∈ cells x, u.oneCell' = true
  pos : 0 < size
variable {α : Type}
def El.all (E : El α) (xs : List α) : List Value := xs.flatMap E.cells
theorem El.all_nil (E : El α) : E.all [] = [] := rfl
theorem El.all_cons (E : El α) (x : α) (xs : List α) : E.all (x :: xs) = E.cells x ++ E.all xs := rfl
theorem El.all_append (E : El α) (xs ys : List α) : E.all (xs ++ ys) = E.all xs ++ E.all ys := by simp [El.all]
theorem El.all_length (E : El α) (xs : List α) : (E.all xs).length = xs.length * E.size := by
  induction xs with
  | nil => simp [El.all]
  | cons x xs ih => rw [E.all_cons, List.length_append, ih, E.len, List.length_cons, Nat.add_mul]; omega
theorem El.all_one (E : El α) (xs : List α) : ∀ u ∈ E.all xs, u.oneCell' = true := by
  intro u hu
  simp only [El.all, List.mem_flatMap] at hu
  obtain ⟨x, _, hu⟩ := hu
  exact E.one x u hu
theorem El.all_at (E : El α) {xs : List α} {k i : Nat} {x : α} {u : Value} (h : xs[k]? = some x) (hu : (E.cells x)[i]? = some u) : (E.all xs)[k * E.size + i]? = some u := by
  induction xs generalizing k with
  | nil => simp at h
  | cons y ys ih =>
    have hi : i < E.size := by
      have := (List.getElem?_eq_some_iff.1 hu).1
      rw [E.len] at this; exact this
    rw [E.all_cons]
    cases k with
    | zero =>
      simp at h; subst h
      rw [Nat.zero_mul, Nat.zero_add, List.getElem?_append_left (by rw [E.len]; exact hi)]; exact hu
    | succ k =>
      rw [List.getElem?_append_right (by rw [E.len, Nat.succ_mul]; omega), E.len, show (k + 1) * E.size + i - E.size = k * E.size + i by rw [Nat.succ_mul]; omega]
      exact ih (by simpa using h)
theorem El.all_take (E : El α) (xs : List α) (k : Nat) : (E.all xs).take (k * E.size) = E.all (xs.take k) := by
  induction xs generalizing k with
  | nil => simp [El.all]
  | cons x xs ih =>
    cases k with
    | zero => simp [El.all]
    | succ k => rw [List.take_succ_cons, E.all_cons, E.all_cons, ← ih, List.take_append, E.len, List.take_of_length_le (by rw [E.len, Nat.succ_mul]; omega), show (k + 1) * E.size - E.size = k * E.size by rw [Nat.succ_mul]; omega]
theorem El.all_drop (E : El α) (xs : List α) (k : Nat) : (E.all xs).drop (k * E.size) = E.all (xs.drop k) := by
  induction xs generalizing k with
  | nil => simp [El.all]
  | cons x xs ih =>
    cases k with
    | zero => simp [El.all]
    | succ k => rw [List.drop_succ_cons, E.all_cons, ← ih, List.drop_append, E.len, List.drop_of_length_le (by rw [E.len, Nat.succ_mul]; omega), show (k + 1) * E.size - E.size = k * E.size by rw [Nat.succ_mul]; omega, List.nil_append]

/-- The slice reads as the elements xs. -/
def RS (E : El α) (w : World) (A : Option Addr) (n : Nat) (xs : List α) : Prop := Reads w w.heap.size E.size A n (E.all xs)
section
variable {E : El α} {w w' : World} {n : Nat} {A : Option Addr} {xs : List α}
theorem RS.len (h : RS E w A n xs) : xs.length = n := by
  have := h.1; rw [E.all_length] at this
  exact Nat.eq_of_mul_eq_mul_right E.pos this
theorem RS.get {k : Nat} (h : RS E w A n xs) (hk : k < n) : ∃ ad x, A = some ad ∧ ad.block < w.heap.size ∧ Hid (xs[k]? = some x) ∧ ∀ i u, (E.cells x)[i]? = some u → w.cell? ((ad.add (k * E.size)).add i) = some u := by
  obtain ⟨ad, e, hb, hc⟩ := h.2 (by omega)
  have hl := h.len
  have hx : xs[k]? = some xs[k] := List.getElem?_eq_getElem (by omega)
  exact ⟨ad, _, e, hb, Lib.hid hx, fun i u hu => by rw [add_of_add]; exact hc _ _ (E.all_at hx hu)⟩
theorem RS.below {b : Nat} (h : RS E w A n xs) (hb : Below b w w') (hB : w.heap.size ≤ b) : RS E w' A n xs := (Reads.below h hb hB).more hb.size
theorem RS.drew (h : RS E w A n xs) : RS E w.drew A n xs := h
theorem RS.drewN (h : RS E w A n xs) (k : Nat) : RS E (w.drewN k) A n xs := h
theorem RS.alloc (h : RS E w A n xs) (o : Obj) : RS E (w.alloc o) A n xs := (Reads.alloc h (Nat.le_refl _) o).more (by simp)
theorem RS.none_ : RS E w A 0 [] := Reads.none_
theorem RS.head (h : RS E w A n xs) {k : Nat} (hk : k ≤ n) : RS E w A k (xs.take k) := by
  have := Reads.head h hk
  rwa [E.all_take] at this
theorem RS.cut (h : RS E w A n xs) {k cap : Nat} (hk : k ≤ n) (hc : n ≤ cap) : RS E w (if cap = k then A else A.map (·.add (k * E.size))) (n - k) (xs.drop k) := by
  have := Reads.cut h hk hc
  rwa [E.all_drop] at this
theorem RS.kept {row : Option Nat} (h : RS E w A n xs) (hg : w.grownBy w' row) (hne : ∀ ad, A = some ad → some ad.block ≠ row) : RS E w' A n xs :=
  ⟨h.1, fun hn => by
    obtain ⟨ad, e, hb, hc⟩ := (show Reads w w.heap.size E.size A n (E.all xs) from h).2 hn
    exact ⟨ad, e, Nat.lt_of_lt_of_le hb hg.size, fun j u hu => (World.cell?_of_block (hg.block (ad.add j).block (by rw [block_of_add]; exact hb) (by rw [block_of_add]; exact hne ad e))).trans (hc j u hu)⟩⟩
theorem RS.far (h : RS E w A n xs) {p : Addr} (hne : ∀ ad, A = some ad → ad.block ≠ p.block) (u : Value) : RS E (w.setCell p u) A n xs :=
  ⟨h.1, fun hn => by
    obtain ⟨ad, e, hb, hc⟩ := (show Reads w w.heap.size E.size A n (E.all xs) from h).2 hn
    exact ⟨ad, e, by simpa using hb, fun j v hv => (World.cell?_setCell_other w p _ u (fun e' => by have h1 := hne ad e; have h2 := block_of_add ad j; rw [e'] at h1; exact h1 h2.symm)).trans (hc j v hv)⟩⟩
theorem RS.block_lt (h : RS E w A n xs) (hn : 0 < n) : ∃ ad, A = some ad ∧ ad.block < w.heap.size := by
  obtain ⟨ad, e, hb, _⟩ := h.2 hn
  exact ⟨ad, e, hb⟩
/-- A block that holds just these elements. -/
theorem RS.blk {g : Nat} {t : TypeId} {cs : Array Value} (h : Blk w g t cs) (hcs : cs = (E.all xs).toArray) (hn : n = xs.length) : RS E w (some ⟨g, 0, none⟩) n xs := by
  refine ⟨by rw [E.all_length, hn], fun _ => ⟨_, rfl, h.lt, fun j u hu => ?_⟩⟩
  have hadd : (⟨g, 0, none⟩ : Addr).add j = ⟨g, j, none⟩ := by unfold Addr.add; split <;> simp_all
  rw [hadd, Blk.cell h, hcs]
  simpa using hu
end

/-- The slice v is the call's own (a row among the blocks from B on, of elements of type t), and holds the elements xs. -/
def OS (E : El α) (t : TypeId) (w : World) (B : Nat) (v : Value) (xs : List α) : Prop := w.ownsRow B t E.size v xs.length (E.all xs)
section
variable {E : El α} {t : TypeId} {w w' : World} {B : Nat} {v : Value} {xs : List α}
theorem OS.nil_ : OS E t w B (.slice none 0 0) [] := World.ownsRow_nil _ _ _ _
theorem OS.alloc (h : OS E t w B v xs) (o : Obj) : OS E t (w.alloc o) B v xs := World.ownsRow.alloc h o
theorem OS.drew (h : OS E t w B v xs) : OS E t w.drew B v xs := h
theorem OS.drewN (h : OS E t w B v xs) (n : Nat) : OS E t (w.drewN n) B v xs := h
theorem OS.kept {row : Option Nat} (h : OS E t w B v xs) (hg : w.grownBy w' row) (hne : v.ownBlock = none ∨ v.ownBlock ≠ row) : OS E t w' B v xs := World.ownsRow.kept h hg hne
theorem OS.block_lt (h : OS E t w B v xs) : ∀ k, v.ownBlock = some k → B ≤ k ∧ k < w.heap.size := World.ownsRow.lt h
theorem OS.below {b : Nat} (h : OS E t w B v xs) (hb : Below b w w') (hB : w.heap.size ≤ b) : OS E t w' B v xs := by
  rcases h.2 with ⟨rfl, h0⟩ | ⟨g, cap, cur, rfl, h1, h2, h3⟩
  · exact ⟨h.1, .inl ⟨rfl, h0⟩⟩
  · have hlt : g < w.heap.size := by
      rcases Nat.lt_or_ge g w.heap.size with hlt | hge
      · exact hlt
      · rw [Array.getElem?_eq_none hge] at h2; cases h2
    exact ⟨h.1, .inr ⟨g, cap, cur, rfl, h1, (hb.block g (by omega)).trans h2, h3⟩⟩
theorem OS.mono {B' : Nat} (h : OS E t w B v xs) (hB : B' ≤ B) : OS E t w B' v xs := by
  rcases h.2 with ⟨rfl, h0⟩ | ⟨g, cap, cur, rfl, h1, h2⟩
  · exact ⟨h.1, .inl ⟨rfl, h0⟩⟩
  · exact ⟨h.1, .inr ⟨g, cap, cur, rfl, Nat.le_trans hB h1, h2⟩⟩
theorem OS.set_far (h : OS E t w B v xs) {p : Addr} (hp : p.block < B) (u : Value) : OS E t (w.setCell p u) B v xs := ownsRow_setCell_below h hp u
theorem OS.form (h : OS E t w B v xs) : ∃ A n c, v = .slice A n c ∧ n = xs.length ∧ n ≤ c ∧ c ≤ maxLen ∧ RS E w A n xs ∧ Fr B A := by
  obtain ⟨A, c, rfl, h1, h2⟩ := own_form h
  exact ⟨A, _, c, rfl, rfl, h1, h2, Reads.of_own h, own_fresh h⟩
theorem OS.rs {A : Option Addr} {n c : Nat} (h : OS E t w B (.slice A n c) xs) (hn : n = xs.length) : RS E w A n xs ∧ n ≤ c ∧ Fr B A := by
  subst hn
  obtain ⟨A', c', hv, h1, _⟩ := own_form h
  injection hv with _ _ hc
  exact ⟨Reads.of_own h, by rw [hc]; exact h1, own_fresh h⟩
theorem OS.ne_new (h : OS E t w B v xs) : some w.heap.size ≠ v.ownBlock := fun e => by have := (h.block_lt _ e.symm).2; omega
end

/-- What the walk of an append of elements of one type wants to know of the program. -/
structure Ty (E : El α) (st t : TypeId) (bytes : Nat) : Prop where
  und : Tryd.prog.underlying st = some (.slice t)
  info : ∃ z, (Tryd.prog.info? t).map (fun i => (i.zero, i.size, i.bytes)) = some (some z, E.size, bytes) ∧ z.cells.size = E.size

section
variable {E : El α} {st t : TypeId} {bytes : Nat}
/-- append of a list that reads. -/
theorem wpList_catG (T : Ty E st t bytes) {ops : Array Oper} {rest : List Oper} {o : Oper} {a : Act} {Q : Exit → Act → World → Prop} {w : World} {B : Nat} {v : Value} {xs zs : List α} {A : Option Addr} {m c : Nat}
    (hgd : o.guard = none) (s x : Operand) (ho : o.op = .call { callee := .builtin .append, args := #[s, x], argTypes := #[st, st] })
    (hs : a.eval s = v) (hx : a.eval x = .slice A m c) (hown : OS E t w B v xs) (hr : RS E w A m zs) (hm : xs.length + m ≤ maxLen) (hn : (xs.length + m) * bytes ≤ 140737488355328) (hB : B ≤ w.heap.size)
    (h : ∀ v' w', OS E t w' B v' (xs ++ zs) → Below B w w' → w.grownBy w' v.ownBlock → wpList Tryd.prog ops Q rest (a.put o.dst v') w') :
    wpList Tryd.prog ops Q (o :: rest) a w := by
  obtain ⟨z, hi, hzs⟩ := T.info
  obtain ⟨i0, hi0, hz0, hz1, hz2⟩ := info_parts hi
  refine wpList_append_any _ hgd s x _ ho B t i0 _ E.size bytes T.und hi0 hz0 hz1 hz2 hzs E.pos v xs.length (E.all xs) hs hown _ _ m c (E.all zs) hx hr (E.all_one _) hm hn hB ?_
  intro v' w' h1 h2 _
  refine h v' w' ?_ (below_own (Below.refl _ _) h2 hB (own_block hown)) h2
  unfold OS
  rw [List.length_append, E.all_append, hr.len]; exact h1
/-- append of elements that were laid in a new block. -/
theorem wpList_pushG (T : Ty E st t bytes) {ops : Array Oper} {rest : List Oper} {o : Oper} {a : Act} {Q : Exit → Act → World → Prop} {w : World} {T0 : TypeId} {B H : Nat} {v : Value} {xs zs : List α} {m c : Nat} {cs : Array Value}
    (hcs : cs = (E.all zs).toArray) (hmz : m = zs.length)
    (hgd : o.guard = none) (s x : Operand) (ho : o.op = .call { callee := .builtin .append, args := #[s, x], argTypes := #[st, st] })
    (hs : a.eval s = v) (hx : a.eval x = .slice (some ⟨H, 0, none⟩) m c) (hH : H = w.heap.size) (hown : OS E t w B v xs) (hm : xs.length + m ≤ maxLen) (hn : (xs.length + m) * bytes ≤ 140737488355328) (hB : B ≤ w.heap.size)
    (h : ∀ v' w', OS E t w' B v' (xs ++ zs) → Below B w w' → w.grownBy w' v.ownBlock → wpList Tryd.prog ops Q rest (a.put o.dst v') w') :
    wpList Tryd.prog ops Q (o :: rest) a (w.alloc (.cells cs T0)) := by
  subst hH
  refine wpList_catG T hgd s x ho hs hx (hown.alloc _) (RS.blk (Blk.new w T0 cs) hcs hmz) hm hn (by simp; omega) ?_
  intro v' w' h1 h2 h3
  refine h v' w' h1 (below_own ((Below.refl _ _).alloc hB _) h3 (by simp; omega) (own_block hown)) ?_
  exact ⟨h3.os, h3.tape, h3.output, Nat.le_trans (by simp) h3.size, fun k hk hne => (h3.block k (by simp; omega) hne).trans (Below.heap_alloc w _ k hk)⟩
/-- append of one element. -/
theorem wpList_push1G (T : Ty E st t bytes) {ops : Array Oper} {rest : List Oper} {o : Oper} {a : Act} {Q : Exit → Act → World → Prop} {w : World} {T0 : TypeId} {B H : Nat} {v : Value} {xs : List α} {y : α} {cs : Array Value}
    (hcs : cs = (E.cells y).toArray) (hgd : o.guard = none) (s x : Operand) (ho : o.op = .call { callee := .builtin .append, args := #[s, x], argTypes := #[st, st] })
    (hs : a.eval s = v) (hx : a.eval x = .slice (some ⟨H, 0, none⟩) 1 1) (hH : H = w.heap.size) (hown : OS E t w B v xs) (hm : xs.length ≤ 1099511627776) (hn : (xs.length + 1) * bytes ≤ 140737488355328) (hB : B ≤ w.heap.size)
    (h : ∀ v' w', OS E t w' B v' (xs ++ [y]) → Below B w w' → w.grownBy w' v.ownBlock → wpList Tryd.prog ops Q rest (a.put o.dst v') w') :
    wpList Tryd.prog ops Q (o :: rest) a (w.alloc (.cells cs T0)) :=
  wpList_pushG T (zs := [y]) (by rw [hcs, E.all_cons, E.all_nil, List.append_nil]) rfl hgd s x ho hs hx hH hown (show xs.length + 1 ≤ maxLen by unfold maxLen; omega) hn hB h
/-- append where the operation is guarded, and its guard is met. -/
theorem wpList_catH (T : Ty E st t bytes) {ops : Array Oper} {rest : List Oper} {o : Oper} {a : Act} {Q : Exit → Act → World → Prop} {w : World} {B : Nat} {v : Value} {xs zs : List α} {A : Option Addr} {m c : Nat}
    (hw : Region.wanted o (yielded ops a.tmps) = true) (s x : Operand) (ho : o.op = .call { callee := .builtin .append, args := #[s, x], argTypes := #[st, st] })
    (hs : a.eval s = v) (hx : a.eval x = .slice A m c) (hown : OS E t w B v xs) (hr : RS E w A m zs) (hm : xs.length + m ≤ maxLen) (hn : (xs.length + m) * bytes ≤ 140737488355328) (hB : B ≤ w.heap.size)
    (h : ∀ v' w', OS E t w' B v' (xs ++ zs) → Below B w w' → w.grownBy w' v.ownBlock → wpList Tryd.prog ops Q rest (a.put o.dst v') w') :
    wpList Tryd.prog ops Q (o :: rest) a w := by
  obtain ⟨z, hi, hzs⟩ := T.info
  obtain ⟨i0, hi0, hz0, hz1, hz2⟩ := info_parts hi
  refine wpList_step fun K hK => ?_
  rw [if_pos hw]
  refine wp_append_any w s x st ho B t i0 _ E.size bytes T.und hi0 hz0 hz1 hz2 hzs E.pos v xs.length (E.all xs) hs hown _ _ m c (E.all zs) hx hr (E.all_one _) hm hn hB ?_
  intro v' w' h1 h2 _
  refine hK _ _ (h v' w' ?_ (below_own (Below.refl _ _) h2 hB (own_block hown)) h2)
  unfold OS
  rw [List.length_append, E.all_append, hr.len]; exact h1
theorem wpList_push1H (T : Ty E st t bytes) {ops : Array Oper} {rest : List Oper} {o : Oper} {a : Act} {Q : Exit → Act → World → Prop} {w : World} {T0 : TypeId} {B H : Nat} {v : Value} {xs : List α} {y : α} {cs : Array Value}
    (hcs : cs = (E.cells y).toArray) (hw : Region.wanted o (yielded ops a.tmps) = true) (s x : Operand) (ho : o.op = .call { callee := .builtin .append, args := #[s, x], argTypes := #[st, st] })
    (hs : a.eval s = v) (hx : a.eval x = .slice (some ⟨H, 0, none⟩) 1 1) (hH : H = w.heap.size) (hown : OS E t w B v xs) (hm : xs.length ≤ 1099511627776) (hn : (xs.length + 1) * bytes ≤ 140737488355328) (hB : B ≤ w.heap.size)
    (h : ∀ v' w', OS E t w' B v' (xs ++ [y]) → Below B w w' → w.grownBy w' v.ownBlock → wpList Tryd.prog ops Q rest (a.put o.dst v') w') :
    wpList Tryd.prog ops Q (o :: rest) a (w.alloc (.cells cs T0)) := by
  subst hH
  refine wpList_catH T hw s x ho hs hx (hown.alloc _) (RS.blk (Blk.new w T0 cs) (by rw [hcs, E.all_cons, E.all_nil, List.append_nil]) rfl) (show xs.length + 1 ≤ maxLen by unfold maxLen; omega) hn (by simp; omega) ?_
  intro v' w' h1 h2 h3
  refine h v' w' h1 (below_own ((Below.refl _ _).alloc hB _) h3 (by simp; omega) (own_block hown)) ?_
  exact ⟨h3.os, h3.tape, h3.output, Nat.le_trans (by simp) h3.size, fun k hk hne => (h3.block k (by simp; omega) hne).trans (Below.heap_alloc w _ k hk)⟩
theorem step_catG (T : Ty E st t bytes) {ops : Array Oper} {o : Oper} {a : Act} {K : Act → World → Prop} {Q : Exit → Act → World → Prop} {F : Prop} {w : World} {B : Nat} {v : Value} {xs zs : List α} {A : Option Addr} {m c : Nat}
    (hgd : o.guard = none) (s x : Operand) (ho : o.op = .call { callee := .builtin .append, args := #[s, x], argTypes := #[st, st] })
    (hs : a.eval s = v) (hx : a.eval x = .slice A m c) (hown : OS E t w B v xs) (hr : RS E w A m zs) (hm : xs.length + m ≤ maxLen) (hn : (xs.length + m) * bytes ≤ 140737488355328) (hB : B ≤ w.heap.size)
    (h : ∀ v' w', OS E t w' B v' (xs ++ zs) → Below B w w' → w.grownBy w' v.ownBlock → K (a.put o.dst v') w') :
    if Region.wanted o (yielded ops a.tmps) = true then Oper.wp Tryd.prog o a w K Q else F := by
  obtain ⟨z, hi, hzs⟩ := T.info
  obtain ⟨i0, hi0, hz0, hz1, hz2⟩ := info_parts hi
  refine step_append_any _ hgd s x _ ho B t i0 _ E.size bytes T.und hi0 hz0 hz1 hz2 hzs E.pos v xs.length (E.all xs) hs hown _ _ m c (E.all zs) hx hr (E.all_one _) hm hn hB ?_
  intro v' w' h1 h2 _
  refine h v' w' ?_ (below_own (Below.refl _ _) h2 hB (own_block hown)) h2
  unfold OS
  rw [List.length_append, E.all_append, hr.len]; exact h1
end

/-- The call returns a new slice that reads as the elements ys, and nothing that was there has changed. -/
def RetG (E : El α) (w : World) (ys : List α) (e : Ending) (w' : World) : Prop := ∃ A n c, e = .returned (.slice A n c) ∧ n ≤ c ∧ RS E w' A n ys ∧ Below w.heap.size w w' ∧ Fr w.heap.size A
/-- The same, beside an error. -/
def RetGE (E : El α) (w : World) (ys : List α) (err : Int) (e : Ending) (w' : World) : Prop := ∃ A n c, e = .returned (.tuple #[.slice A n c, .int .i64 err]) ∧ n ≤ c ∧ RS E w' A n ys ∧ Below w.heap.size w w' ∧ Fr w.heap.size A
section
variable {E : El α} {t : TypeId} {w w' : World} {B : Nat} {v : Value} {ys : List α} {err : Int}
theorem RetG.own (h : OS E t w' B v ys) (hb : Below w.heap.size w w') (hB : w.heap.size ≤ B) : RetG E w ys (.returned v) w' := by
  obtain ⟨A, n, c, rfl, _, h1, _, h3, h4⟩ := h.form
  exact ⟨A, n, c, rfl, h1, h3, hb, h4.mono hB⟩
theorem RetGE.own (h : OS E t w' B v ys) (hb : Below w.heap.size w w') (hB : w.heap.size ≤ B) : RetGE E w ys err (.returned (.tuple #[v, .int .i64 err])) w' := by
  obtain ⟨A, n, c, rfl, _, h1, _, h3, h4⟩ := h.form
  exact ⟨A, n, c, rfl, h1, h3, hb, h4.mono hB⟩
theorem RetGE.nil_ (hb : Below w.heap.size w w') : RetGE E w [] err (.returned (.tuple #[.slice none 0 0, .int .i64 err])) w' := ⟨none, 0, 0, rfl, Nat.le_refl _, RS.none_, hb, Fr.none_⟩
end
/-- Bytes. -/
def BE : El Nat := ⟨1, fun x => [.int .u8 x], fun _ => rfl, fun _ u hu => by simp at hu; subst hu; rfl, by omega⟩
/-- Numbers. -/
def IE : El Int := ⟨1, fun x => [.int .i64 x], fun _ => rfl, fun _ u hu => by simp at hu; subst hu; rfl, by omega⟩
abbrev RB (w : World) (A : Option Addr) (n : Nat) (xs : List Nat) : Prop := RS BE w A n xs
theorem RS.byte {w : World} {A : Option Addr} {n : Nat} {xs : List Nat} {k : Nat} (h : RS BE w A n xs) (hk : k < n) : ∃ ad x, A = some ad ∧ ad.block < w.heap.size ∧ Hid (xs[k]? = some x) ∧ w.cell? (ad.add k) = some (.int .u8 (x : Int)) := by
  obtain ⟨ad, x, h1, h2, h3, h4⟩ := h.get hk
  refine ⟨ad, x, h1, h2, h3, ?_⟩
  have := h4 0 (.int .u8 (x : Int)) rfl
  rw [add_of_add] at this
  simpa [BE] using this
end Go.Proofs.YticekkjambkifaaDoor

/- A region that draws its order, walked with a condition for each operation: what must hold behind it. So a load may be taken first although a later store changes what it reads. -/
set_option linter.unusedVariables false
namespace Go.Proofs.YticekkjambkifaaDoor
open Go

section
variable {P : Program} {md : Region.Mode} {ops : Array Oper} {Q : Exit → Act → World → Prop} {S : World → Prop} {T : Nat → World → Prop}
/-- Whatever order is picked from here on; behind operation i stands T i. -/
def wpAnyT (P : Program) (md : Region.Mode) (ops : Array Oper) (Q : Exit → Act → World → Prop) (T : Nat → World → Prop) : Nat → Array Bool → Act → World → Prop
  | 0, listed, a, w => Region.ready md ops listed = [] ∧ Q .normal a w
  | fuel + 1, listed, a, w => (Region.ready md ops listed = [] → Q .normal a w) ∧
    ∀ i ∈ Region.ready md ops listed, wpOp P ops Q i (fun a' w' => T i w' ∧ wpAnyT P md ops Q T fuel (listed.setIfInBounds i true) a' w') a w
theorem wpAny_of_T : ∀ (fuel : Nat) (listed : Array Bool) (a : Act) (w : World), wpAnyT P md ops Q T fuel listed a w → wpAny P md ops Q fuel listed a w
  | 0, _, _, _, h => h
  | fuel + 1, _, _, _, h => ⟨h.1, fun i hi => wpOp_mono (fun a' w' h' => wpAny_of_T fuel _ a' w' h'.2) (h.2 i hi)⟩
theorem wpAnyT_first {i : Nat} {oi : Oper} {v : Value} (hi : ops[i]? = some oi) (hsel : ∀ (j : Nat) (o : Oper) cs b, ops[j]? = some o → o.op ≠ .select cs b)
    (hQ : ∀ c a w, Q (.panic c) (a.put oi.dst v) w → Q (.panic c) a w) (hTi : ∀ w, S w → T i w) :
    ∀ (fuel : Nat) (listed : Array Bool) (a : Act) (w : World),
      (∀ j oj, ops[j]? = some oj → j ≠ i → listed.getD j true = false → (∀ e ∈ oj.after, Region.binds md e = true → e.on ≠ i) → oi.apart ops oj = true ∧ ∀ w, T j w → S w) →
      i ∈ Region.ready md ops listed → YieldsIf P ops S oi v a → S w →
      wpAnyT P md ops Q T fuel (listed.setIfInBounds i true) (a.put oi.dst v) w → wpAnyT P md ops Q T (fuel + 1) listed a w := by
  intro fuel
  induction fuel with
  | zero =>
    intro listed a w _ hr hy hS H
    refine ⟨fun h => (by rw [h] at hr; cases hr), fun j hj => ?_⟩
    by_cases hji : j = i
    · subst hji; exact hy.wpOp hi hS ⟨hTi w hS, H⟩
    · have := ready_mono hj hji
      rw [H.1] at this
      cases this
  | succ fuel ih =>
    intro listed a w hfree hr hy hS H
    refine ⟨fun h => (by rw [h] at hr; cases hr), fun j hj => ?_⟩
    by_cases hji : j = i
    · subst hji; exact hy.wpOp hi hS ⟨hTi w hS, H⟩
    · have h1 := H.2 j (ready_mono hj hji)
      obtain ⟨hjun, oj, hoj, hall⟩ := mem_ready.1 hj
      have hnot : ∀ e ∈ oj.after, Region.binds md e = true → e.on ≠ i := fun e he hb heq => by
        have h2 := hall e he hb
        have h0 := (mem_ready.1 hr).1
        rw [heq] at h2
        rcases Nat.lt_or_ge i listed.size with h' | h'
        · simp [h'] at h0 h2; rw [h0] at h2; cases h2
        · simp [Array.getElem?_eq_none h'] at h2
      have hf := hfree j oj hoj hji hjun hnot
      have h2 := wpOp_putIf hoj hf.1 (fun cs b => hsel i oi cs b hi) (fun cs b => hsel j oj cs b hoj) hQ hy h1
      have hfree' : ∀ k ok, ops[k]? = some ok → k ≠ i → (listed.setIfInBounds j true).getD k true = false →
          (∀ e ∈ ok.after, Region.binds md e = true → e.on ≠ i) → oi.apart ops ok = true ∧ ∀ w, T k w → S w := fun k ok hk hki hun hno => by
        refine hfree k ok hk hki ?_ hno
        by_cases hjk : j = k
        · subst hjk; exact hjun
        · rw [getD_set_ne true hjk] at hun; exact hun
      refine wpOp_mono (fun a' w' h3 => ⟨h3.2.1, ih (listed.setIfInBounds j true) a' w' hfree' (ready_mono hr (Ne.symm hji)) h3.1 (hf.2 w' h3.2.1) ?_⟩) h2
      rw [Array.setIfInBounds_comm _ _ hji]
      exact h3.2.2
/-- Take number i first: rest names the operations that may come before it and are not yet listed. -/
theorem wpAnyT_take {i : Nat} {oi : Oper} {v : Value} {fuel : Nat} {listed : Array Bool} {a : Act} {w : World} (hi : ops[i]? = some oi)
    (hs : Region.noSelect ops = true) (hf : Region.free md ops listed i = true) (hr : (Region.ready md ops listed).contains i = true)
    (hQ : ∀ c a w, Q (.panic c) (a.put oi.dst v) w → Q (.panic c) a w) (hTi : ∀ w, S w → T i w)
    (hT : ∀ j oj, ops[j]? = some oj → j ≠ i → listed.getD j true = false → (∀ e ∈ oj.after, Region.binds md e = true → e.on ≠ i) → ∀ w, T j w → S w) (hy : YieldsIf P ops S oi v a) (hS : S w)
    (h : wpAnyT P md ops Q T fuel (listed.setIfInBounds i true) (a.put oi.dst v) w) : wpAnyT P md ops Q T (fuel + 1) listed a w :=
  wpAnyT_first hi (Region.noSelect_spec hs) hQ hTi fuel listed a w (fun j oj h1 h2 h3 h4 => ⟨Region.free_spec hi hf j oj h1 h2 h3 h4, hT j oj h1 h2 h3 h4⟩) (by simpa using hr) hy hS h
theorem wpAnyT_ready {rs : List Nat} {fuel : Nat} {listed : Array Bool} {a : Act} {w : World} (hr : Region.ready md ops listed = rs) (hne : rs ≠ [])
    (h : ∀ i ∈ rs, wpOp P ops Q i (fun a' w' => T i w' ∧ wpAnyT P md ops Q T fuel (listed.setIfInBounds i true) a' w') a w) : wpAnyT P md ops Q T (fuel + 1) listed a w :=
  ⟨fun h0 => absurd (hr ▸ h0) hne, hr ▸ h⟩
theorem wpAnyT_done {listed : Array Bool} {a : Act} {w : World} (hr : Region.ready md ops listed = []) (h : Q .normal a w) : ∀ fuel, wpAnyT P md ops Q T fuel listed a w
  | 0 => ⟨hr, h⟩
  | _ + 1 => ⟨fun _ => h, by rw [hr]; simp⟩
/-- One step. -/
theorem wpOpT_step {fuel : Nat} {listed : Array Bool} {a : Act} {w : World} {i : Nat} {o : Oper} (ho : ops[i]? = some o)
    (h : ∀ K' : Act → World → Prop, Shut (∀ a w, T i w → wpAnyT P md ops Q T fuel (listed.setIfInBounds i true) a w → K' a w) → if Region.wanted o (yielded ops a.tmps) = true then Oper.wp P o a w K' Q else K' (a.put o.dst undef) w) :
    wpOp P ops Q i (fun a' w' => T i w' ∧ wpAnyT P md ops Q T fuel (listed.setIfInBounds i true) a' w') a w :=
  wpOp_step ho (fun K' hK => h K' (fun a w hS hW => hK a w ⟨hS, hW⟩))
theorem wp_region_T {id : Nat} {a : Act} {w : World} (hm : P.follows .mixedOrders = true) (h : wpAnyT P .any ops Q T ops.size (Array.replicate ops.size false) a w.drew) : (Code.region id ops true).wp P Q a w :=
  wp_region_any hm (wpAny_of_T _ _ _ _ h)
end
end Go.Proofs.YticekkjambkifaaDoor
