/- The reference's cores (cohesionref10), first part: the k-core. -/
import Derived.Test.YtdibfecejgjfmaaGreatDoorSetM
import Derived.Test.YtdibfecejgjfmaaGreatDoorGraB
import Derived.Test.YtdibfecejgjfmaaGreatDoorArr
set_option linter.unusedVariables false
namespace Go.Proofs.YtdibfecejgjfmaaGreatDoor
open Go.RowKit

set_option maxHeartbeats 400000 in
theorem range_any (n : Nat) (hn : n ≤ 64) (w : World) :
    Calls Tryz.prog 41 #[.int .i64 n] w (RetI w (rng n)) := by
  go_enter Tryz.func41, Tryz.ntmps41
  go_wp2
  go_loopw [3, 4] (fun v i wr => ∃ k : Nat, k ≤ n ∧ i = .int .i64 k ∧ OI wr w.heap.size v (rng k) ∧ Below w.heap.size w wr) (fun _ i _ => n - (intOf i).toNat)
  case atStart => exact ⟨0, Nat.zero_le _, rfl, OI.nil_, Below.refl _ _⟩
  case round =>
    obtain ⟨k, hk, rfl, ho, hb⟩ := hrel
    have hs := hb.size
    have hl := rng_length k
    by_cases hlt : k < n
    · have hsu := Lib.hid (rng_succ k)
      generalize rng k = ys at *
      replace hl : ys.length ≤ 64 := by omega
      go_wp2_with (at_builtin; refine wpList_push rfl _ _ rfl rfl rfl (by simp) ho (by omega) hs ?_; intro v' w' ho' hb' hg')
      have hb2 := hb.trans hb'
      go_roundw
      case rel => exact ⟨k + 1, by omega, by go_num, by rw [hsu.out]; exact ho', hb2⟩
      case measure => simp [intOf]; omega
    · have hfin : RetI w (rng n) (.returned u3) wr := by
        rw [show n = k by omega]
        exact ho.ret hb (Nat.le_refl _)
      replace hfin := Lib.hid hfin
      clear ho hb hl
      go_wp2
      go_ret
      exact hfin.out

theorem nbG_sorted (n : Int) (es : List (Int × Int)) (x : Int) : (nbG n es x).Pairwise (· < ·) := by
  unfold nbG
  split
  · exact of_sorted _
  · exact List.Pairwise.nil
theorem meet_dg (n : Int) (es : List (Int × Int)) (l : List Int) (v : Int) : (meetL (nbG n es v) l).length = dg (nbG n es) l v := by
  rw [meet_sorted (nbG_sorted n es v)]; rfl
theorem nbG_length (n : Int) (es : List (Int × Int)) (x : Int) : (nbG n es x).length ≤ 2 * es.length := by
  unfold nbG
  split
  · exact Nat.le_trans (of_length _) (nbl_length es x)
  · simp
theorem vld_length {l : List Int} {n : Nat} (h : Vld l n) : l.length ≤ n := by
  have h2 : l = (rng n).filter (fun x => decide (x ∈ l)) := sorted_ext h.2 ((rng_sorted n).filter _) fun x => by
    rw [List.mem_filter, mem_rng]
    simp
    exact fun hx => h.1 x hx
  rw [h2]
  exact Nat.le_trans (List.length_filter_le _ _) (by rw [rng_length]; exact Nat.le_refl _)
/-- What a pass over the list l0 keeps. -/
structure Pass (nb : Int → List Int) (n k : Int) (l0 l : List Int) (i : Nat) (again : Bool) : Prop where
  good : Good nb n k l
  rest : ∀ x ∈ l0.drop i, x ∈ l
  len : l.length ≤ l0.length
  yes : again = true → l.length < l0.length
  no : again = false → l = l0 ∧ ∀ x ∈ l0.take i, k ≤ (dg nb l0 x : Int)
theorem Pass.start {nb : Int → List Int} {n k : Int} {l : List Int} (h : Good nb n k l) : Pass nb n k l l 0 false :=
  ⟨h, fun x hx => (by simpa using hx), Nat.le_refl _, (fun h => by cases h), fun _ => ⟨rfl, fun x hx => by simp at hx⟩⟩
theorem Pass.keep {nb : Int → List Int} {n k v : Int} {l0 l : List Int} {i : Nat} {again : Bool} (h : Pass nb n k l0 l i again) (hv : l0[i]? = some v) (hd : k ≤ (dg nb l v : Int)) : Pass nb n k l0 l (i + 1) again :=
  ⟨h.good, fun x hx => h.rest x (by rw [drop_at hv]; exact List.mem_cons_of_mem _ hx), h.len, h.yes, fun ha => by
    obtain ⟨h1, h2⟩ := h.no ha
    subst h1
    refine ⟨rfl, fun x hx => ?_⟩
    rw [take_at hv] at hx
    rcases List.mem_append.1 hx with hx | hx
    · exact h2 x hx
    · rw [List.mem_singleton.1 hx]; exact hd⟩
theorem Pass.drop {nb : Int → List Int} {n k v : Int} {l0 l : List Int} {i : Nat} {again : Bool} (h : Pass nb n k l0 l i again) (h0 : l0.Pairwise (· < ·)) (hv : l0[i]? = some v) (hd : (dg nb l v : Int) < k) : Pass nb n k l0 (minusL l [v]) (i + 1) true := by
  have hin : v ∈ l := h.rest v (by rw [drop_at hv]; simp)
  have hshort : (minusL l [v]).length < l.length := by
    rw [minus_sorted h.good.1.2]
    refine Nat.lt_of_le_of_ne (List.length_filter_le _ _) fun e => ?_
    have := List.length_filter_eq_length_iff.1 e v hin
    simp at this
  refine ⟨good_minus h.good hd, fun x hx => ?_, by have := h.len; omega, (fun _ => by have := h.len; omega), (fun h => by cases h)⟩
  rw [minus_sorted h.good.1.2, List.mem_filter]
  refine ⟨h.rest x (by rw [drop_at hv]; exact List.mem_cons_of_mem _ hx), ?_⟩
  simp
  rintro rfl
  have h1 : (l0.drop i).Pairwise (· < ·) := h0.drop
  rw [drop_at hv] at h1
  have := (List.pairwise_cons.1 h1).1 x hx
  omega
theorem Pass.done {nb : Int → List Int} {n k : Int} {l0 l : List Int} {i : Nat} (h : Pass nb n k l0 l i false) (hi : l0.length ≤ i) : ∀ v, v ∈ l ↔ inC nb n k v := by
  obtain ⟨h1, h2⟩ := h.no rfl
  subst h1
  rw [List.take_of_length_le hi] at h2
  exact core_done h.good h2

end Go.Proofs.YtdibfecejgjfmaaGreatDoor

namespace Go.Proofs.YtdibfecejgjfmaaGreatDoor
open Go.RowKit

/-- The call returns a new list and an error. -/
def RetL (w : World) (ys : List Int) (err : Int) (e : Ending) (w' : World) : Prop := ∃ A n c, e = .returned (.tuple #[.slice A n c, .int .i64 err]) ∧ n ≤ c ∧ RI w' A n ys ∧ Below w.heap.size w w' ∧ Fr w.heap.size A
theorem retTup {a b c d : Value} (h : a = c) (h' : b = d) : Ending.returned (.tuple #[a, b]) = .returned (.tuple #[c, d]) := by rw [h, h']

/-- What Core returns. -/
def CoreL (n : Int) (es : List (Int × Int)) (k : Int) (l : List Int) : Prop := (chkG n es = 0 → Vld l n ∧ ∀ v, v ∈ l ↔ inC (nbG n es) n k v) ∧ (chkG n es ≠ 0 → l = [])
/-- The core numbers. -/
def IsNums (nb : Int → List Int) (n : Nat) (ns : List Int) : Prop := ns.length = n ∧ ∀ v, v < n → 0 ≤ ns.getD v 0 ∧ inC nb n (ns.getD v 0) v ∧ ¬ inC nb n (ns.getD v 0 + 1) v
/-- The greatest of the first cores in which each node lies. -/
def NumTo (nb : Int → List Int) (n : Nat) (k : Int) (ns : List Int) : Prop := ns.length = n ∧ ∀ v, v < n → 0 ≤ ns.getD v 0 ∧ ns.getD v 0 < k ∧ inC nb n (ns.getD v 0) v ∧ ∀ j, ns.getD v 0 < j → j < k → ¬ inC nb n j v
def setA (ns : List Int) (l : List Int) (k : Int) : List Int := l.foldl (fun a x => a.set x.toNat k) ns
theorem setA_length (ns l : List Int) (k : Int) : (setA ns l k).length = ns.length := by
  unfold setA
  induction l generalizing ns with
  | nil => rfl
  | cons x l ih => rw [List.foldl_cons, ih, List.length_set]
theorem setA_take {ns l : List Int} {k x : Int} {i : Nat} (h : l[i]? = some x) : setA ns (l.take (i + 1)) k = (setA ns (l.take i) k).set x.toNat k := by
  unfold setA
  rw [take_at h, List.foldl_append]; rfl
theorem setA_get {ns l : List Int} {k : Int} (hl : ∀ x ∈ l, 0 ≤ x ∧ x < ns.length) (v : Nat) : (setA ns l k).getD v 0 = if (v : Int) ∈ l then k else ns.getD v 0 := by
  unfold setA
  induction l generalizing ns with
  | nil => simp
  | cons x l ih =>
    have hx := hl x (by simp)
    rw [List.foldl_cons, ih (fun y hy => by rw [List.length_set]; exact hl y (by simp [hy]))]
    by_cases hv : (v : Int) ∈ l
    · rw [if_pos hv, if_pos (by simp [hv])]
    · rw [if_neg hv]
      by_cases he : (v : Int) = x
      · subst he
        rw [if_pos (by simp)]
        rw [List.getD_eq_getElem?_getD, List.getElem?_set]
        simp
        rw [if_pos (by omega)]; rfl
      · rw [if_neg (by simp [hv]; exact he)]
        rw [List.getD_eq_getElem?_getD, List.getD_eq_getElem?_getD, List.getElem?_set_ne (by omega)]
theorem numTo_start (nb : Int → List Int) (n : Nat) : NumTo nb n 1 (List.replicate n 0) := by
  refine ⟨by simp, fun v hv => ?_⟩
  have e : (List.replicate n (0 : Int)).getD v 0 = 0 := by rw [List.getD_eq_getElem?_getD, List.getElem?_replicate, if_pos hv]; rfl
  rw [e]
  refine ⟨Int.le_refl _, by omega, ⟨[(v : Int)], by simp, fun u hu => ?_⟩, fun j h1 h2 => by omega⟩
  rw [List.mem_singleton.1 hu]
  exact ⟨by omega, by omega, Int.natCast_nonneg _⟩
theorem numTo_step {nb : Int → List Int} {n : Nat} {k : Int} {ns l : List Int} (h : NumTo nb n k ns) (hk : 1 ≤ k) (hl : ∀ v, v ∈ l ↔ inC nb n k v) : NumTo nb n (k + 1) (setA ns l k) := by
  refine ⟨by rw [setA_length]; exact h.1, fun v hv => ?_⟩
  rw [setA_get fun x hx => by rw [h.1]; exact inC_range ((hl x).1 hx)]
  obtain ⟨h0, h1, h2, h3⟩ := h.2 v hv
  by_cases hin : (v : Int) ∈ l
  · rw [if_pos hin]
    exact ⟨by omega, by omega, (hl _).1 hin, fun j _ _ => by omega⟩
  · rw [if_neg hin]
    refine ⟨h0, by omega, h2, fun j hj1 hj2 hc => ?_⟩
    by_cases hjk : j < k
    · exact h3 j hj1 hjk hc
    · exact hin ((hl _).2 (inC_mono hc (by omega)))
theorem nb_length {n : Nat} {es : List (Int × Int)} (hc : chkG n es = 0) {v : Nat} (hv : v < n) : (nbG n es v).length + 1 ≤ n := by
  have hlt := chkE_lt (chkG_zero hc).2.2
  have hmem : ∀ x, x ∈ nbG n es v ↔ x ∈ nbl es v := fun x => by unfold nbG; rw [if_pos hc, mem_of]
  have hr : ∀ x ∈ nbG n es v, (0 ≤ x ∧ x < n) ∧ x ≠ v := by
    intro x hx
    have := (hmem x).1 hx
    unfold nbl at this
    rw [List.mem_flatMap] at this
    obtain ⟨e, he, hx⟩ := this
    have h1 := hlt e he
    rw [List.mem_append] at hx
    rcases hx with hx | hx
    · split at hx
      · rw [List.mem_singleton.1 hx]; omega
      · cases hx
    · split at hx
      · rw [List.mem_singleton.1 hx]; omega
      · cases hx
  have hs := nbG_sorted n es v
  have hsub : nbG n es v = (rst n [(v : Int)]).filter (fun x => decide (x ∈ nbG n es v)) := sorted_ext hs ((rst_sorted n _).filter _) fun x => by
    rw [List.mem_filter, mem_rst]
    simp
    exact fun hx => ⟨(hr x hx).1, (hr x hx).2⟩
  have h1 : (nbG n es v).length ≤ (rst n [(v : Int)]).length := by
    rw [hsub]; exact List.length_filter_le _ _
  have h2 : (rst n [(v : Int)]).length < (rng n).length := by
    unfold rst
    refine Nat.lt_of_le_of_ne (List.length_filter_le _ _) fun e => ?_
    have := List.length_filter_eq_length_iff.1 e (v : Int) (mem_rng.2 ⟨by omega, by omega⟩)
    simp at this
  rw [rng_length] at h2
  omega
theorem dg_le (nb : Int → List Int) (l : List Int) (v : Int) : dg nb l v ≤ (nb v).length := List.length_filter_le _ _
theorem numTo_done {n : Nat} {es : List (Int × Int)} (hc : chkG n es = 0) {ns : List Int} {k : Int} (h : NumTo (nbG n es) n k ns) (hk : n ≤ k) : IsNums (nbG n es) n ns := by
  refine ⟨h.1, fun v hv => ?_⟩
  obtain ⟨h0, h1, h2, h3⟩ := h.2 v hv
  refine ⟨h0, h2, fun hin => ?_⟩
  by_cases hj : ns.getD v 0 + 1 < k
  · exact h3 _ (by omega) hj hin
  · obtain ⟨S, hvS, hS⟩ := hin
    have := (hS v hvS).2.2
    have h4 := dg_le (nbG n es) S v
    have h5 := nb_length hc hv
    omega
theorem nums_unique {nb : Int → List Int} {n : Nat} {a b : List Int} (ha : IsNums nb n a) (hb : IsNums nb n b) : a = b := by
  refine List.ext_getElem? fun v => ?_
  by_cases hv : v < n
  · have h1 : a[v]? = some (a.getD v 0) := by rw [List.getD_eq_getElem?_getD, List.getElem?_eq_getElem (by rw [ha.1]; exact hv)]; rfl
    have h2 : b[v]? = some (b.getD v 0) := by rw [List.getD_eq_getElem?_getD, List.getElem?_eq_getElem (by rw [hb.1]; exact hv)]; rfl
    rw [h1, h2]
    obtain ⟨_, a1, a2⟩ := ha.2 v hv
    obtain ⟨_, b1, b2⟩ := hb.2 v hv
    generalize a.getD v 0 = x at *
    generalize b.getD v 0 = y at *
    rcases Int.lt_trichotomy x y with h | h | h
    · exact absurd (inC_mono b1 (by omega)) a2
    · rw [h]
    · exact absurd (inC_mono a1 (by omega)) b2
  · rw [List.getElem?_eq_none (by rw [ha.1]; omega), List.getElem?_eq_none (by rw [hb.1]; omega)]

/-- What Numbers returns. -/
def NumsL (n : Int) (es : List (Int × Int)) (l : List Int) : Prop := (chkG n es = 0 → IsNums (nbG n es) n.toNat l) ∧ (chkG n es ≠ 0 → l = [])
theorem numsL_unique {n : Int} {es : List (Int × Int)} {a b : List Int} (ha : NumsL n es a) (hb : NumsL n es b) : a = b := by
  by_cases hz : chkG n es = 0
  · exact nums_unique (ha.1 hz) (hb.1 hz)
  · rw [ha.2 hz, hb.2 hz]
end Go.Proofs.YtdibfecejgjfmaaGreatDoor
