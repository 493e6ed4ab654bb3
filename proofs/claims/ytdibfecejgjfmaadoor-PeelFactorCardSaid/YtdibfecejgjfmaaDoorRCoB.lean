/- The reference's cores (cohesionref10), first part: the k-core. -/
import Derived.Test.YtdibfecejgjfmaaDoorSetM
import Derived.Test.YtdibfecejgjfmaaDoorGraB
import Derived.Test.YtdibfecejgjfmaaDoorArr
set_option linter.unusedVariables false
namespace Go.Proofs.YtdibfecejgjfmaaDoor
open Go.RowKit

set_option maxHeartbeats 400000 in
theorem range_any (n : Nat) (hn : n ≤ 64) (w : World) :
    Calls Tryd.prog 30 #[.int .i64 n] w (RetI w (rng n)) := by
  go_enter Tryd.func30, Tryd.ntmps30
  go_wp2
  go_loopw [3, 4] (fun v i wr => ∃ k : Nat, k ≤ n ∧ i = .int .i64 k ∧ OI wr w.heap.size v (rng k) ∧ Below w.heap.size w wr) (fun _ i _ => n - (intOf i).toNat)
  case atStart => exact ⟨0, Nat.zero_le _, rfl, OI.nil_, Below.refl _ _⟩
  case round =>
    obtain ⟨k, hk, rfl, ho, hb⟩ := hrel
    have hs := hb.size
    have hl := rng_length k
    by_cases hlt : k < n
    · have hsu := Lib.hid (rng_succ k)
      generalize rng k = ys at *
      replace hl : ys.length ≤ 64 := by omega
      go_wp2_with (at_builtin; refine wpList_push rfl _ _ rfl rfl rfl (by simp) ho (by omega) hs ?_; intro v' w' ho' hb' hg')
      have hb2 := hb.trans hb'
      go_roundw
      case rel => exact ⟨k + 1, by omega, by go_num, by rw [hsu.out]; exact ho', hb2⟩
      case measure => simp [intOf]; omega
    · have hfin : RetI w (rng n) (.returned u3) wr := by
        rw [show n = k by omega]
        exact ho.ret hb (Nat.le_refl _)
      replace hfin := Lib.hid hfin
      clear ho hb hl
      go_wp2
      go_ret
      exact hfin.out

theorem nbG_sorted (n : Int) (es : List (Int × Int)) (x : Int) : (nbG n es x).Pairwise (· < ·) := by
  unfold nbG
  split
  · exact of_sorted _
  · exact List.Pairwise.nil
theorem meet_dg (n : Int) (es : List (Int × Int)) (l : List Int) (v : Int) : (meetL (nbG n es v) l).length = dg (nbG n es) l v := by
  rw [meet_sorted (nbG_sorted n es v)]; rfl
theorem nbG_length (n : Int) (es : List (Int × Int)) (x : Int) : (nbG n es x).length ≤ 2 * es.length := by
  unfold nbG
  split
  · exact Nat.le_trans (of_length _) (nbl_length es x)
  · simp
theorem vld_length {l : List Int} {n : Nat} (h : Vld l n) : l.length ≤ n := by
  have h2 : l = (rng n).filter (fun x => decide (x ∈ l)) := sorted_ext h.2 ((rng_sorted n).filter _) fun x => by
    rw [List.mem_filter, mem_rng]
    simp
    exact fun hx => h.1 x hx
  rw [h2]
  exact Nat.le_trans (List.length_filter_le _ _) (by rw [rng_length]; exact Nat.le_refl _)
/-- What a pass over the list l0 keeps. -/
structure Pass (nb : Int → List Int) (n k : Int) (l0 l : List Int) (i : Nat) (again : Bool) : Prop where
  good : Good nb n k l
  rest : ∀ x ∈ l0.drop i, x ∈ l
  len : l.length ≤ l0.length
  yes : again = true → l.length < l0.length
  no : again = false → l = l0 ∧ ∀ x ∈ l0.take i, k ≤ (dg nb l0 x : Int)
theorem Pass.start {nb : Int → List Int} {n k : Int} {l : List Int} (h : Good nb n k l) : Pass nb n k l l 0 false :=
  ⟨h, fun x hx => (by simpa using hx), Nat.le_refl _, (fun h => by cases h), fun _ => ⟨rfl, fun x hx => by simp at hx⟩⟩
theorem Pass.keep {nb : Int → List Int} {n k v : Int} {l0 l : List Int} {i : Nat} {again : Bool} (h : Pass nb n k l0 l i again) (hv : l0[i]? = some v) (hd : k ≤ (dg nb l v : Int)) : Pass nb n k l0 l (i + 1) again :=
  ⟨h.good, fun x hx => h.rest x (by rw [drop_at hv]; exact List.mem_cons_of_mem _ hx), h.len, h.yes, fun ha => by
    obtain ⟨h1, h2⟩ := h.no ha
    subst h1
    refine ⟨rfl, fun x hx => ?_⟩
    rw [take_at hv] at hx
    rcases List.mem_append.1 hx with hx | hx
    · exact h2 x hx
    · rw [List.mem_singleton.1 hx]; exact hd⟩
theorem Pass.drop {nb : Int → List Int} {n k v : Int} {l0 l : List Int} {i : Nat} {again : Bool} (h : Pass nb n k l0 l i again) (h0 : l0.Pairwise (· < ·)) (hv : l0[i]? = some v) (hd : (dg nb l v : Int) < k) : Pass nb n k l0 (minusL l [v]) (i + 1) true := by
  have hin : v ∈ l := h.rest v (by rw [drop_at hv]; simp)
  have hshort : (minusL l [v]).length < l.length := by
    rw [minus_sorted h.good.1.2]
    refine Nat.lt_of_le_of_ne (List.length_filter_le _ _) fun e => ?_
    have := List.length_filter_eq_length_iff.1 e v hin
    simp at this
  refine ⟨good_minus h.good hd, fun x hx => ?_, by have := h.len; omega, (fun _ => by have := h.len; omega), (fun h => by cases h)⟩
  rw [minus_sorted h.good.1.2, List.mem_filter]
  refine ⟨h.rest x (by rw [drop_at hv]; exact List.mem_cons_of_mem _ hx), ?_⟩
  simp
  rintro rfl
  have h1 : (l0.drop i).Pairwise (· < ·) := h0.drop
  rw [drop_at hv] at h1
  have := (List.pairwise_cons.1 h1).1 x hx
  omega
theorem Pass.done {nb : Int → List Int} {n k : Int} {l0 l : List Int} {i : Nat} (h : Pass nb n k l0 l i false) (hi : l0.length ≤ i) : ∀ v, v ∈ l ↔ inC nb n k v := by
  obtain ⟨h1, h2⟩ := h.no rfl
  subst h1
  rw [List.take_of_length_le hi] at h2
  exact core_done h.good h2

set_option maxRecDepth 100000 in
set_option maxHeartbeats 4000000 in
theorem rcore_any (A : Option Addr) (m c : Nat) (n : Nat) (es : List (Int × Int)) (k : Int) (w : World) (h : RE w A m es) (hm : m ≤ 68719476736) (hn : n ≤ 64) :
    Calls Tryd.prog 82 #[.agg #[.int .i64 n, .slice A m c], .int .i64 k] w fun e w' => ∃ l, RetI w l e w' ∧ Vld l n ∧ ∀ v, v ∈ l ↔ inC (nbG n es) n k v := by
  have hml := Lib.hid h.len
  go_enter Tryd.func82, Tryd.ntmps82
  go_wp2_with fail
  refine (range_any n hn _).mono ?_
  rintro e w1 ⟨A1, n1, c1, rfl, hn1, hr1, hb1, hf1⟩
  have hG1 : Blk w1 w.heap.size 27 #[.int .i64 n, .slice A m c] := Blk.below (Blk.new _ _ _) hb1 (by simp)
  have hbw1 : Below w.heap.size w w1 := ((Below.refl _ _).alloc (Nat.le_refl _) _).trans (hb1.mono (by simp))
  have hgood := good_all (nbG n es) n k
  have hl1 : n1 = n := by rw [← hr1.len, rng_length]
  have hl1' : n1 ≤ 64 := by omega
  replace hf1 : Fr w.heap.size A1 := hf1.mono (by simp)
  clear hl1 hb1
  go_wp2_with fail
  generalize rng n = l1 at *
  go_loopw [5, 6] (fun v b wr => ∃ (A' : Option Addr) (n' c' : Nat) (l : List Int) (again : Bool), v = .slice A' n' c' ∧ b = .bool again ∧ n' ≤ c' ∧ n' ≤ 64 ∧ RI wr A' n' l ∧ Hid (Good (nbG n es) n k l) ∧ Hid (again = false → ∀ v, v ∈ l ↔ inC (nbG n es) n k v) ∧ Blk wr w.heap.size 27 #[.int .i64 n, .slice A m c] ∧ Below w.heap.size w wr ∧ Fr w.heap.size A')
    (fun v b _ => match v, b with | .slice _ n' _, .bool true => n' + 1 | _, _ => 0)
  case atStart => exact ⟨A1, n1, c1, l1, true, rfl, rfl, hn1, hl1', hr1, Lib.hid hgood, Lib.hid (fun h => by cases h), hG1, hbw1, hf1⟩
  case round =>
    obtain ⟨A', n', c', l, again, rfl, rfl, hnc, hn64, hr, hgd, hdone, hG, hb, hf⟩ := hrel
    clear hgood hr1 hG1 hbw1
    clear hf1
    cases again
    · have hfin : ∃ l, RetI w l (.returned (.slice A' n' c')) wr ∧ Vld l n ∧ ∀ v, v ∈ l ↔ inC (nbG n es) n k v := ⟨l, RetI.mk_ hnc hr hb hf, hgd.out.1, hdone.out rfl⟩
      replace hfin := Lib.hid hfin
      go_wp2
      go_ret
      exact hfin.out
    · clear hdone
      have hsz := hb.size
      have hGl := hG.lt
      have hlen0 := Lib.hid hr.len
      have hp0 := Lib.hid (Pass.start hgd.out)
      have hsort := Lib.hid hgd.out.1.2
      go_wp2_with fail
      obtain ⟨wo, rfl⟩ : ∃ wo : World, wo = wr := ⟨_, rfl⟩
      go_loopw [5, 6, 15] (fun v b i wr => ∃ (j : Nat) (A2 : Option Addr) (n2 c2 : Nat) (l2 : List Int) (again : Bool), j ≤ n' ∧ i = .int .i64 j ∧ v = .slice A2 n2 c2 ∧ b = .bool again ∧ n2 ≤ c2 ∧ n2 ≤ 64 ∧ RI wr A2 n2 l2 ∧ Hid (Pass (nbG n es) n k l l2 j again) ∧ Blk wr w.heap.size 27 #[.int .i64 n, .slice A m c] ∧ Below wo.heap.size wo wr ∧ Fr w.heap.size A2)
        (fun _ _ i _ => n' - (intOf i).toNat)
      case atStart => exact ⟨0, A', n', c', l, false, Nat.zero_le _, rfl, rfl, rfl, hnc, hn64, hr, hp0, hG, Below.refl _ _, hf⟩
      case round =>
        obtain ⟨j, A2, n2, c2, l2, again, hj, rfl, rfl, rfl, hnc2, hn2, hr2, hp, hG2, hb2, hf2⟩ := hrel
        clear hp0 hG
        have hs2 := hb2.size
        by_cases hlt : j < n'
        · obtain ⟨ad, v, rfl, hv, hcv⟩ := (RI.below hr hb2 (Nat.le_refl _)).get hlt
          have g0 := Blk.cell hG2 0
          have g1 := Blk.cell hG2 1
          simp at g0 g1
          have hRE := RE.below h (hb.trans (hb2.mono hsz)) (Nat.le_refl _)
          have hnl := nbG_length n es v
          have hmd := meet_dg n es l2 v
          replace hnl : (nbG n es v).length ≤ 2 * m := by have := hml.out; omega
          go_wp2_with fail
          refine (neigh_any _ m c n es v _ hRE (by omega)).mono ?_
          rintro e w3 ⟨A3, n3, c3, rfl, hn3, hr3, hb3, hf3⟩
          have hln : n3 ≤ 2 * m := by have := hr3.len; omega
          replace hr2 := RI.below hr2 hb3 (Nat.le_refl _)
          replace hG2 := Blk.below hG2 hb3 (by omega)
          have hs3 := hb3.size
          have hb23 := hb2.trans (hb3.mono hs2)
          clear hb3 hf3 g0 g1 hRE
          go_wp2_with fail
          refine (meet_any A3 A2 n3 c3 n2 c2 _ l2 _ hr3 (by omega) hr2 (by omega)).mono ?_
          rintro e w4 ⟨A4, n4, c4, rfl, hn4, hr4, hb4, hf4⟩
          have hd4 : n4 = dg (nbG n es) l2 v := by rw [← hmd, hr4.len]
          replace hd4 := Lib.hid hd4
          replace hr2 := RI.below hr2 hb4 (Nat.le_refl _)
          replace hG2 := Blk.below hG2 hb4 (by omega)
          have hs4 := hb4.size
          replace hb23 := hb23.trans (hb4.mono (by omega))
          clear hr4 hb4 hf4 hr3 hmd
          by_cases hk : (n4 : Int) < k
          · have hpd := Lib.hid (hp.out.drop hsort.out hv.out (by rw [← hd4.out]; exact hk))
            have hq : decide ((n4 : Int) < k) = true := by simpa using hk
            go_wp2_with fail
            refine (minus_any A2 _ n2 c2 1 1 l2 [v] _ (hr2.alloc _) (by omega) (RI.one v) (by omega)).mono ?_
            rintro e w5 ⟨A5, n5, c5, rfl, hn5, hr5, hb5, hf5⟩
            simp only [World.size_alloc] at hb5 hf5
            have hn5' : n5 ≤ 64 := by
              have h1 := hpd.out.len
              have h2 := hr5.len
              have h3 := hlen0.out
              omega
            replace hG2 := Blk.below (hG2.alloc (.cells #[.int .i64 v] 3)) hb5 (by omega)
            replace hb23 := (hb23.alloc (by omega) (.cells #[.int .i64 v] 3)).trans (hb5.mono (by omega))
            replace hf5 : Fr w.heap.size A5 := hf5.mono (by omega)
            clear hb5 hr2
            go_wp2_with fail
            go_roundw
            case rel => exact ⟨j + 1, A5, n5, c5, _, true, by omega, by go_num, rfl, rfl, hn5, hn5', hr5, hpd, hG2, hb23, hf5⟩
            case measure => simp [intOf]; omega
          · have hpk := Lib.hid (hp.out.keep hv.out (by rw [← hd4.out]; omega))
            have hq : decide ((n4 : Int) < k) = false := by simpa using hk
            clear hk
            go_wp2_with fail
            go_roundw
            case rel => exact ⟨j + 1, A2, n2, c2, _, again, by omega, by go_num, rfl, rfl, hnc2, hn2, hr2, hpk, hG2, hb23, hf2⟩
            case measure => simp [intOf]; omega
        · have hdone : again = false → ∀ v, v ∈ l2 ↔ inC (nbG n es) n k v := by
            rintro rfl
            exact hp.out.done (by rw [hlen0.out]; omega)
          have hlen : again = true → n2 < n' := fun ha => by
            have := hp.out.yes ha
            have := hr2.len
            have := hlen0.out
            omega
          have hgd2 := Lib.hid hp.out.good
          replace hdone := Lib.hid hdone
          replace hlen := Lib.hid hlen
          have hb3 := hb.trans (hb2.mono hsz)
          go_wp2_with fail
          go_roundw
          case rel => exact ⟨A2, n2, c2, l2, again, rfl, rfl, hnc2, hn2, hr2, hgd2, hdone, hG2, hb3, hf2⟩
          case measure =>
            cases again
            · simp
            · have := hlen.out rfl
              simp; omega
end Go.Proofs.YtdibfecejgjfmaaDoor

namespace Go.Proofs.YtdibfecejgjfmaaDoor
open Go.RowKit

/-- The call returns a new list and an error. -/
def RetL (w : World) (ys : List Int) (err : Int) (e : Ending) (w' : World) : Prop := ∃ A n c, e = .returned (.tuple #[.slice A n c, .int .i64 err]) ∧ n ≤ c ∧ RI w' A n ys ∧ Below w.heap.size w w' ∧ Fr w.heap.size A
theorem retTup {a b c d : Value} (h : a = c) (h' : b = d) : Ending.returned (.tuple #[a, b]) = .returned (.tuple #[c, d]) := by rw [h, h']

/-- What Core returns. -/
def CoreL (n : Int) (es : List (Int × Int)) (k : Int) (l : List Int) : Prop := (chkG n es = 0 → Vld l n ∧ ∀ v, v ∈ l ↔ inC (nbG n es) n k v) ∧ (chkG n es ≠ 0 → l = [])
/-- The core numbers. -/
def IsNums (nb : Int → List Int) (n : Nat) (ns : List Int) : Prop := ns.length = n ∧ ∀ v, v < n → 0 ≤ ns.getD v 0 ∧ inC nb n (ns.getD v 0) v ∧ ¬ inC nb n (ns.getD v 0 + 1) v
/-- The greatest of the first cores in which each node lies. -/
def NumTo (nb : Int → List Int) (n : Nat) (k : Int) (ns : List Int) : Prop := ns.length = n ∧ ∀ v, v < n → 0 ≤ ns.getD v 0 ∧ ns.getD v 0 < k ∧ inC nb n (ns.getD v 0) v ∧ ∀ j, ns.getD v 0 < j → j < k → ¬ inC nb n j v
def setA (ns : List Int) (l : List Int) (k : Int) : List Int := l.foldl (fun a x => a.set x.toNat k) ns
theorem setA_length (ns l : List Int) (k : Int) : (setA ns l k).length = ns.length := by
  unfold setA
  induction l generalizing ns with
  | nil => rfl
  | cons x l ih => rw [List.foldl_cons, ih, List.length_set]
theorem setA_take {ns l : List Int} {k x : Int} {i : Nat} (h : l[i]? = some x) : setA ns (l.take (i + 1)) k = (setA ns (l.take i) k).set x.toNat k := by
  unfold setA
  rw [take_at h, List.foldl_append]; rfl
theorem setA_get {ns l : List Int} {k : Int} (hl : ∀ x ∈ l, 0 ≤ x ∧ x < ns.length) (v : Nat) : (setA ns l k).getD v 0 = if (v : Int) ∈ l then k else ns.getD v 0 := by
  unfold setA
  induction l generalizing ns with
  | nil => simp
  | cons x l ih =>
    have hx := hl x (by simp)
    rw [List.foldl_cons, ih (fun y hy => by rw [List.length_set]; exact hl y (by simp [hy]))]
    by_cases hv : (v : Int) ∈ l
    · rw [if_pos hv, if_pos (by simp [hv])]
    · rw [if_neg hv]
      by_cases he : (v : Int) = x
      · subst he
        rw [if_pos (by simp)]
        rw [List.getD_eq_getElem?_getD, List.getElem?_set]
        simp
        rw [if_pos (by omega)]; rfl
      · rw [if_neg (by simp [hv]; exact he)]
        rw [List.getD_eq_getElem?_getD, List.getD_eq_getElem?_getD, List.getElem?_set_ne (by omega)]
theorem numTo_start (nb : Int → List Int) (n : Nat) : NumTo nb n 1 (List.replicate n 0) := by
  refine ⟨by simp, fun v hv => ?_⟩
  have e : (List.replicate n (0 : Int)).getD v 0 = 0 := by rw [List.getD_eq_getElem?_getD, List.getElem?_replicate, if_pos hv]; rfl
  rw [e]
  refine ⟨Int.le_refl _, by omega, ⟨[(v : Int)], by simp, fun u hu => ?_⟩, fun j h1 h2 => by omega⟩
  rw [List.mem_singleton.1 hu]
  exact ⟨by omega, by omega, Int.natCast_nonneg _⟩
theorem numTo_step {nb : Int → List Int} {n : Nat} {k : Int} {ns l : List Int} (h : NumTo nb n k ns) (hk : 1 ≤ k) (hl : ∀ v, v ∈ l ↔ inC nb n k v) : NumTo nb n (k + 1) (setA ns l k) := by
  refine ⟨by rw [setA_length]; exact h.1, fun v hv => ?_⟩
  rw [setA_get fun x hx => by rw [h.1]; exact inC_range ((hl x).1 hx)]
  obtain ⟨h0, h1, h2, h3⟩ := h.2 v hv
  by_cases hin : (v : Int) ∈ l
  · rw [if_pos hin]
    exact ⟨by omega, by omega, (hl _).1 hin, fun j _ _ => by omega⟩
  · rw [if_neg hin]
    refine ⟨h0, by omega, h2, fun j hj1 hj2 hc => ?_⟩
    by_cases hjk : j < k
    · exact h3 j hj1 hjk hc
    · exact hin ((hl _).2 (inC_mono hc (by omega)))
theorem nb_length {n : Nat} {es : List (Int × Int)} (hc : chkG n es = 0) {v : Nat} (hv : v < n) : (nbG n es v).length + 1 ≤ n := by
  have hlt := chkE_lt (chkG_zero hc).2.2
  have hmem : ∀ x, x ∈ nbG n es v ↔ x ∈ nbl es v := fun x => by unfold nbG; rw [if_pos hc, mem_of]
  have hr : ∀ x ∈ nbG n es v, (0 ≤ x ∧ x < n) ∧ x ≠ v := by
    intro x hx
    have := (hmem x).1 hx
    unfold nbl at this
    rw [List.mem_flatMap] at this
    obtain ⟨e, he, hx⟩ := this
    have h1 := hlt e he
    rw [List.mem_append] at hx
    rcases hx with hx | hx
    · split at hx
      · rw [List.mem_singleton.1 hx]; omega
      · cases hx
    · split at hx
      · rw [List.mem_singleton.1 hx]; omega
      · cases hx
  have hs := nbG_sorted n es v
  have hsub : nbG n es v = (rst n [(v : Int)]).filter (fun x => decide (x ∈ nbG n es v)) := sorted_ext hs ((rst_sorted n _).filter _) fun x => by
    rw [List.mem_filter, mem_rst]
    simp
    exact fun hx => ⟨(hr x hx).1, (hr x hx).2⟩
  have h1 : (nbG n es v).length ≤ (rst n [(v : Int)]).length := by
    rw [hsub]; exact List.length_filter_le _ _
  have h2 : (rst n [(v : Int)]).length < (rng n).length := by
    unfold rst
    refine Nat.lt_of_le_of_ne (List.length_filter_le _ _) fun e => ?_
    have := List.length_filter_eq_length_iff.1 e (v : Int) (mem_rng.2 ⟨by omega, by omega⟩)
    simp at this
  rw [rng_length] at h2
  omega
theorem dg_le (nb : Int → List Int) (l : List Int) (v : Int) : dg nb l v ≤ (nb v).length := List.length_filter_le _ _
theorem numTo_done {n : Nat} {es : List (Int × Int)} (hc : chkG n es = 0) {ns : List Int} {k : Int} (h : NumTo (nbG n es) n k ns) (hk : n ≤ k) : IsNums (nbG n es) n ns := by
  refine ⟨h.1, fun v hv => ?_⟩
  obtain ⟨h0, h1, h2, h3⟩ := h.2 v hv
  refine ⟨h0, h2, fun hin => ?_⟩
  by_cases hj : ns.getD v 0 + 1 < k
  · exact h3 _ (by omega) hj hin
  · obtain ⟨S, hvS, hS⟩ := hin
    have := (hS v hvS).2.2
    have h4 := dg_le (nbG n es) S v
    have h5 := nb_length hc hv
    omega
theorem nums_unique {nb : Int → List Int} {n : Nat} {a b : List Int} (ha : IsNums nb n a) (hb : IsNums nb n b) : a = b := by
  refine List.ext_getElem? fun v => ?_
  by_cases hv : v < n
  · have h1 : a[v]? = some (a.getD v 0) := by rw [List.getD_eq_getElem?_getD, List.getElem?_eq_getElem (by rw [ha.1]; exact hv)]; rfl
    have h2 : b[v]? = some (b.getD v 0) := by rw [List.getD_eq_getElem?_getD, List.getElem?_eq_getElem (by rw [hb.1]; exact hv)]; rfl
    rw [h1, h2]
    obtain ⟨_, a1, a2⟩ := ha.2 v hv
    obtain ⟨_, b1, b2⟩ := hb.2 v hv
    generalize a.getD v 0 = x at *
    generalize b.getD v 0 = y at *
    rcases Int.lt_trichotomy x y with h | h | h
    · exact absurd (inC_mono b1 (by omega)) a2
    · rw [h]
    · exact absurd (inC_mono a1 (by omega)) b2
  · rw [List.getElem?_eq_none (by rw [ha.1]; omega), List.getElem?_eq_none (by rw [hb.1]; omega)]

/-- What Numbers returns. -/
def NumsL (n : Int) (es : List (Int × Int)) (l : List Int) : Prop := (chkG n es = 0 → IsNums (nbG n es) n.toNat l) ∧ (chkG n es ≠ 0 → l = [])
theorem numsL_unique {n : Int} {es : List (Int × Int)} {a b : List Int} (ha : NumsL n es a) (hb : NumsL n es b) : a = b := by
  by_cases hz : chkG n es = 0
  · exact nums_unique (ha.1 hz) (hb.1 hz)
  · rw [ha.2 hz, hb.2 hz]
set_option maxRecDepth 100000 in
set_option maxHeartbeats 4000000 in
theorem rNumbers_any (A : Option Addr) (m c : Nat) (n : Int) (es : List (Int × Int)) (w : World) (h : RE w A m es) (hm : m ≤ 68719476736) :
    Calls Tryd.prog 61 #[.agg #[.int .i64 n, .slice A m c]] w fun e w' => ∃ l, RetL w l (chkG n es) e w' ∧ NumsL n es l := by
  have ck := fun w h => rcheck_any A m c n es w h (by omega)
  by_cases hz : chkG n es = 0
  · obtain ⟨z0, z1, _⟩ := chkG_zero hz
    obtain ⟨n, rfl⟩ := Int.eq_ofNat_of_zero_le z0
    have hdef : ∀ l k, NumTo (nbG n es) n k l → n ≤ k → NumsL n es l := fun l k h1 h2 => ⟨fun _ => numTo_done hz h1 h2, fun h => absurd hz h⟩
    rw [hz] at ck ⊢
    clear hz
    replace hdef := Lib.hid hdef
    replace ck := Lib.hid ck
    have hst := Lib.hid (numTo_start (nbG n es) n)
    go_enter Tryd.func61, Tryd.ntmps61
    go_wp2_with fail
    refine (ck.out _ (h.alloc _)).mono ?_
    rintro e w1 ⟨rfl, hb1⟩
    simp only [World.size_alloc] at hb1
    have hG : Blk w1 w.heap.size 27 #[.int .i64 n, .slice A m c] := Blk.below (Blk.new _ _ _) hb1 (by simp)
    have hb0 : Below w.heap.size w w1 := ((Below.refl _ _).alloc (Nat.le_refl _) _).trans (hb1.mono (by simp))
    have g0 := Blk.cell hG 0
    have g1 := Blk.cell hG 1
    simp at g0 g1
    have hlt1 := hG.lt
    have hs0 := hb0.size
    clear hb1
    go_wp2_with (at_make; refine wpList_makeI rfl _ _ rfl rfl rfl (n := n) (by omega) (by omega) (by omega) ?_; intro w2 hA2 hg2)
    replace hG := Blk.grown hG hg2 (by simp)
    have hb2 := hb0.trans (grown_none_below hg2 _ hs0)
    have hs2 := hg2.size
    clear hg2 hb0 g0 g1
    generalize hgb : w1.heap.size = gb at *
    replace hgb : gb = gb := rfl
    have hgl : w.heap.size < gb := by omega
    clear hgb
    generalize List.replicate n (0 : Int) = ns0 at *
    go_loopw [6] (fun i wr => ∃ (k : Nat) (ns : List Int), 1 ≤ k ∧ (k ≤ n ∨ k = 1) ∧ i = .int .i64 k ∧ AI wr gb ns ∧ Hid (NumTo (nbG n es) n k ns) ∧ Blk wr w.heap.size 27 #[.int .i64 n, .slice A m c] ∧ Below w.heap.size w wr) (fun i _ => n + 1 - (intOf i).toNat)
    case atStart => exact ⟨1, ns0, Nat.le_refl _, .inr rfl, by go_num, hA2, hst, hG, hb2⟩
    case round =>
      obtain ⟨k, ns, hk1, hkn, rfl, hA, hN, hG2, hb⟩ := hrel
      clear hA2 hst hG hb2
      have g0 := Blk.cell hG2 0
      have g1 := Blk.cell hG2 1
      simp at g0 g1
      have hsz := hb.size
      have hGl := hG2.lt
      have hAl := hA.lt
      by_cases hlt : k < n
      · have hRE := RE.below h hb (Nat.le_refl _)
        go_wp2_with fail
        refine (rcore_any A m c n es k _ hRE hm (by omega)).mono ?_
        rintro e w3 ⟨l, ⟨A3, n3, c3, rfl, hn3, hr3, hb3, hf3⟩, hv, hin⟩
        replace hA := AI.below hA hb3 hAl
        replace hG2 := Blk.below hG2 hb3 hGl
        have hs3 := hb3.size
        have hb4 := hb.trans (hb3.mono hsz)
        have hn64 : n3 ≤ 64 := by have := vld_length hv; have := hr3.len; omega
        have hlen3 := Lib.hid hr3.len
        have hstep := Lib.hid (numTo_step hN.out (by omega) hin)
        have hnl := Lib.hid hN.out.1
        replace hv := Lib.hid hv
        replace hf3 : ∀ ad, A3 = some ad → gb ≠ ad.block := fun ad e => by have := hf3 ad e; omega
        clear hin hb3 g0 g1 hRE hN hb
        go_wp2_with fail
        obtain ⟨wo, rfl⟩ : ∃ wo : World, wo = w3 := ⟨_, rfl⟩
        go_loopw [27] (fun i wr => ∃ j : Nat, j ≤ n3 ∧ i = .int .i64 j ∧ AI wr gb (setA ns (l.take j) k) ∧ Blk wr w.heap.size 27 #[.int .i64 n, .slice A m c] ∧ wo.grownBy wr (some gb)) (fun i _ => n3 - (intOf i).toNat)
        case atStart => exact ⟨0, Nat.zero_le _, rfl, hA, hG2, World.grownBy.refl _ _⟩
        case round =>
          obtain ⟨j, hj, rfl, hA4, hG4, hg4⟩ := hrel
          clear hA hG2
          by_cases hlt2 : j < n3
          · obtain ⟨ad, x, rfl, hx, hcx⟩ := (RI.kept hr3 hg4 (fun ad e he => hf3 ad e (by injection he with he; exact he.symm))).get hlt2
            have hx2 := hv.out.1 x (mem_at hx.out)
            obtain ⟨y, rfl⟩ := Int.eq_ofNat_of_zero_le hx2.1
            have hst2 := setA_take (ns := ns) (k := (k : Int)) hx.out
            rw [Int.toNat_natCast] at hst2
            replace hst2 := Lib.hid hst2
            have hlen : (setA ns (l.take j) k).length = n := by rw [setA_length, hnl.out]
            have hyn : y < n := by omega
            have hcy := hA4.cell (i := y) (by rw [hlen]; exact hyn)
            have hfy := hA4.frozen y
            have hset := hA4.set y (k : Int)
            replace hlen : n ≤ (setA ns (l.take j) k).length := by omega
            generalize setA ns (l.take j) k = ns2 at *
            go_wp2_with fail
            go_roundw
            case rel => exact ⟨j + 1, by omega, by go_num, by rw [hst2.out]; exact hset, Blk.far (p := ⟨gb, y, none⟩) hG4 (by simp; omega) _, grown_setB hg4 y _⟩
            case measure => simp [intOf]; omega
          · have hA5 : AI wr gb (setA ns l k) := by rwa [List.take_of_length_le (by rw [hlen3.out]; omega)] at hA4
            have hb5 : Below w.heap.size w wr := hb4.grown hg4 (by have := hb4.size; omega) (fun q hq => by injection hq with hq; omega)
            clear hA4 hg4 hb4
            go_wp2_with fail
            go_roundw
            case rel => exact ⟨k + 1, setA ns l k, by omega, by omega, by go_num, hA5, hstep, hG4, hb5⟩
            case measure => simp [intOf]; omega
      · have hfin : ∃ l, RetL w l 0 (.returned (.tuple #[.slice (some ⟨gb, 0, none⟩) n n, .int .i64 0])) wr ∧ NumsL n es l :=
          ⟨ns, ⟨_, n, n, rfl, Nat.le_refl _, hA.ri hN.out.1.symm, hb, fun ad e => by injection e with e; subst e; exact Nat.le_of_lt hgl⟩, hdef.out ns k hN.out (by omega)⟩
        replace hfin := Lib.hid hfin
        clear hA hb
        go_wp2_with fail
        go_ret2
        exact hfin.out
  · have hdef : NumsL n es [] := ⟨fun h => absurd h hz, fun _ => rfl⟩
    have hz' : (chkG n es != 0) = true := by simpa using hz
    clear hz
    generalize chkG n es = z at *
    replace hdef := Lib.hid hdef
    replace ck := Lib.hid ck
    go_enter Tryd.func61, Tryd.ntmps61
    go_wp2_with fail
    refine (ck.out _ (h.alloc _)).mono ?_
    rintro e w1 ⟨rfl, hb1⟩
    simp only [World.size_alloc] at hb1
    have hb0 : Below w.heap.size w w1 := ((Below.refl _ _).alloc (Nat.le_refl _) _).trans (hb1.mono (by simp))
    clear hb1
    go_wp2
    go_ret2
    exact ⟨[], ⟨none, 0, 0, rfl, Nat.le_refl _, RI.none_, hb0, Fr.none_⟩, hdef.out⟩
end Go.Proofs.YtdibfecejgjfmaaDoor
