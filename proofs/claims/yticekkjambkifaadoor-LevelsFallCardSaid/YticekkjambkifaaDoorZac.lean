/- Printed by merge.py from SetM, RCoB, RowM, RCoD, Dek. -/
import Derived.Test.YticekkjambkifaaDoorSetB
import Derived.Test.YticekkjambkifaaDoorZab
import Derived.Deep.RegionHeld3
import Derived.Test.YticekkjambkifaaDoorZaa
import Derived.Deep.RegionLaw
/- Plain laws of the reference's sets, and of cores of graphs. -/
set_option linter.unusedVariables false
namespace Go.Proofs.YticekkjambkifaaDoor

theorem mem_put {l : List Int} {x y : Int} : x ∈ putL l y ↔ x = y ∨ x ∈ l := by
  induction l with
  | nil => simp [putL]
  | cons z l ih =>
    unfold putL
    split
    · rw [List.mem_cons, ih, List.mem_cons]
      constructor
      · rintro (h | h | h)
        · exact .inr (.inl h)
        · exact .inl h
        · exact .inr (.inr h)
      · rintro (h | h | h)
        · exact .inr (.inl h)
        · exact .inl h
        · exact .inr (.inr h)
    · split
      · rename_i h1 h2
        subst h2
        simp
      · simp
theorem put_sorted {l : List Int} {y : Int} (h : l.Pairwise (· < ·)) : (putL l y).Pairwise (· < ·) := by
  induction l with
  | nil => simp [putL]
  | cons z l ih =>
    obtain ⟨h1, h2⟩ := List.pairwise_cons.1 h
    unfold putL
    split
    · rename_i hzy
      refine List.pairwise_cons.2 ⟨fun x hx => ?_, ih h2⟩
      rcases mem_put.1 hx with rfl | hx
      · exact hzy
      · exact h1 x hx
    · split
      · exact h
      · rename_i h3 h4
        refine List.pairwise_cons.2 ⟨fun x hx => ?_, h⟩
        rcases List.mem_cons.1 hx with rfl | hx
        · omega
        · have := h1 x hx; omega
theorem foldl_put_mem {xs acc : List Int} {x : Int} : x ∈ xs.foldl putL acc ↔ x ∈ acc ∨ x ∈ xs := by
  induction xs generalizing acc with
  | nil => simp
  | cons y xs ih =>
    rw [List.foldl_cons, ih, mem_put, List.mem_cons]
    constructor
    · rintro ((h | h) | h)
      · exact .inr (.inl h)
      · exact .inl h
      · exact .inr (.inr h)
    · rintro (h | h | h)
      · exact .inl (.inr h)
      · exact .inl (.inl h)
      · exact .inr h
theorem mem_of {xs : List Int} {x : Int} : x ∈ ofL xs ↔ x ∈ xs := by unfold ofL; rw [foldl_put_mem]; simp
theorem foldl_put_sorted {xs acc : List Int} (h : acc.Pairwise (· < ·)) : (xs.foldl putL acc).Pairwise (· < ·) := by
  induction xs generalizing acc with
  | nil => exact h
  | cons y xs ih => exact ih (put_sorted h)
theorem of_sorted (xs : List Int) : (ofL xs).Pairwise (· < ·) := foldl_put_sorted List.Pairwise.nil
/-- Ascending lists with the same elements are the same. -/
theorem sorted_ext {a b : List Int} (ha : a.Pairwise (· < ·)) (hb : b.Pairwise (· < ·)) (h : ∀ x, x ∈ a ↔ x ∈ b) : a = b := by
  induction a generalizing b with
  | nil =>
    cases b with
    | nil => rfl
    | cons y b => have := (h y).2 (by simp); cases this
  | cons x a ih =>
    obtain ⟨a1, a2⟩ := List.pairwise_cons.1 ha
    cases b with
    | nil => have := (h x).1 (by simp); cases this
    | cons y b =>
      obtain ⟨b1, b2⟩ := List.pairwise_cons.1 hb
      have hxy : x = y := by
        rcases List.mem_cons.1 ((h x).1 (by simp)) with e | e
        · exact e
        · rcases List.mem_cons.1 ((h y).2 (by simp)) with e' | e'
          · exact e'.symm
          · have := b1 x e; have := a1 y e'; omega
      subst hxy
      congr 1
      refine ih a2 b2 fun z => ⟨fun hz => ?_, fun hz => ?_⟩
      · rcases List.mem_cons.1 ((h z).1 (by simp [hz])) with e | e
        · have := a1 z hz; omega
        · exact e
      · rcases List.mem_cons.1 ((h z).2 (by simp [hz])) with e | e
        · have := b1 z hz; omega
        · exact e
theorem of_id {xs : List Int} (h : xs.Pairwise (· < ·)) : ofL xs = xs := sorted_ext (of_sorted xs) h fun x => mem_of
theorem meet_sorted {a : List Int} (h : a.Pairwise (· < ·)) (b : List Int) : meetL a b = a.filter (fun x => x ∈ b) := by unfold meetL; rw [of_id h]
theorem minus_sorted {a : List Int} (h : a.Pairwise (· < ·)) (b : List Int) : minusL a b = a.filter (fun x => x ∉ b) := by unfold minusL; rw [of_id h]

/-- How many neighbours of v are in l. -/
def dg (nb : Int → List Int) (l : List Int) (v : Int) : Nat := ((nb v).filter (fun x => decide (x ∈ l))).length
theorem dg_mono {nb : Int → List Int} {l l' : List Int} {v : Int} (h : ∀ x ∈ l, x ∈ l') : dg nb l v ≤ dg nb l' v := by
  unfold dg
  rw [← List.countP_eq_length_filter, ← List.countP_eq_length_filter]
  exact List.countP_mono_left fun x _ hx => by simp at hx ⊢; exact h x hx
theorem dg_congr {nb : Int → List Int} {l l' : List Int} {v : Int} (h : ∀ x, x ∈ l ↔ x ∈ l') : dg nb l v = dg nb l' v :=
  Nat.le_antisymm (dg_mono fun x hx => (h x).1 hx) (dg_mono fun x hx => (h x).2 hx)
/-- v lies in the k-core. -/
def inC (nb : Int → List Int) (n : Int) (k : Int) (v : Int) : Prop := ∃ S : List Int, v ∈ S ∧ ∀ u ∈ S, 0 ≤ u ∧ u < n ∧ k ≤ (dg nb S u : Int)
/-- The list holds the k-core. -/
def Good (nb : Int → List Int) (n k : Int) (l : List Int) : Prop := Vld l n ∧ ∀ v, inC nb n k v → v ∈ l
theorem inC_dg {nb : Int → List Int} {n k v : Int} {l : List Int} (h : inC nb n k v) (hl : ∀ v, inC nb n k v → v ∈ l) : k ≤ (dg nb l v : Int) := by
  obtain ⟨S, hv, hS⟩ := h
  have h1 := (hS v hv).2.2
  have h2 : dg nb S v ≤ dg nb l v := dg_mono fun x hx => hl x ⟨S, hx, hS⟩
  omega
theorem vld_filter {l : List Int} {n : Int} (h : Vld l n) (p : Int → Bool) : Vld (l.filter p) n := ⟨fun x hx => h.1 x (List.mem_filter.1 hx).1, h.2.filter p⟩
theorem good_minus {nb : Int → List Int} {n k v : Int} {l : List Int} (h : Good nb n k l) (hd : (dg nb l v : Int) < k) : Good nb n k (minusL l [v]) := by
  rw [minus_sorted h.1.2]
  refine ⟨vld_filter h.1 _, fun u hu => ?_⟩
  rw [List.mem_filter]
  refine ⟨h.2 u hu, ?_⟩
  simp
  rintro rfl
  have := inC_dg hu h.2
  omega
theorem core_done {nb : Int → List Int} {n k : Int} {l : List Int} (h : Good nb n k l) (hd : ∀ v ∈ l, k ≤ (dg nb l v : Int)) (v : Int) : v ∈ l ↔ inC nb n k v :=
  ⟨fun hv => ⟨l, hv, fun u hu => ⟨(h.1.1 u hu).1, (h.1.1 u hu).2, hd u hu⟩⟩, h.2 v⟩
theorem inC_range {nb : Int → List Int} {n k v : Int} (h : inC nb n k v) : 0 ≤ v ∧ v < n := by
  obtain ⟨S, hv, hS⟩ := h
  exact ⟨(hS v hv).1, (hS v hv).2.1⟩
theorem inC_mono {nb : Int → List Int} {n k k' v : Int} (h : inC nb n k v) (hk : k' ≤ k) : inC nb n k' v := by
  obtain ⟨S, hv, hS⟩ := h
  exact ⟨S, hv, fun u hu => ⟨(hS u hu).1, (hS u hu).2.1, by have := (hS u hu).2.2; omega⟩⟩
/-- The numbers from 0 to n - 1. -/
def rng (n : Nat) : List Int := (List.range n).map fun i : Nat => (i : Int)
theorem mem_rng {n : Nat} {x : Int} : x ∈ rng n ↔ 0 ≤ x ∧ x < n := by
  unfold rng
  rw [List.mem_map]
  constructor
  · rintro ⟨i, hi, rfl⟩
    rw [List.mem_range] at hi
    omega
  · intro h
    exact ⟨x.toNat, by rw [List.mem_range]; omega, by omega⟩
theorem rng_length (n : Nat) : (rng n).length = n := by unfold rng; simp
theorem rng_succ (n : Nat) : rng (n + 1) = rng n ++ [(n : Int)] := by unfold rng; rw [List.range_succ, List.map_append]; rfl
theorem rng_sorted (n : Nat) : (rng n).Pairwise (· < ·) := by
  unfold rng
  rw [List.pairwise_map]
  exact List.pairwise_lt_range.imp fun h => by omega
theorem rng_vld (n : Nat) : Vld (rng n) n := ⟨fun x hx => mem_rng.1 hx, rng_sorted n⟩
theorem good_all (nb : Int → List Int) (n : Nat) (k : Int) : Good nb n k (rng n) := ⟨rng_vld n, fun v hv => mem_rng.2 (inC_range hv)⟩
/-- What is left when some have been taken. -/
def rst (n : Nat) (p : List Int) : List Int := (rng n).filter fun x => decide (x ∉ p)
theorem mem_rst {n : Nat} {p : List Int} {x : Int} : x ∈ rst n p ↔ (0 ≤ x ∧ x < n) ∧ x ∉ p := by unfold rst; rw [List.mem_filter, mem_rng]; simp
theorem rst_nil (n : Nat) : rst n [] = rng n := by unfold rst; rw [List.filter_eq_self]; intro x _; simp
theorem rst_sorted (n : Nat) (p : List Int) : (rst n p).Pairwise (· < ·) := (rng_sorted n).filter _
theorem rst_vld (n : Nat) (p : List Int) : Vld (rst n p) n := vld_filter (rng_vld n) _
theorem rst_push (n : Nat) (p : List Int) (v : Int) : minusL (rst n p) [v] = rst n (p ++ [v]) := by
  rw [minus_sorted (rst_sorted n p)]
  refine sorted_ext ((rst_sorted n p).filter _) (rst_sorted n _) fun x => ?_
  rw [List.mem_filter, mem_rst, mem_rst]
  simp
  constructor
  · rintro ⟨⟨h1, h2⟩, h3⟩; exact ⟨h1, h2, h3⟩
  · rintro ⟨h1, h2, h3⟩; exact ⟨⟨h1, h2⟩, h3⟩
end Go.Proofs.YticekkjambkifaaDoor

/- The reference's cores (cohesionref10), first part: the k-core. -/
set_option linter.unusedVariables false
namespace Go.Proofs.YticekkjambkifaaDoor
open Go.RowKit

set_option maxHeartbeats 400000 in
theorem range_any (n : Nat) (hn : n ≤ 64) (w : World) :
    Calls Tryd.prog 23 #[.int .i64 n] w (RetI w (rng n)) := by
  go_enter Tryd.func23, Tryd.ntmps23
  go_wp2
  go_loopw [3, 4] (fun v i wr => ∃ k : Nat, k ≤ n ∧ i = .int .i64 k ∧ OI wr w.heap.size v (rng k) ∧ Below w.heap.size w wr) (fun _ i _ => n - (intOf i).toNat)
  case atStart => exact ⟨0, Nat.zero_le _, rfl, OI.nil_, Below.refl _ _⟩
  case round =>
    obtain ⟨k, hk, rfl, ho, hb⟩ := hrel
    have hs := hb.size
    have hl := rng_length k
    by_cases hlt : k < n
    · have hsu := Lib.hid (rng_succ k)
      generalize rng k = ys at *
      replace hl : ys.length ≤ 64 := by omega
      go_wp2_with (at_builtin; refine wpList_push rfl _ _ rfl rfl rfl (by simp) ho (by omega) hs ?_; intro v' w' ho' hb' hg')
      have hb2 := hb.trans hb'
      go_roundw
      case rel => exact ⟨k + 1, by omega, by go_num, by rw [hsu.out]; exact ho', hb2⟩
      case measure => simp [intOf]; omega
    · have hfin : RetI w (rng n) (.returned u3) wr := by
        rw [show n = k by omega]
        exact ho.ret hb (Nat.le_refl _)
      replace hfin := Lib.hid hfin
      clear ho hb hl
      go_wp2
      go_ret
      exact hfin.out

theorem nbG_sorted (n : Int) (es : List (Int × Int)) (x : Int) : (nbG n es x).Pairwise (· < ·) := by
  unfold nbG
  split
  · exact of_sorted _
  · exact List.Pairwise.nil
theorem meet_dg (n : Int) (es : List (Int × Int)) (l : List Int) (v : Int) : (meetL (nbG n es v) l).length = dg (nbG n es) l v := by
  rw [meet_sorted (nbG_sorted n es v)]; rfl
theorem nbG_length (n : Int) (es : List (Int × Int)) (x : Int) : (nbG n es x).length ≤ 2 * es.length := by
  unfold nbG
  split
  · exact Nat.le_trans (of_length _) (nbl_length es x)
  · simp
theorem vld_length {l : List Int} {n : Nat} (h : Vld l n) : l.length ≤ n := by
  have h2 : l = (rng n).filter (fun x => decide (x ∈ l)) := sorted_ext h.2 ((rng_sorted n).filter _) fun x => by
    rw [List.mem_filter, mem_rng]
    simp
    exact fun hx => h.1 x hx
  rw [h2]
  exact Nat.le_trans (List.length_filter_le _ _) (by rw [rng_length]; exact Nat.le_refl _)
/-- What a pass over the list l0 keeps. -/
structure Pass (nb : Int → List Int) (n k : Int) (l0 l : List Int) (i : Nat) (again : Bool) : Prop where
  good : Good nb n k l
  rest : ∀ x ∈ l0.drop i, x ∈ l
  len : l.length ≤ l0.length
  yes : again = true → l.length < l0.length
  no : again = false → l = l0 ∧ ∀ x ∈ l0.take i, k ≤ (dg nb l0 x : Int)
theorem Pass.start {nb : Int → List Int} {n k : Int} {l : List Int} (h : Good nb n k l) : Pass nb n k l l 0 false :=
  ⟨h, fun x hx => (by simpa using hx), Nat.le_refl _, (fun h => by cases h), fun _ => ⟨rfl, fun x hx => by simp at hx⟩⟩
theorem Pass.keep {nb : Int → List Int} {n k v : Int} {l0 l : List Int} {i : Nat} {again : Bool} (h : Pass nb n k l0 l i again) (hv : l0[i]? = some v) (hd : k ≤ (dg nb l v : Int)) : Pass nb n k l0 l (i + 1) again :=
  ⟨h.good, fun x hx => h.rest x (by rw [drop_at hv]; exact List.mem_cons_of_mem _ hx), h.len, h.yes, fun ha => by
    obtain ⟨h1, h2⟩ := h.no ha
    subst h1
    refine ⟨rfl, fun x hx => ?_⟩
    rw [take_at hv] at hx
    rcases List.mem_append.1 hx with hx | hx
    · exact h2 x hx
    · rw [List.mem_singleton.1 hx]; exact hd⟩
theorem Pass.drop {nb : Int → List Int} {n k v : Int} {l0 l : List Int} {i : Nat} {again : Bool} (h : Pass nb n k l0 l i again) (h0 : l0.Pairwise (· < ·)) (hv : l0[i]? = some v) (hd : (dg nb l v : Int) < k) : Pass nb n k l0 (minusL l [v]) (i + 1) true := by
  have hin : v ∈ l := h.rest v (by rw [drop_at hv]; simp)
  have hshort : (minusL l [v]).length < l.length := by
    rw [minus_sorted h.good.1.2]
    refine Nat.lt_of_le_of_ne (List.length_filter_le _ _) fun e => ?_
    have := List.length_filter_eq_length_iff.1 e v hin
    simp at this
  refine ⟨good_minus h.good hd, fun x hx => ?_, by have := h.len; omega, (fun _ => by have := h.len; omega), (fun h => by cases h)⟩
  rw [minus_sorted h.good.1.2, List.mem_filter]
  refine ⟨h.rest x (by rw [drop_at hv]; exact List.mem_cons_of_mem _ hx), ?_⟩
  simp
  rintro rfl
  have h1 : (l0.drop i).Pairwise (· < ·) := h0.drop
  rw [drop_at hv] at h1
  have := (List.pairwise_cons.1 h1).1 x hx
  omega
theorem Pass.done {nb : Int → List Int} {n k : Int} {l0 l : List Int} {i : Nat} (h : Pass nb n k l0 l i false) (hi : l0.length ≤ i) : ∀ v, v ∈ l ↔ inC nb n k v := by
  obtain ⟨h1, h2⟩ := h.no rfl
  subst h1
  rw [List.take_of_length_le hi] at h2
  exact core_done h.good h2

set_option maxRecDepth 100000 in
set_option maxHeartbeats 4000000 in
theorem rcore_any (A : Option Addr) (m c : Nat) (n : Nat) (es : List (Int × Int)) (k : Int) (w : World) (h : RE w A m es) (hm : m ≤ 68719476736) (hn : n ≤ 64) :
    Calls Tryd.prog 55 #[.agg #[.int .i64 n, .slice A m c], .int .i64 k] w fun e w' => ∃ l, RetI w l e w' ∧ Vld l n ∧ ∀ v, v ∈ l ↔ inC (nbG n es) n k v := by
  have hml := Lib.hid h.len
  go_enter Tryd.func55, Tryd.ntmps55
  go_wp2_with fail
  refine (range_any n hn _).mono ?_
  rintro e w1 ⟨A1, n1, c1, rfl, hn1, hr1, hb1, hf1⟩
  have hG1 : Blk w1 w.heap.size 25 #[.int .i64 n, .slice A m c] := Blk.below (Blk.new _ _ _) hb1 (by simp)
  have hbw1 : Below w.heap.size w w1 := ((Below.refl _ _).alloc (Nat.le_refl _) _).trans (hb1.mono (by simp))
  have hgood := good_all (nbG n es) n k
  have hl1 : n1 = n := by rw [← hr1.len, rng_length]
  have hl1' : n1 ≤ 64 := by omega
  replace hf1 : Fr w.heap.size A1 := hf1.mono (by simp)
  clear hl1 hb1
  go_wp2_with fail
  generalize rng n = l1 at *
  go_loopw [5, 6] (fun v b wr => ∃ (A' : Option Addr) (n' c' : Nat) (l : List Int) (again : Bool), v = .slice A' n' c' ∧ b = .bool again ∧ n' ≤ c' ∧ n' ≤ 64 ∧ RI wr A' n' l ∧ Hid (Good (nbG n es) n k l) ∧ Hid (again = false → ∀ v, v ∈ l ↔ inC (nbG n es) n k v) ∧ Blk wr w.heap.size 25 #[.int .i64 n, .slice A m c] ∧ Below w.heap.size w wr ∧ Fr w.heap.size A')
    (fun v b _ => match v, b with | .slice _ n' _, .bool true => n' + 1 | _, _ => 0)
  case atStart => exact ⟨A1, n1, c1, l1, true, rfl, rfl, hn1, hl1', hr1, Lib.hid hgood, Lib.hid (fun h => by cases h), hG1, hbw1, hf1⟩
  case round =>
    obtain ⟨A', n', c', l, again, rfl, rfl, hnc, hn64, hr, hgd, hdone, hG, hb, hf⟩ := hrel
    clear hgood hr1 hG1 hbw1
    clear hf1
    cases again
    · have hfin : ∃ l, RetI w l (.returned (.slice A' n' c')) wr ∧ Vld l n ∧ ∀ v, v ∈ l ↔ inC (nbG n es) n k v := ⟨l, RetI.mk_ hnc hr hb hf, hgd.out.1, hdone.out rfl⟩
      replace hfin := Lib.hid hfin
      go_wp2
      go_ret
      exact hfin.out
    · clear hdone
      have hsz := hb.size
      have hGl := hG.lt
      have hlen0 := Lib.hid hr.len
      have hp0 := Lib.hid (Pass.start hgd.out)
      have hsort := Lib.hid hgd.out.1.2
      go_wp2_with fail
      obtain ⟨wo, rfl⟩ : ∃ wo : World, wo = wr := ⟨_, rfl⟩
      go_loopw [5, 6, 15] (fun v b i wr => ∃ (j : Nat) (A2 : Option Addr) (n2 c2 : Nat) (l2 : List Int) (again : Bool), j ≤ n' ∧ i = .int .i64 j ∧ v = .slice A2 n2 c2 ∧ b = .bool again ∧ n2 ≤ c2 ∧ n2 ≤ 64 ∧ RI wr A2 n2 l2 ∧ Hid (Pass (nbG n es) n k l l2 j again) ∧ Blk wr w.heap.size 25 #[.int .i64 n, .slice A m c] ∧ Below wo.heap.size wo wr ∧ Fr w.heap.size A2)
        (fun _ _ i _ => n' - (intOf i).toNat)
      case atStart => exact ⟨0, A', n', c', l, false, Nat.zero_le _, rfl, rfl, rfl, hnc, hn64, hr, hp0, hG, Below.refl _ _, hf⟩
      case round =>
        obtain ⟨j, A2, n2, c2, l2, again, hj, rfl, rfl, rfl, hnc2, hn2, hr2, hp, hG2, hb2, hf2⟩ := hrel
        clear hp0 hG
        have hs2 := hb2.size
        by_cases hlt : j < n'
        · obtain ⟨ad, v, rfl, hv, hcv⟩ := (RI.below hr hb2 (Nat.le_refl _)).get hlt
          have g0 := Blk.cell hG2 0
          have g1 := Blk.cell hG2 1
          simp at g0 g1
          have hRE := RE.below h (hb.trans (hb2.mono hsz)) (Nat.le_refl _)
          have hnl := nbG_length n es v
          have hmd := meet_dg n es l2 v
          replace hnl : (nbG n es v).length ≤ 2 * m := by have := hml.out; omega
          go_wp2_with fail
          refine (neigh_any _ m c n es v _ hRE (by omega)).mono ?_
          rintro e w3 ⟨A3, n3, c3, rfl, hn3, hr3, hb3, hf3⟩
          have hln : n3 ≤ 2 * m := by have := hr3.len; omega
          replace hr2 := RI.below hr2 hb3 (Nat.le_refl _)
          replace hG2 := Blk.below hG2 hb3 (by omega)
          have hs3 := hb3.size
          have hb23 := hb2.trans (hb3.mono hs2)
          clear hb3 hf3 g0 g1 hRE
          go_wp2_with fail
          refine (meet_any A3 A2 n3 c3 n2 c2 _ l2 _ hr3 (by omega) hr2 (by omega)).mono ?_
          rintro e w4 ⟨A4, n4, c4, rfl, hn4, hr4, hb4, hf4⟩
          have hd4 : n4 = dg (nbG n es) l2 v := by rw [← hmd, hr4.len]
          replace hd4 := Lib.hid hd4
          replace hr2 := RI.below hr2 hb4 (Nat.le_refl _)
          replace hG2 := Blk.below hG2 hb4 (by omega)
          have hs4 := hb4.size
          replace hb23 := hb23.trans (hb4.mono (by omega))
          clear hr4 hb4 hf4 hr3 hmd
          by_cases hk : (n4 : Int) < k
          · have hpd := Lib.hid (hp.out.drop hsort.out hv.out (by rw [← hd4.out]; exact hk))
            have hq : decide ((n4 : Int) < k) = true := by simpa using hk
            go_wp2_with fail
            refine (minus_any A2 _ n2 c2 1 1 l2 [v] _ (hr2.alloc _) (by omega) (RI.one v) (by omega)).mono ?_
            rintro e w5 ⟨A5, n5, c5, rfl, hn5, hr5, hb5, hf5⟩
            simp only [World.size_alloc] at hb5 hf5
            have hn5' : n5 ≤ 64 := by
              have h1 := hpd.out.len
              have h2 := hr5.len
              have h3 := hlen0.out
              omega
            replace hG2 := Blk.below (hG2.alloc (.cells #[.int .i64 v] 3)) hb5 (by omega)
            replace hb23 := (hb23.alloc (by omega) (.cells #[.int .i64 v] 3)).trans (hb5.mono (by omega))
            replace hf5 : Fr w.heap.size A5 := hf5.mono (by omega)
            clear hb5 hr2
            go_wp2_with fail
            go_roundw
            case rel => exact ⟨j + 1, A5, n5, c5, _, true, by omega, by go_num, rfl, rfl, hn5, hn5', hr5, hpd, hG2, hb23, hf5⟩
            case measure => simp [intOf]; omega
          · have hpk := Lib.hid (hp.out.keep hv.out (by rw [← hd4.out]; omega))
            have hq : decide ((n4 : Int) < k) = false := by simpa using hk
            clear hk
            go_wp2_with fail
            go_roundw
            case rel => exact ⟨j + 1, A2, n2, c2, _, again, by omega, by go_num, rfl, rfl, hnc2, hn2, hr2, hpk, hG2, hb23, hf2⟩
            case measure => simp [intOf]; omega
        · have hdone : again = false → ∀ v, v ∈ l2 ↔ inC (nbG n es) n k v := by
            rintro rfl
            exact hp.out.done (by rw [hlen0.out]; omega)
          have hlen : again = true → n2 < n' := fun ha => by
            have := hp.out.yes ha
            have := hr2.len
            have := hlen0.out
            omega
          have hgd2 := Lib.hid hp.out.good
          replace hdone := Lib.hid hdone
          replace hlen := Lib.hid hlen
          have hb3 := hb.trans (hb2.mono hsz)
          go_wp2_with fail
          go_roundw
          case rel => exact ⟨A2, n2, c2, l2, again, rfl, rfl, hnc2, hn2, hr2, hgd2, hdone, hG2, hb3, hf2⟩
          case measure =>
            cases again
            · simp
            · have := hlen.out rfl
              simp; omega
end Go.Proofs.YticekkjambkifaaDoor

namespace Go.Proofs.YticekkjambkifaaDoor
open Go.RowKit

/-- The call returns a new list and an error. -/
def RetL (w : World) (ys : List Int) (err : Int) (e : Ending) (w' : World) : Prop := ∃ A n c, e = .returned (.tuple #[.slice A n c, .int .i64 err]) ∧ n ≤ c ∧ RI w' A n ys ∧ Below w.heap.size w w' ∧ Fr w.heap.size A
theorem retTup {a b c d : Value} (h : a = c) (h' : b = d) : Ending.returned (.tuple #[a, b]) = .returned (.tuple #[c, d]) := by rw [h, h']

/-- What Core returns. -/
def CoreL (n : Int) (es : List (Int × Int)) (k : Int) (l : List Int) : Prop := (chkG n es = 0 → Vld l n ∧ ∀ v, v ∈ l ↔ inC (nbG n es) n k v) ∧ (chkG n es ≠ 0 → l = [])
/-- The core numbers. -/
def IsNums (nb : Int → List Int) (n : Nat) (ns : List Int) : Prop := ns.length = n ∧ ∀ v, v < n → 0 ≤ ns.getD v 0 ∧ inC nb n (ns.getD v 0) v ∧ ¬ inC nb n (ns.getD v 0 + 1) v
/-- The greatest of the first cores in which each node lies. -/
def NumTo (nb : Int → List Int) (n : Nat) (k : Int) (ns : List Int) : Prop := ns.length = n ∧ ∀ v, v < n → 0 ≤ ns.getD v 0 ∧ ns.getD v 0 < k ∧ inC nb n (ns.getD v 0) v ∧ ∀ j, ns.getD v 0 < j → j < k → ¬ inC nb n j v
def setA (ns : List Int) (l : List Int) (k : Int) : List Int := l.foldl (fun a x => a.set x.toNat k) ns
theorem setA_length (ns l : List Int) (k : Int) : (setA ns l k).length = ns.length := by
  unfold setA
  induction l generalizing ns with
  | nil => rfl
  | cons x l ih => rw [List.foldl_cons, ih, List.length_set]
theorem setA_take {ns l : List Int} {k x : Int} {i : Nat} (h : l[i]? = some x) : setA ns (l.take (i + 1)) k = (setA ns (l.take i) k).set x.toNat k := by
  unfold setA
  rw [take_at h, List.foldl_append]; rfl
theorem setA_get {ns l : List Int} {k : Int} (hl : ∀ x ∈ l, 0 ≤ x ∧ x < ns.length) (v : Nat) : (setA ns l k).getD v 0 = if (v : Int) ∈ l then k else ns.getD v 0 := by
  unfold setA
  induction l generalizing ns with
  | nil => simp
  | cons x l ih =>
    have hx := hl x (by simp)
    rw [List.foldl_cons, ih (fun y hy => by rw [List.length_set]; exact hl y (by simp [hy]))]
    by_cases hv : (v : Int) ∈ l
    · rw [if_pos hv, if_pos (by simp [hv])]
    · rw [if_neg hv]
      by_cases he : (v : Int) = x
      · subst he
        rw [if_pos (by simp)]
        rw [List.getD_eq_getElem?_getD, List.getElem?_set]
        simp
        rw [if_pos (by omega)]; rfl
      · rw [if_neg (by simp [hv]; exact he)]
        rw [List.getD_eq_getElem?_getD, List.getD_eq_getElem?_getD, List.getElem?_set_ne (by omega)]
theorem numTo_start (nb : Int → List Int) (n : Nat) : NumTo nb n 1 (List.replicate n 0) := by
  refine ⟨by simp, fun v hv => ?_⟩
  have e : (List.replicate n (0 : Int)).getD v 0 = 0 := by rw [List.getD_eq_getElem?_getD, List.getElem?_replicate, if_pos hv]; rfl
  rw [e]
  refine ⟨Int.le_refl _, by omega, ⟨[(v : Int)], by simp, fun u hu => ?_⟩, fun j h1 h2 => by omega⟩
  rw [List.mem_singleton.1 hu]
  exact ⟨by omega, by omega, Int.natCast_nonneg _⟩
theorem numTo_step {nb : Int → List Int} {n : Nat} {k : Int} {ns l : List Int} (h : NumTo nb n k ns) (hk : 1 ≤ k) (hl : ∀ v, v ∈ l ↔ inC nb n k v) : NumTo nb n (k + 1) (setA ns l k) := by
  refine ⟨by rw [setA_length]; exact h.1, fun v hv => ?_⟩
  rw [setA_get fun x hx => by rw [h.1]; exact inC_range ((hl x).1 hx)]
  obtain ⟨h0, h1, h2, h3⟩ := h.2 v hv
  by_cases hin : (v : Int) ∈ l
  · rw [if_pos hin]
    exact ⟨by omega, by omega, (hl _).1 hin, fun j _ _ => by omega⟩
  · rw [if_neg hin]
    refine ⟨h0, by omega, h2, fun j hj1 hj2 hc => ?_⟩
    by_cases hjk : j < k
    · exact h3 j hj1 hjk hc
    · exact hin ((hl _).2 (inC_mono hc (by omega)))
theorem nb_length {n : Nat} {es : List (Int × Int)} (hc : chkG n es = 0) {v : Nat} (hv : v < n) : (nbG n es v).length + 1 ≤ n := by
  have hlt := chkE_lt (chkG_zero hc).2.2
  have hmem : ∀ x, x ∈ nbG n es v ↔ x ∈ nbl es v := fun x => by unfold nbG; rw [if_pos hc, mem_of]
  have hr : ∀ x ∈ nbG n es v, (0 ≤ x ∧ x < n) ∧ x ≠ v := by
    intro x hx
    have := (hmem x).1 hx
    unfold nbl at this
    rw [List.mem_flatMap] at this
    obtain ⟨e, he, hx⟩ := this
    have h1 := hlt e he
    rw [List.mem_append] at hx
    rcases hx with hx | hx
    · split at hx
      · rw [List.mem_singleton.1 hx]; omega
      · cases hx
    · split at hx
      · rw [List.mem_singleton.1 hx]; omega
      · cases hx
  have hs := nbG_sorted n es v
  have hsub : nbG n es v = (rst n [(v : Int)]).filter (fun x => decide (x ∈ nbG n es v)) := sorted_ext hs ((rst_sorted n _).filter _) fun x => by
    rw [List.mem_filter, mem_rst]
    simp
    exact fun hx => ⟨(hr x hx).1, (hr x hx).2⟩
  have h1 : (nbG n es v).length ≤ (rst n [(v : Int)]).length := by
    rw [hsub]; exact List.length_filter_le _ _
  have h2 : (rst n [(v : Int)]).length < (rng n).length := by
    unfold rst
    refine Nat.lt_of_le_of_ne (List.length_filter_le _ _) fun e => ?_
    have := List.length_filter_eq_length_iff.1 e (v : Int) (mem_rng.2 ⟨by omega, by omega⟩)
    simp at this
  rw [rng_length] at h2
  omega
theorem dg_le (nb : Int → List Int) (l : List Int) (v : Int) : dg nb l v ≤ (nb v).length := List.length_filter_le _ _
theorem numTo_done {n : Nat} {es : List (Int × Int)} (hc : chkG n es = 0) {ns : List Int} {k : Int} (h : NumTo (nbG n es) n k ns) (hk : n ≤ k) : IsNums (nbG n es) n ns := by
  refine ⟨h.1, fun v hv => ?_⟩
  obtain ⟨h0, h1, h2, h3⟩ := h.2 v hv
  refine ⟨h0, h2, fun hin => ?_⟩
  by_cases hj : ns.getD v 0 + 1 < k
  · exact h3 _ (by omega) hj hin
  · obtain ⟨S, hvS, hS⟩ := hin
    have := (hS v hvS).2.2
    have h4 := dg_le (nbG n es) S v
    have h5 := nb_length hc hv
    omega
theorem nums_unique {nb : Int → List Int} {n : Nat} {a b : List Int} (ha : IsNums nb n a) (hb : IsNums nb n b) : a = b := by
  refine List.ext_getElem? fun v => ?_
  by_cases hv : v < n
  · have h1 : a[v]? = some (a.getD v 0) := by rw [List.getD_eq_getElem?_getD, List.getElem?_eq_getElem (by rw [ha.1]; exact hv)]; rfl
    have h2 : b[v]? = some (b.getD v 0) := by rw [List.getD_eq_getElem?_getD, List.getElem?_eq_getElem (by rw [hb.1]; exact hv)]; rfl
    rw [h1, h2]
    obtain ⟨_, a1, a2⟩ := ha.2 v hv
    obtain ⟨_, b1, b2⟩ := hb.2 v hv
    generalize a.getD v 0 = x at *
    generalize b.getD v 0 = y at *
    rcases Int.lt_trichotomy x y with h | h | h
    · exact absurd (inC_mono b1 (by omega)) a2
    · rw [h]
    · exact absurd (inC_mono a1 (by omega)) b2
  · rw [List.getElem?_eq_none (by rw [ha.1]; omega), List.getElem?_eq_none (by rw [hb.1]; omega)]

/-- What Numbers returns. -/
def NumsL (n : Int) (es : List (Int × Int)) (l : List Int) : Prop := (chkG n es = 0 → IsNums (nbG n es) n.toNat l) ∧ (chkG n es ≠ 0 → l = [])
theorem numsL_unique {n : Int} {es : List (Int × Int)} {a b : List Int} (ha : NumsL n es a) (hb : NumsL n es b) : a = b := by
  by_cases hz : chkG n es = 0
  · exact nums_unique (ha.1 hz) (hb.1 hz)
  · rw [ha.2 hz, hb.2 hz]
set_option maxRecDepth 100000 in
set_option maxHeartbeats 4000000 in
theorem rNumbers_any (A : Option Addr) (m c : Nat) (n : Int) (es : List (Int × Int)) (w : World) (h : RE w A m es) (hm : m ≤ 68719476736) :
    Calls Tryd.prog 15 #[.agg #[.int .i64 n, .slice A m c]] w fun e w' => ∃ l, RetL w l (chkG n es) e w' ∧ NumsL n es l := by
  have ck := fun w h => rcheck_any A m c n es w h (by omega)
  by_cases hz : chkG n es = 0
  · obtain ⟨z0, z1, _⟩ := chkG_zero hz
    obtain ⟨n, rfl⟩ := Int.eq_ofNat_of_zero_le z0
    have hdef : ∀ l k, NumTo (nbG n es) n k l → n ≤ k → NumsL n es l := fun l k h1 h2 => ⟨fun _ => numTo_done hz h1 h2, fun h => absurd hz h⟩
    rw [hz] at ck ⊢
    clear hz
    replace hdef := Lib.hid hdef
    replace ck := Lib.hid ck
    have hst := Lib.hid (numTo_start (nbG n es) n)
    go_enter Tryd.func15, Tryd.ntmps15
    go_wp2_with fail
    refine (ck.out _ (h.alloc _)).mono ?_
    rintro e w1 ⟨rfl, hb1⟩
    simp only [World.size_alloc] at hb1
    have hG : Blk w1 w.heap.size 25 #[.int .i64 n, .slice A m c] := Blk.below (Blk.new _ _ _) hb1 (by simp)
    have hb0 : Below w.heap.size w w1 := ((Below.refl _ _).alloc (Nat.le_refl _) _).trans (hb1.mono (by simp))
    have g0 := Blk.cell hG 0
    have g1 := Blk.cell hG 1
    simp at g0 g1
    have hlt1 := hG.lt
    have hs0 := hb0.size
    clear hb1
    go_wp2_with (at_make; refine wpList_makeI rfl _ _ rfl rfl rfl (n := n) (by omega) (by omega) (by omega) ?_; intro w2 hA2 hg2)
    replace hG := Blk.grown hG hg2 (by simp)
    have hb2 := hb0.trans (grown_none_below hg2 _ hs0)
    have hs2 := hg2.size
    clear hg2 hb0 g0 g1
    generalize hgb : w1.heap.size = gb at *
    replace hgb : gb = gb := rfl
    have hgl : w.heap.size < gb := by omega
    clear hgb
    generalize List.replicate n (0 : Int) = ns0 at *
    go_loopw [6] (fun i wr => ∃ (k : Nat) (ns : List Int), 1 ≤ k ∧ (k ≤ n ∨ k = 1) ∧ i = .int .i64 k ∧ AI wr gb ns ∧ Hid (NumTo (nbG n es) n k ns) ∧ Blk wr w.heap.size 25 #[.int .i64 n, .slice A m c] ∧ Below w.heap.size w wr) (fun i _ => n + 1 - (intOf i).toNat)
    case atStart => exact ⟨1, ns0, Nat.le_refl _, .inr rfl, by go_num, hA2, hst, hG, hb2⟩
    case round =>
      obtain ⟨k, ns, hk1, hkn, rfl, hA, hN, hG2, hb⟩ := hrel
      clear hA2 hst hG hb2
      have g0 := Blk.cell hG2 0
      have g1 := Blk.cell hG2 1
      simp at g0 g1
      have hsz := hb.size
      have hGl := hG2.lt
      have hAl := hA.lt
      by_cases hlt : k < n
      · have hRE := RE.below h hb (Nat.le_refl _)
        go_wp2_with fail
        refine (rcore_any A m c n es k _ hRE hm (by omega)).mono ?_
        rintro e w3 ⟨l, ⟨A3, n3, c3, rfl, hn3, hr3, hb3, hf3⟩, hv, hin⟩
        replace hA := AI.below hA hb3 hAl
        replace hG2 := Blk.below hG2 hb3 hGl
        have hs3 := hb3.size
        have hb4 := hb.trans (hb3.mono hsz)
        have hn64 : n3 ≤ 64 := by have := vld_length hv; have := hr3.len; omega
        have hlen3 := Lib.hid hr3.len
        have hstep := Lib.hid (numTo_step hN.out (by omega) hin)
        have hnl := Lib.hid hN.out.1
        replace hv := Lib.hid hv
        replace hf3 : ∀ ad, A3 = some ad → gb ≠ ad.block := fun ad e => by have := hf3 ad e; omega
        clear hin hb3 g0 g1 hRE hN hb
        go_wp2_with fail
        obtain ⟨wo, rfl⟩ : ∃ wo : World, wo = w3 := ⟨_, rfl⟩
        go_loopw [27] (fun i wr => ∃ j : Nat, j ≤ n3 ∧ i = .int .i64 j ∧ AI wr gb (setA ns (l.take j) k) ∧ Blk wr w.heap.size 25 #[.int .i64 n, .slice A m c] ∧ wo.grownBy wr (some gb)) (fun i _ => n3 - (intOf i).toNat)
        case atStart => exact ⟨0, Nat.zero_le _, rfl, hA, hG2, World.grownBy.refl _ _⟩
        case round =>
          obtain ⟨j, hj, rfl, hA4, hG4, hg4⟩ := hrel
          clear hA hG2
          by_cases hlt2 : j < n3
          · obtain ⟨ad, x, rfl, hx, hcx⟩ := (RI.kept hr3 hg4 (fun ad e he => hf3 ad e (by injection he with he; exact he.symm))).get hlt2
            have hx2 := hv.out.1 x (mem_at hx.out)
            obtain ⟨y, rfl⟩ := Int.eq_ofNat_of_zero_le hx2.1
            have hst2 := setA_take (ns := ns) (k := (k : Int)) hx.out
            rw [Int.toNat_natCast] at hst2
            replace hst2 := Lib.hid hst2
            have hlen : (setA ns (l.take j) k).length = n := by rw [setA_length, hnl.out]
            have hyn : y < n := by omega
            have hcy := hA4.cell (i := y) (by rw [hlen]; exact hyn)
            have hfy := hA4.frozen y
            have hset := hA4.set y (k : Int)
            replace hlen : n ≤ (setA ns (l.take j) k).length := by omega
            generalize setA ns (l.take j) k = ns2 at *
            go_wp2_with fail
            go_roundw
            case rel => exact ⟨j + 1, by omega, by go_num, by rw [hst2.out]; exact hset, Blk.far (p := ⟨gb, y, none⟩) hG4 (by simp; omega) _, grown_setB hg4 y _⟩
            case measure => simp [intOf]; omega
          · have hA5 : AI wr gb (setA ns l k) := by rwa [List.take_of_length_le (by rw [hlen3.out]; omega)] at hA4
            have hb5 : Below w.heap.size w wr := hb4.grown hg4 (by have := hb4.size; omega) (fun q hq => by injection hq with hq; omega)
            clear hA4 hg4 hb4
            go_wp2_with fail
            go_roundw
            case rel => exact ⟨k + 1, setA ns l k, by omega, by omega, by go_num, hA5, hstep, hG4, hb5⟩
            case measure => simp [intOf]; omega
      · have hfin : ∃ l, RetL w l 0 (.returned (.tuple #[.slice (some ⟨gb, 0, none⟩) n n, .int .i64 0])) wr ∧ NumsL n es l :=
          ⟨ns, ⟨_, n, n, rfl, Nat.le_refl _, hA.ri hN.out.1.symm, hb, fun ad e => by injection e with e; subst e; exact Nat.le_of_lt hgl⟩, hdef.out ns k hN.out (by omega)⟩
        replace hfin := Lib.hid hfin
        clear hA hb
        go_wp2_with fail
        go_ret2
        exact hfin.out
  · have hdef : NumsL n es [] := ⟨fun h => absurd h hz, fun _ => rfl⟩
    have hz' : (chkG n es != 0) = true := by simpa using hz
    clear hz
    generalize chkG n es = z at *
    replace hdef := Lib.hid hdef
    replace ck := Lib.hid ck
    go_enter Tryd.func15, Tryd.ntmps15
    go_wp2_with fail
    refine (ck.out _ (h.alloc _)).mono ?_
    rintro e w1 ⟨rfl, hb1⟩
    simp only [World.size_alloc] at hb1
    have hb0 : Below w.heap.size w w1 := ((Below.refl _ _).alloc (Nat.le_refl _) _).trans (hb1.mono (by simp))
    clear hb1
    go_wp2
    go_ret2
    exact ⟨[], ⟨none, 0, 0, rfl, Nat.le_refl _, RI.none_, hb0, Fr.none_⟩, hdef.out⟩
end Go.Proofs.YticekkjambkifaaDoor

/- Plain laws: the sets of neighbours as bits are the lists of neighbours. -/
set_option linter.unusedVariables false
namespace Go.Proofs.YticekkjambkifaaDoor
open CoBit

/-- Bit u of row v after an edge has been put in. -/
theorem putE_bit {N : Nat} {rows : List Nat} {a b : Nat} (hab : a < b) (hb : b < N) (hr : rows.length = N) (v u : Nat) :
    ((putE N rows ((a : Int), (b : Int))).getD v 0).testBit u = ((rows.getD v 0).testBit u || (decide (v = a) && decide (u = b)) || (decide (v = b) && decide (u = a))) := by
  rw [putE_ok hab hb]
  have get : ∀ (rows : List Nat) (i x v : Nat), i < rows.length → (rows.set i x).getD v 0 = if v = i then x else rows.getD v 0 := by
    intro rows i x v hi
    rw [List.getD_eq_getElem?_getD, List.getD_eq_getElem?_getD]
    by_cases h : v = i
    · subst h
      rw [if_pos rfl, List.getElem?_set_self hi]; rfl
    · rw [if_neg h, List.getElem?_set_ne (by omega)]
  rw [get _ b _ v (by rw [List.length_set]; omega), get rows a _ b (by omega), if_neg (show ¬ b = a by omega), get rows a _ v (by omega)]
  by_cases h1 : v = b
  · subst h1
    rw [if_pos rfl, Nat.testBit_or, Nat.testBit_two_pow]
    have : ¬ v = a := by omega
    simp [this, eq_comm]
  · rw [if_neg h1]
    by_cases h2 : v = a
    · subst h2
      rw [if_pos rfl, Nat.testBit_or, Nat.testBit_two_pow]
      simp [h1, eq_comm]
    · rw [if_neg h2]
      simp [h1, h2]
theorem rows_bit {N : Nat} {es : List (Int × Int)} (he : ∀ e ∈ es, 0 ≤ e.1 ∧ e.1 < e.2 ∧ e.2 < (N : Int)) (v u : Nat) :
    (((rowsL N es).getD v 0).testBit u = true) ↔ (((v : Int), (u : Int)) ∈ es ∨ ((u : Int), (v : Int)) ∈ es) := by
  have h : ∀ (es : List (Int × Int)) (rows : List Nat), rows.length = N → (∀ e ∈ es, 0 ≤ e.1 ∧ e.1 < e.2 ∧ e.2 < (N : Int)) →
      ((((es.foldl (putE N) rows).getD v 0).testBit u = true) ↔ (rows.getD v 0).testBit u = true ∨ ((v : Int), (u : Int)) ∈ es ∨ ((u : Int), (v : Int)) ∈ es) := by
    intro es
    induction es with
    | nil => intro rows _ _; simp
    | cons e es ih =>
      intro rows hr hes
      obtain ⟨a, b⟩ := e
      obtain ⟨h0, h1, h2⟩ := hes (a, b) (by simp)
      simp only at h0 h1 h2
      obtain ⟨a, rfl⟩ := Int.eq_ofNat_of_zero_le h0
      obtain ⟨b, rfl⟩ := Int.eq_ofNat_of_zero_le (show 0 ≤ b by omega)
      rw [List.foldl_cons, ih _ (by rw [putE_length]; exact hr) (fun x hx => hes x (by simp [hx])), putE_bit (by omega) (by omega) hr]
      simp only [Bool.or_eq_true, Bool.and_eq_true, decide_eq_true_eq, List.mem_cons, Prod.mk.injEq]
      constructor
      · rintro (((h | ⟨rfl, rfl⟩) | ⟨rfl, rfl⟩) | h | h)
        · exact .inl h
        · exact .inr (.inl (.inl ⟨rfl, rfl⟩))
        · exact .inr (.inr (.inl ⟨rfl, rfl⟩))
        · exact .inr (.inl (.inr h))
        · exact .inr (.inr (.inr h))
      · rintro (h | (⟨h3, h4⟩ | h) | (⟨h3, h4⟩ | h))
        · exact .inl (.inl (.inl h))
        · exact .inl (.inl (.inr ⟨by omega, by omega⟩))
        · exact .inr (.inl h)
        · exact .inl (.inr ⟨by omega, by omega⟩)
        · exact .inr (.inr h)
  unfold rowsL
  rw [h es _ (by simp) he]
  have : (List.replicate N 0).getD v 0 = 0 := by
    rw [List.getD_eq_getElem?_getD, List.getElem?_replicate]; split <;> rfl
  rw [this]
  simp
theorem mem_nbl {es : List (Int × Int)} {v x : Int} : x ∈ nbl es v ↔ (v, x) ∈ es ∨ (x, v) ∈ es := by
  unfold nbl
  rw [List.mem_flatMap]
  constructor
  · rintro ⟨⟨a, b⟩, he, hx⟩
    simp only [List.mem_append] at hx
    rcases hx with hx | hx
    · split at hx
      · rename_i h; simp at hx h; subst h; subst hx; exact .inl he
      · cases hx
    · split at hx
      · rename_i h; simp at hx h; subst h; subst hx; exact .inr he
      · cases hx
  · rintro (h | h)
    · exact ⟨_, h, by simp⟩
    · exact ⟨_, h, by simp⟩
theorem mem_nts {l : List Nat} {x : Int} : x ∈ nts l ↔ ∃ i, i ∈ l ∧ (i : Int) = x := by unfold nts; rw [List.mem_map]
theorem mem_nts' {l : List Nat} {i : Nat} : (i : Int) ∈ nts l ↔ i ∈ l := by
  rw [mem_nts]
  constructor
  · rintro ⟨j, hj, h⟩; rwa [show i = j by omega]
  · exact fun h => ⟨i, h, rfl⟩
theorem nts_sorted {l : List Nat} (h : l.Pairwise (· < ·)) : (nts l).Pairwise (· < ·) := by
  unfold nts
  rw [List.pairwise_map]
  exact h.imp fun h => by omega
theorem row_nb {n : Nat} {es : List (Int × Int)} (hc : chkG n es = 0) (hn : n ≤ 64) (v : Nat) : nts (bl ((rowsL n es).getD v 0)) = nbG n es v := by
  have he := chkE_lt (chkG_zero hc).2.2
  refine sorted_ext (nts_sorted (bl_sorted _)) (nbG_sorted _ _ _) fun x => ?_
  have h1 : x ∈ nbG n es v ↔ x ∈ nbl es v := by unfold nbG; rw [if_pos hc, mem_of]
  rw [h1, mem_nbl, mem_nts]
  constructor
  · rintro ⟨i, hi, rfl⟩
    exact (rows_bit he v i).1 (mem_bl.1 hi).2
  · intro h
    have hx : 0 ≤ x ∧ x < n := by
      rcases h with h | h
      · have := he _ h; simp at this; omega
      · have := he _ h; simp at this; omega
    obtain ⟨i, rfl⟩ := Int.eq_ofNat_of_zero_le hx.1
    exact ⟨i, mem_bl.2 ⟨by omega, (rows_bit he v i).2 h⟩, rfl⟩
theorem bl_and (x y : Nat) : bl (x &&& y) = (bl x).filter fun i => y.testBit i := by
  unfold bl bitsIn
  rw [List.filter_filter]
  refine List.filter_congr fun i _ => ?_
  rw [Nat.testBit_and, Bool.and_comm]
/-- How many neighbours lie in a set. -/
theorem pop_dg {n : Nat} {es : List (Int × Int)} (hc : chkG n es = 0) (hn : n ≤ 64) (v y : Nat) (l : List Int) (hl : ∀ i, i < n → (y.testBit i = true ↔ (i : Int) ∈ l)) : pop ((rowsL n es).getD v 0 &&& y) = dg (nbG n es) l v := by
  have he := chkE_lt (chkG_zero hc).2.2
  rw [pop_bl, bl_and, dg, ← row_nb hc hn v, nts, List.filter_map, List.length_map]
  congr 1
  refine List.filter_congr fun i hi => ?_
  have hb := (rows_bit he v i).1 (mem_bl.1 hi).2
  have hin : i < n := by
    rcases hb with h | h
    · have := he _ h; simp at this; omega
    · have := he _ h; simp at this; omega
  rw [Bool.eq_iff_iff, hl i hin]
  simp
end Go.Proofs.YticekkjambkifaaDoor

/- The reference's cores (cohesionref10), third part: the degeneracy, and the order. -/
set_option linter.unusedVariables false
namespace Go.Proofs.YticekkjambkifaaDoor
open Go.RowKit

/-- The greatest of numbers that are not negative. -/
def maxL (l : List Int) : Int := l.foldl (fun a x => max a x) 0
theorem maxL_take {l : List Int} {k : Nat} {x : Int} (h : l[k]? = some x) : maxL (l.take (k + 1)) = max (maxL (l.take k)) x := by unfold maxL; rw [take_at h, List.foldl_append]; rfl
/-- v is taken before w: it has fewer neighbours in L, or it is not greater. -/
def bef (nb : Int → List Int) (L : List Int) (v w : Int) : Prop := dg nb L v < dg nb L w ∨ (dg nb L v = dg nb L w ∧ v ≤ w)
/-- v is the one of L that is taken. -/
def isBest (nb : Int → List Int) (L : List Int) (v : Int) : Prop := v ∈ L ∧ ∀ w ∈ L, bef nb L v w
/-- The list is the beginning of the order of the cores. -/
def PS (nb : Int → List Int) (n : Nat) (o : List Int) : Prop := ∀ i v, o[i]? = some v → isBest nb (rst n (o.take i)) v
theorem ps_nil (nb : Int → List Int) (n : Nat) : PS nb n [] := fun i v h => by simp at h
theorem ps_push {nb : Int → List Int} {n : Nat} {o : List Int} {v : Int} (h : PS nb n o) (hv : isBest nb (rst n o) v) : PS nb n (o ++ [v]) := by
  intro i x hx
  rcases Nat.lt_trichotomy i o.length with hi | hi | hi
  · rw [List.getElem?_append_left hi] at hx
    rw [List.take_append_of_le_length (by omega)]
    exact h i x hx
  · subst hi
    rw [List.getElem?_append_right (Nat.le_refl _)] at hx
    simp at hx
    subst hx
    rw [List.take_append_of_le_length (Nat.le_refl _), List.take_length]
    exact hv
  · rw [List.getElem?_eq_none (by simp; omega)] at hx
    cases hx
theorem bef_antisymm {nb : Int → List Int} {L : List Int} {v w : Int} (h1 : bef nb L v w) (h2 : bef nb L w v) : v = w := by
  unfold bef at h1 h2
  omega
theorem best_unique {nb : Int → List Int} {L : List Int} {v w : Int} (h1 : isBest nb L v) (h2 : isBest nb L w) : v = w := bef_antisymm (h1.2 w h2.1) (h2.2 v h1.1)
theorem ps_unique {nb : Int → List Int} {n : Nat} {a b : List Int} (ha : PS nb n a) (hb : PS nb n b) (hl : a.length = b.length) : a = b := by
  have h : ∀ i, a.take i = b.take i := by
    intro i
    induction i with
    | zero => rfl
    | succ i ih =>
      by_cases hi : i < a.length
      · have e1 : a[i]? = some a[i] := List.getElem?_eq_getElem hi
        have e2 : b[i]? = some (b[i]'(by omega)) := List.getElem?_eq_getElem (by omega)
        have h1 := ha i _ e1
        have h2 := hb i _ e2
        rw [ih] at h1
        have := best_unique h1 h2
        rw [take_at e1, take_at e2, ih, this]
      · rw [List.take_of_length_le (by omega), List.take_of_length_le (by omega)]
        have := ih
        rw [List.take_of_length_le (by omega), List.take_of_length_le (by omega)] at this
        exact this
  have := h a.length
  rwa [List.take_length, hl, List.take_length] at this
/-- What the search for the next node has found among the first j. -/
def Srch (nb : Int → List Int) (L : List Int) (j : Nat) (b le : Int) : Prop := (j = 0 ∧ b = -1 ∧ le = 0) ∨ (0 < j ∧ 0 ≤ b ∧ le = dg nb L b ∧ b ∈ L.take j ∧ ∀ w ∈ L.take j, bef nb L b w)
theorem srch_first {nb : Int → List Int} {L : List Int} {j : Nat} {b le v : Int} (h : Srch nb L j b le) (hs : L.Pairwise (· < ·)) (hv : L[j]? = some v) (h0 : 0 ≤ v) (ht : b < 0 ∨ (dg nb L v : Int) < le) : Srch nb L (j + 1) v (dg nb L v) := by
  refine .inr ⟨by omega, h0, rfl, by rw [take_at hv]; simp, fun w hw => ?_⟩
  rw [take_at hv] at hw
  rcases List.mem_append.1 hw with hw | hw
  · rcases h with ⟨rfl, _⟩ | ⟨_, hb0, hle, _, hb⟩
    · simp at hw
    · have := hb w hw
      unfold bef at this ⊢
      omega
  · rw [List.mem_singleton.1 hw]; exact .inr ⟨rfl, Int.le_refl _⟩
theorem srch_skip {nb : Int → List Int} {L : List Int} {j : Nat} {b le v : Int} (h : Srch nb L j b le) (hs : L.Pairwise (· < ·)) (hv : L[j]? = some v) (ht : ¬ (b < 0 ∨ (dg nb L v : Int) < le)) : Srch nb L (j + 1) b le := by
  rcases h with ⟨rfl, rfl, _⟩ | ⟨h1, hb0, hle, hm, hb⟩
  · omega
  · refine .inr ⟨by omega, hb0, hle, by rw [take_at hv]; simp [hm], fun w hw => ?_⟩
    rw [take_at hv] at hw
    rcases List.mem_append.1 hw with hw | hw
    · exact hb w hw
    · rw [List.mem_singleton.1 hw]
      have hlt : b < v := by
        have h2 : (L.take j ++ [v]).Pairwise (· < ·) := by rw [← take_at hv]; exact hs.take
        rw [List.pairwise_append] at h2
        exact h2.2.2 b hm v (by simp)
      unfold bef
      omega
theorem srch_done {nb : Int → List Int} {L : List Int} {j : Nat} {b le : Int} (h : Srch nb L j b le) (hj : L.length ≤ j) (h0 : 0 < L.length) : 0 ≤ b ∧ isBest nb L b := by
  rcases h with ⟨rfl, _⟩ | ⟨_, hb0, _, hm, hb⟩
  · omega
  · rw [List.take_of_length_le hj] at hm hb
    exact ⟨hb0, hm, hb⟩
theorem ps_range {nb : Int → List Int} {n : Nat} {o : List Int} (h : PS nb n o) : o.Nodup ∧ ∀ x ∈ o, 0 ≤ x ∧ x < n := by
  have hm : ∀ (i : Nat) (v : Int), o[i]? = some v → (0 ≤ v ∧ v < n) ∧ v ∉ o.take i := fun i v hv => mem_rst.1 (h i v hv).1
  refine ⟨?_, fun x hx => ?_⟩
  · rw [List.nodup_iff_pairwise_ne, List.pairwise_iff_getElem]
    intro i j hi hj hij
    have := (hm j _ (List.getElem?_eq_getElem hj)).2
    rintro e
    rw [← e] at this
    exact this (List.mem_take_iff_getElem.2 ⟨i, by omega, rfl⟩)
  · obtain ⟨i, hi, rfl⟩ := List.getElem_of_mem hx
    exact (hm i _ (List.getElem?_eq_getElem hi)).1
theorem nodup_length {n : Nat} {o : List Int} (hn : o.Nodup) (hr : ∀ x ∈ o, 0 ≤ x ∧ x < n) : o.length ≤ n := by
  have hp : o.Perm ((rng n).filter fun x => decide (x ∈ o)) := by
    refine (List.perm_ext_iff_of_nodup hn (((rng_sorted n).imp fun h => by omega).filter _)).2 fun x => ?_
    rw [List.mem_filter, mem_rng]
    simp
    exact fun hx => hr x hx
  rw [hp.length_eq]
  exact Nat.le_trans (List.length_filter_le _ _) (by rw [rng_length]; exact Nat.le_refl _)
theorem rst_empty {n : Nat} {o : List Int} (h : rst n o = []) (hn : o.Nodup) (hr : ∀ x ∈ o, 0 ≤ x ∧ x < n) : o.length = n := by
  have hp : o.Perm (rng n) := by
    refine (List.perm_ext_iff_of_nodup hn ((rng_sorted n).imp fun h => by omega)).2 fun x => ⟨fun hx => mem_rng.2 (hr x hx), fun hx => ?_⟩
    by_cases hxo : x ∈ o
    · exact hxo
    · have : x ∈ rst n o := mem_rst.2 ⟨mem_rng.1 hx, hxo⟩
      rw [h] at this
      cases this
  rw [hp.length_eq, rng_length]
/-- The order of the cores. -/
def IsOrd (n : Int) (es : List (Int × Int)) (o : List Int) : Prop := (chkG n es = 0 → PS (nbG n es) n.toNat o ∧ o.length = n.toNat) ∧ (chkG n es ≠ 0 → o = [])
theorem isOrd_unique {n : Int} {es : List (Int × Int)} {a b : List Int} (ha : IsOrd n es a) (hb : IsOrd n es b) : a = b := by
  by_cases hz : chkG n es = 0
  · exact ps_unique (ha.1 hz).1 (hb.1 hz).1 (by rw [(ha.1 hz).2, (hb.1 hz).2])
  · rw [ha.2 hz, hb.2 hz]
theorem rst_length_push {n : Nat} {p : List Int} {v : Int} (h : v ∈ rst n p) : (rst n (p ++ [v])).length < (rst n p).length := by
  rw [← rst_push, minus_sorted (rst_sorted n p)]
  refine Nat.lt_of_le_of_ne (List.length_filter_le _ _) fun e => ?_
  have := List.length_filter_eq_length_iff.1 e v h
  simp at this
end Go.Proofs.YticekkjambkifaaDoor

namespace Go.Proofs.YticekkjambkifaaDoor
open Go.RowKit

/-- The list has each number from 0 to n - 1 once. -/
def OrdI (l : List Int) (n : Int) : Prop := (l.length : Int) = n ∧ Vld (ofL l) n ∧ ((ofL l).length : Int) = n
instance (l : List Int) (n : Int) : Decidable (OrdI l n) := by unfold OrdI; infer_instance
theorem put_length_new {l : List Int} {x : Int} (h : x ∉ l) : (putL l x).length = l.length + 1 := by
  induction l with
  | nil => rfl
  | cons y l ih =>
    simp at h
    unfold putL
    split
    · simp [ih h.2]
    · rw [if_neg (by omega)]; simp
theorem of_cons (x : Int) (l : List Int) : ofL (x :: l) = putL (ofL l) x := sorted_ext (of_sorted _) (put_sorted (of_sorted l)) fun y => by rw [mem_of, mem_put, mem_of, List.mem_cons]
theorem put_id {l : List Int} (h : l.Pairwise (· < ·)) {x : Int} (hx : x ∈ l) : putL l x = l := sorted_ext (put_sorted h) h fun y => by
  rw [mem_put]
  constructor
  · rintro (rfl | h)
    · exact hx
    · exact h
  · exact .inr
theorem of_length_nodup (l : List Int) : (ofL l).length = l.length ↔ l.Nodup := by
  induction l with
  | nil => simp [ofL]
  | cons x l ih =>
    rw [of_cons, List.nodup_cons]
    by_cases hx : x ∈ l
    · rw [put_id (of_sorted l) (mem_of.2 hx)]
      have := of_length l
      constructor
      · intro h; simp at h; omega
      · intro h; exact absurd hx h.1
    · rw [put_length_new (fun h => hx (mem_of.1 h)), List.length_cons]
      constructor
      · intro h; exact ⟨hx, ih.1 (by omega)⟩
      · intro h; rw [ih.2 h.2]
/-- The list has each number from 0 to n - 1 once, in plain words. -/
def Per (l : List Int) (n : Nat) : Prop := l.length = n ∧ l.Nodup ∧ ∀ x ∈ l, 0 ≤ x ∧ x < n
theorem ordI_per {l : List Int} {n : Nat} : OrdI l n ↔ Per l n := by
  unfold OrdI Per
  constructor
  · rintro ⟨h1, h2, h3⟩
    exact ⟨by omega, (of_length_nodup l).1 (by omega), fun x hx => h2.1 x (mem_of.2 hx)⟩
  · rintro ⟨h1, h2, h3⟩
    have := (of_length_nodup l).2 h2
    exact ⟨by omega, ⟨fun x hx => h3 x (mem_of.1 hx), of_sorted l⟩, by omega⟩

/-- How many neighbours stand behind each node. -/
def IsLater (nb : Int → List Int) (n : Nat) (o ls : List Int) : Prop := ls.length = n ∧ ∀ i v, o[i]? = some v → ls.getD v.toNat 0 = (dg nb (o.drop (i + 1)) v : Int)
def LaterTo (nb : Int → List Int) (n : Nat) (o ls : List Int) (k : Nat) : Prop := ls.length = n ∧ ∀ (i : Nat) (v : Int), i < k → o[i]? = some v → ls.getD v.toNat 0 = (dg nb (o.drop (i + 1)) v : Int)
theorem nodup_at {o : List Int} (h : o.Nodup) {i j : Nat} {v : Int} (hi : o[i]? = some v) (hj : o[j]? = some v) : i = j := by
  obtain ⟨h1, e1⟩ := List.getElem?_eq_some_iff.1 hi
  obtain ⟨h2, e2⟩ := List.getElem?_eq_some_iff.1 hj
  have hp := List.pairwise_iff_getElem.1 h
  rcases Nat.lt_trichotomy i j with h | h | h
  · exact absurd (e1.trans e2.symm) (hp i j h1 h2 h)
  · exact h
  · exact absurd (e2.trans e1.symm) (hp j i h2 h1 h)
theorem later_step {nb : Int → List Int} {n : Nat} {o ls : List Int} {k : Nat} {v : Int} (h : LaterTo nb n o ls k) (ho : Per o n) (hv : o[k]? = some v) : LaterTo nb n o (ls.set v.toNat (dg nb (o.drop (k + 1)) v : Nat)) (k + 1) := by
  refine ⟨by rw [List.length_set]; exact h.1, fun i u hi hu => ?_⟩
  have hv0 := ho.2.2 v (mem_at hv)
  have hu0 := ho.2.2 u (mem_at hu)
  rw [List.getD_eq_getElem?_getD]
  by_cases he : i = k
  · subst he
    rw [hv] at hu
    injection hu with hu
    subst hu
    rw [List.getElem?_set_self (by rw [h.1]; omega)]
    rfl
  · have hne : u.toNat ≠ v.toNat := fun e => he (nodup_at ho.2.1 hu (by rw [hv, show v = u by omega]))
    rw [List.getElem?_set_ne (by omega), ← List.getD_eq_getElem?_getD]
    exact h.2 i u (by omega) hu

end Go.Proofs.YticekkjambkifaaDoor

/- What is made of numbers (cohesionmake): the deck. -/
set_option linter.unusedVariables false
namespace Go.Proofs.YticekkjambkifaaDoor
open Go.RowKit

set_option maxHeartbeats 400000 in
theorem mkmod_any (n k : Int) (w : World) (hk : 0 < k) (hk2 : k ≤ 4611686018427387904) :
    Calls Tryd.prog 49 #[.int .i64 n, .int .i64 k] w fun e w' => e = .returned (.int .i64 (n % k)) ∧ w = w' := by
  obtain ⟨T, hT⟩ : ∃ T, n.tmod k = T := ⟨_, rfl⟩
  have h1 : T < k := hT ▸ Int.tmod_lt_of_pos n hk
  have h2 : -k < T := by
    have := Int.tmod_lt_of_pos (-n) hk
    rw [Int.neg_tmod, hT] at this
    omega
  have h3 : Hid (n % k = (T + k) % k) := Lib.hid (by
    rw [Int.add_emod_right, ← hT]
    have e1 := Int.mul_tdiv_add_tmod n k
    conv => lhs; rw [← e1]
    rw [Int.mul_add_emod_self_left])
  go_enter Tryd.func49, Tryd.ntmps49
  go_wp2
  go_ret
  exact ⟨retInt h3.out.symm, rfl⟩

/-- A deck lies in block g. -/
def Dk (w : World) (g : Nat) : Prop := ∃ (A : Option Addr) (n c : Nat) (xs : List Int) (i : Nat), Blk w g 87 #[.slice A n c, .int .i64 i] ∧ Reads w g 1 A n (ints xs) ∧ i ≤ n ∧ n ≤ c ∧ n ≤ 1152921504606846976
theorem Dk.lt {w : World} {g : Nat} (h : Dk w g) : g < w.heap.size := by obtain ⟨_, _, _, _, _, h, _⟩ := h; exact h.lt
theorem Dk.below {w w' : World} {g b : Nat} (h : Dk w g) (hb : Below b w w') (hg : g < b) : Dk w' g := by
  obtain ⟨A, n, c, xs, i, h1, h2, h3⟩ := h
  exact ⟨A, n, c, xs, i, Blk.below h1 hb hg, Reads.below h2 hb (by omega), h3⟩
theorem Dk.drewN {w : World} {g : Nat} (h : Dk w g) (n : Nat) : Dk (w.drewN n) g := h
theorem Dk.drew {w : World} {g : Nat} (h : Dk w g) : Dk w.drew g := h
theorem Dk.alloc {w : World} {g : Nat} (h : Dk w g) (o : Obj) : Dk (w.alloc o) g := h.below ((Below.refl _ _).alloc (Nat.le_refl w.heap.size) o) h.lt
theorem Dk.grown {w w' : World} {g : Nat} {row : Option Nat} (h : Dk w g) (hg : w.grownBy w' row) (hr : ∀ k, row = some k → g < k) : Dk w' g :=
  h.below (b := g + 1) ((Below.refl _ w).grown hg h.lt (fun k hk => hr k hk)) (Nat.lt_succ_self g)
theorem grown_drewN {w w' : World} {row : Option Nat} (h : w.grownBy w' row) (n : Nat) : w.grownBy (w'.drewN n) row := ⟨h.os, h.tape, h.output, h.size, h.block⟩
theorem grown_drew {w w' : World} {row : Option Nat} (h : w.grownBy w' row) : w.grownBy w'.drew row := ⟨h.os, h.tape, h.output, h.size, h.block⟩
theorem grown_set {w w' : World} {g : Nat} (h : w.grownBy w' (some g)) (i : Nat) (u : Value) : w.grownBy (w'.setCell ⟨g, i, none⟩ u) (some g) :=
  ⟨h.os, h.tape, h.output, by simpa [World.setCell] using h.size, fun k hk hne => (Below.heap_setCell w' ⟨g, i, none⟩ u k (fun e => hne (by rw [e]))).trans (h.block k hk hne)⟩
theorem grown_below {w w' w2 : World} {g b : Nat} (h : w.grownBy w' (some g)) (hb : Below b w' w2) (hs : w.heap.size ≤ b) : w.grownBy w2 (some g) :=
  ⟨hb.os.trans h.os, hb.tape.trans h.tape, hb.output.trans h.output, Nat.le_trans h.size hb.size, fun k hk hne => (hb.block k (by omega)).trans (h.block k hk hne)⟩
theorem grown_trans {w w' w2 : World} {row : Option Nat} (h : w.grownBy w' row) (h2 : w'.grownBy w2 row) : w.grownBy w2 row :=
  ⟨h2.os.trans h.os, h2.tape.trans h.tape, h2.output.trans h.output, Nat.le_trans h.size h2.size, fun k hk hne => (h2.block k (Nat.lt_of_lt_of_le hk h.size) hne).trans (h.block k hk hne)⟩
theorem grown_is_below {w w' : World} {g B : Nat} (h : w.grownBy w' (some g)) (hB : B ≤ g) (hs : B ≤ w.heap.size) : Below B w w' := (Below.refl _ _).grown h hs (fun k hk => by injection hk with hk; omega)

set_option maxHeartbeats 400000 in
theorem new_any (A : Option Addr) (n c : Nat) (xs : List Int) (w : World) (h : RI w A n xs) (hnc : n ≤ c) (hn : n ≤ 1152921504606846976) :
    Calls Tryd.prog 13 #[.slice A n c] w fun e w' => e = .returned (.pointer (some ⟨w.heap.size, 0, none⟩)) ∧ Dk w' w.heap.size ∧ Below w.heap.size w w' ∧ w'.heap.size = w.heap.size + 1 := by
  have hd : Dk (w.alloc (.cells #[.slice A n c, .int .i64 (0 : Nat)] 87)) w.heap.size := ⟨A, n, c, xs, 0, Blk.new _ _ _, Reads.alloc h (Nat.le_refl _) _, Nat.zero_le _, hnc, hn⟩
  replace hd := Lib.hid hd
  go_enter Tryd.func13, Tryd.ntmps13
  go_wp2
  go_ret
  exact ⟨rfl, hd.out, by go_grown, by simp⟩

set_option maxHeartbeats 1000000 in
theorem next_any (g : Nat) (k : Int) (w : World) (h : Dk w g) (hk : k ≤ 4611686018427387904) :
    Calls Tryd.prog 25 #[.pointer (some ⟨g, 0, none⟩), .int .i64 k] w fun e w' => ∃ x : Int, e = .returned (.int .i64 x) ∧ 0 ≤ x ∧ (1 ≤ k → x < k) ∧ (k < 1 → x = 0) ∧ Dk w' g ∧ w.grownBy w' (some g) := by
  obtain ⟨A, n, c, xs, i, hB, hR, hi, hnc, hn⟩ := h
  have hD : Dk w g := ⟨A, n, c, xs, i, hB, hR, hi, hnc, hn⟩
  have c0 := Blk.cell hB 0
  have c1 := Blk.cell hB 1
  simp at c0 c1
  have f1 := Blk.frozen hB 1
  by_cases hk1 : k < 1
  · have q1 : decide (k < 1) = true := by simp; omega
    go_enter Tryd.func25, Tryd.ntmps25
    go_wp2
    go_quiet (fail)
    go_wp2
    go_ret
    exact ⟨0, rfl, Int.le_refl _, fun h => by omega, fun _ => rfl, hD.drewN _, grown_drewN (World.grownBy.refl _ _) _⟩
  · have q1 : decide (k < 1) = false := by simp; omega
    by_cases hin : i < n
    · have q2 : decide ((n : Int) ≤ (i : Int)) = false := by simp; omega
      have i0 : (0 : Int) ≤ (i : Int) := Int.natCast_nonneg _
      have i1 : (i : Int) < (n : Int) := by omega
      obtain ⟨ad, u, rfl, hbl, hu, hcu⟩ := Reads.at_ hR hin
      obtain ⟨y, rfl⟩ : ∃ y, u = .int .i64 y := by
        unfold ints at hu
        rw [List.getElem?_map] at hu
        cases hx : xs[i]? with
        | none => rw [hx] at hu; cases hu
        | some y => rw [hx] at hu; exact ⟨y, by injection hu with hu; exact hu.symm⟩
      clear hu
      go_enter Tryd.func25, Tryd.ntmps25
      go_wp2
      go_quiet (fail)
      go_wp2
      go_quiet (fail)
      have hD2 : ∀ a : Nat, Dk ((w.drewN a).setCell ⟨g, 1, none⟩ (.int .i64 ((i : Int) + 1))) g := by
        intro a
        refine ⟨some ad, n, c, xs, i + 1, ?_, (hR.drewN a).setCell (Nat.le_refl _) _, by omega, hnc, hn⟩
        have := Blk.set (Blk.drewN hB a) 1 (.int .i64 ((i : Int) + 1))
        simpa using this
      replace hD2 := Lib.hid hD2
      go_wp2_with fail
      refine (mkmod_any y k _ (by omega) hk).mono ?_
      rintro e w1 ⟨rfl, rfl⟩
      have m2 := Int.emod_nonneg y (show k ≠ 0 by omega)
      have m3 := Int.emod_lt_of_pos y (show 0 < k by omega)
      generalize y % k = r at *
      go_wp2
      go_ret
      exact ⟨r, rfl, m2, fun _ => m3, fun h => by omega, hD2.out _, grown_set (grown_drewN (World.grownBy.refl _ _) _) _ _⟩
    · have q2 : decide ((n : Int) ≤ (i : Int)) = true := by simp; omega
      go_enter Tryd.func25, Tryd.ntmps25
      go_wp2
      go_quiet (fail)
      go_wp2
      go_ret
      exact ⟨0, rfl, Int.le_refl _, fun h => by omega, fun _ => rfl, hD.drewN _, grown_drewN (World.grownBy.refl _ _) _⟩

end Go.Proofs.YticekkjambkifaaDoor
