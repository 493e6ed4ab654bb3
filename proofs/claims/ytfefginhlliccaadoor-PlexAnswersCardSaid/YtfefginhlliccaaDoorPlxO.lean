/- Printed by merge.py from PlxI, PlxK, PlxO. -/
import Derived.Test.YtfefginhlliccaaDoorPlxN
import Derived.Test.YtfefginhlliccaaDoorPlxG
/- Plain laws of k-plexes: how many there are; two nodes that are not joined have a common neighbour. -/
set_option linter.unusedVariables false
set_option linter.unusedSimpArgs false
namespace Go.Proofs.YtfefginhlliccaaDoor.Pl
open Go.RowKit CoBit CoCli Go.Proofs.YtfefginhlliccaaDoor

theorem ext_len : ∀ (L p : List Nat), (ext p L).length + 1 = 2 ^ L.length := by
  intro L
  induction L with
  | nil => intro p; rfl
  | cons v L ih =>
    intro p
    have h1 := ih (p ++ [v])
    have h2 := ih p
    rw [ext, List.length_append, List.length_cons, List.length_cons, Nat.pow_succ]
    omega
theorem plexs_len (n : Nat) (es : List (Int × Int)) (k least : Nat) (after : List Int) : (plexs n es k least after).length ≤ 2 ^ n := by
  have h1 := List.length_filter_le (fun S => want (ad (rowsL n es)) n k least S && gt after S) (lx [] (List.range n))
  have h2 := ext_len (List.range n) []
  rw [List.length_range] at h2
  unfold plexs
  unfold lx at h1 ⊢
  rw [List.length_cons, h2] at h1
  exact h1
theorem plexs_small {n : Nat} (hn : n ≤ 8) (es : List (Int × Int)) (k least : Nat) (after : List Int) : (plexs n es k least after).length ≤ 256 :=
  Nat.le_trans (plexs_len n es k least after) (Nat.le_trans (Nat.pow_le_pow_right (by omega) hn) (by decide))
theorem mem_plexs {n : Nat} {es : List (Int × Int)} {k least : Nat} {after : List Int} {S : List Nat} (h : S ∈ plexs n es k least after) : S.Pairwise (· < ·) ∧ (∀ x ∈ S, x < n) ∧ least ≤ S.length ∧ mxl (ad (rowsL n es)) n k S ∧ gt after S = true := by
  unfold plexs at h
  rw [List.mem_filter, Bool.and_eq_true] at h
  obtain ⟨h1, h2, h3⟩ := h
  obtain ⟨h4, h5⟩ := sub_range h1
  unfold want at h2
  rw [Bool.and_eq_true, decide_eq_true_iff, decide_eq_true_iff] at h2
  exact ⟨h4, h5, h2.1, h2.2, h3⟩
theorem two_deg {a : Nat → Nat → Bool} {u v : Nat} (hne : u ≠ v) (huu : a u u = false) (hvv : a v v = false) (huv : a u v = false) (hvu : a v u = false) :
    ∀ S : List Nat, S.Nodup → (∀ x ∈ S, ¬ (a u x = true ∧ a v x = true)) → dgs a S u + dgs a S v + (if u ∈ S then 1 else 0) + (if v ∈ S then 1 else 0) ≤ S.length := by
  intro S
  induction S with
  | nil => intro _ _; simp [dgs]
  | cons x S ih =>
    intro hn hx
    rw [List.nodup_cons] at hn
    have h1 := ih hn.2 (fun y hy => hx y (List.mem_cons_of_mem _ hy))
    have h0 := hx x List.mem_cons_self
    have e : ∀ w, dgs a (x :: S) w = (if a w x = true then 1 else 0) + dgs a S w := fun w => by
      unfold dgs; rw [List.filter_cons]; split <;> simp <;> omega
    rw [e u, e v, List.length_cons]
    by_cases hxu : x = u
    · subst hxu
      have h2 : ¬ v = x := fun h => hne h.symm
      rw [huu, hvu, if_pos List.mem_cons_self]
      rw [if_neg hn.1] at h1
      have h3 : (if v ∈ x :: S then 1 else 0) = (if v ∈ S then 1 else 0) := by simp [h2]
      rw [h3]; simp; omega
    · by_cases hxv : x = v
      · subst hxv
        rw [huv, hvv, if_pos (show x ∈ x :: S from List.mem_cons_self)]
        rw [if_neg hn.1] at h1
        have h3 : (if u ∈ x :: S then 1 else 0) = (if u ∈ S then 1 else 0) := by simp [hne]
        rw [h3]; simp; omega
      · have h3 : (if u ∈ x :: S then 1 else 0) = (if u ∈ S then 1 else 0) := by simp [show ¬ u = x from fun h => hxu h.symm]
        have h4 : (if v ∈ x :: S then 1 else 0) = (if v ∈ S then 1 else 0) := by simp [show ¬ v = x from fun h => hxv h.symm]
        rw [h3, h4]
        cases ha : a u x <;> cases hb : a v x <;> simp_all <;> omega
/-- In a k-plex with at least two times k, less one, nodes: two nodes that are not joined have a common neighbour. -/
theorem plex_two {a : Nat → Nat → Bool} {k : Nat} {S : List Nat} (hs : ∀ u w, a u w = a w u) (hi : ∀ u, a u u = false) (hn : S.Nodup) (hp : plx a k S) (hl : 2 * k - 1 ≤ S.length) {u v : Nat} (hu : u ∈ S) (hv : v ∈ S) (hne : u ≠ v) (huv : a u v = false) :
    ∃ x ∈ S, a u x = true ∧ a v x = true := by
  refine Classical.byContradiction fun hno => ?_
  have h1 := two_deg hne (hi u) (hi v) huv (by rw [hs]; exact huv) S hn (fun x hx h => hno ⟨x, hx, h⟩)
  rw [if_pos hu, if_pos hv] at h1
  have h2 := hp u hu
  have h3 := hp v hv
  omega
theorem vld_nt {S : List Nat} {n : Nat} (h : S.Pairwise (· < ·)) (hn : ∀ x ∈ S, x < n) : Vld (nt S) n := by
  constructor
  · intro x hx
    unfold nt at hx
    rw [List.mem_map] at hx
    obtain ⟨y, hy, rfl⟩ := hx
    have := hn y hy
    exact ⟨Int.natCast_nonneg _, by show (y : Int) < n; omega⟩
  · unfold nt
    rw [List.pairwise_map]
    exact h.imp fun h => by show (Int.ofNat _ : Int) < Int.ofNat _; exact Int.ofNat_lt.2 h
end Go.Proofs.YtfefginhlliccaaDoor.Pl

/- Package plex: Reduce. -/
set_option linter.unusedVariables false
set_option linter.unusedSimpArgs false
namespace Go.Proofs.YtfefginhlliccaaDoor.Pl
open Go.RowKit Go.Shelf CoBit CoCli Go.Proofs.YtfefginhlliccaaDoor

/-- What Reduce returns. -/
def RedL (n : Int) (es : List (Int × Int)) (k least : Int) (l : List Int) : Prop := (errP n es k least = 0 → CoreL n es (least - k) l) ∧ (errP n es k least ≠ 0 → l = [])
set_option maxRecDepth 100000 in
set_option maxHeartbeats 2000000 in
theorem reduce_any (A : Option Addr) (m c : Nat) (n : Int) (es : List (Int × Int)) (k least : Int) (w : World) (hE : RE w A m es) (hm : m ≤ 68719476736) (hT : Tab w) :
    Calls Tryd.prog 21 #[.agg #[.int .i64 n, .slice A m c], .int .i64 k, .int .i64 least] w fun e w' => ∃ l, RetL w l (errP n es k least) e w' ∧ RedL n es k least l := by
  have kc := fun w h => pcheck_any A m c n es k least w h (by omega)
  have hB1 : Below w.heap.size w (w.alloc (.cells #[.int .i64 n, .slice A m c] 27)) := (Below.refl _ w).alloc (Nat.le_refl _) _
  have hlt : w.heap.size < (w.alloc (.cells #[.int .i64 n, .slice A m c] 27)).heap.size := by simp
  by_cases h0 : errP n es k least = 0
  · obtain ⟨z0, z1, z2, z3, z4⟩ := errP_zero h0
    have hr : ∀ l, CoreL n es (least - k) l → RedL n es k least l := fun l h => ⟨fun _ => h, fun h' => absurd h0 h'⟩
    have kk := fun w hT h => cCore_any A m c n (least - k) es w hT h hm
    simp only [z0] at kk
    simp only [h0] at kc
    rw [h0]
    replace kc := Lib.hid kc
    replace kk := Lib.hid kk
    replace hr := Lib.hid hr
    clear h0 z0
    go_enter Tryd.func21, Tryd.ntmps21
    go_wp2_with (first
      | (go_at_call 39; refine (kc.out _ (hE.alloc _)).mono ?_; rintro e w1 ⟨rfl, hb1⟩
         have bg1 := Blk.below (Blk.new w 27 #[.int .i64 n, .slice A m c]) hb1 hlt
         have g0 := Blk.cell bg1 0
         have g1 := Blk.cell bg1 1
         simp at g0 g1
         have hW1 : Below w.heap.size w w1 := hB1.trans (hb1.mono (by simp))
         have hE1 := hE.below hW1 (Nat.le_refl _)
         have hT1 := hT.below hW1 hT.lt)
      | (go_at_call 54; refine (kk.out _ hT1 hE1).mono ?_; rintro e w2 ⟨l, ⟨A2, n2, c2, rfl, hc2, hr2, hb2, hf2⟩, hl⟩)
      | fail)
    go_ret2
    exact ⟨l, ⟨A2, n2, c2, rfl, hc2, hr2, hW1.trans (hb2.mono hW1.size), hf2.mono hW1.size⟩, hr.out l hl⟩
  · have hq : (errP n es k least != 0) = true := by simpa using h0
    have hr : RedL n es k least [] := ⟨fun h => absurd h h0, fun _ => rfl⟩
    generalize errP n es k least = z at *
    replace kc := Lib.hid kc
    replace hr := Lib.hid hr
    clear h0
    go_enter Tryd.func21, Tryd.ntmps21
    go_wp2_with (first
      | (go_at_call 39; refine (kc.out _ (hE.alloc _)).mono ?_; rintro e w1 ⟨rfl, hb1⟩; have hW1 : Below w.heap.size w w1 := hB1.trans (hb1.mono (by simp)))
      | fail)
    go_ret2
    exact ⟨[], ⟨none, 0, 0, rfl, Nat.le_refl _, RI.none_, hW1, Fr.none_⟩, hr.out⟩
end Go.Proofs.YtfefginhlliccaaDoor.Pl

/- Plain laws of k-plexes: Next goes through All; all of them are maximal. -/
set_option linter.unusedVariables false
set_option linter.unusedSimpArgs false
namespace Go.Proofs.YtfefginhlliccaaDoor.Pl
open Go.RowKit CoBit CoCli Go.Proofs.YtfefginhlliccaaDoor

theorem cmp_swap : ∀ (a b : List Int), cmpL a b = -1 → cmpL b a = 1 := by
  intro a
  induction a with
  | nil =>
    intro b h
    cases b with
    | nil => simp [cmpL] at h
    | cons y b => rfl
  | cons x a ih =>
    intro b h
    cases b with
    | nil => simp [cmpL] at h
    | cons y b =>
      unfold cmpL at h ⊢
      by_cases h1 : y < x
      · rw [if_pos h1] at h; omega
      · rw [if_neg h1] at h
        by_cases h2 : x < y
        · rw [if_pos h2]
        · rw [if_neg h2] at h
          rw [if_neg h2, if_neg h1]
          exact ih b h
theorem cmp_self (a : List Int) : cmpL a a = 0 := (cmp_zero a a).2 rfl
theorem gt_nil {S : List Nat} (h : S ≠ []) : gt [] S = true := by
  cases S with
  | nil => exact absurd rfl h
  | cons x S => rfl
theorem plexs_gt (n : Nat) (es : List (Int × Int)) (k least : Nat) (after : List Int) : plexs n es k least after = (plexs n es k least []).filter (gt after) := by
  unfold plexs
  rw [List.filter_filter]
  refine List.filter_congr fun S _ => ?_
  by_cases hw : want (ad (rowsL n es)) n k least S = true
  · rw [hw, gt_nil (want_ne hw)]; simp
  · rw [Bool.not_eq_true] at hw; rw [hw]; simp
theorem plexs_sorted (n : Nat) (es : List (Int × Int)) (k least : Nat) (after : List Int) : (plexs n es k least after).Pairwise fun S T => cmpL (nt S) (nt T) = -1 := (lx_sorted List.pairwise_lt_range).filter _
theorem gt_drop {L : List (List Nat)} (h : L.Pairwise fun S T => cmpL (nt S) (nt T) = -1) {i : Nat} {S : List Nat} (hi : L[i]? = some S) : L.filter (gt (nt S)) = L.drop (i + 1) := by
  obtain ⟨hlt, hS⟩ := List.getElem?_eq_some_iff.1 hi
  have hp := List.pairwise_iff_getElem.1 h
  conv => lhs; rw [← List.take_append_drop (i + 1) L]
  rw [List.filter_append, filter_none (l := L.take (i + 1)), List.nil_append, List.filter_eq_self.2]
  · intro T hT
    obtain ⟨j, hj⟩ := List.mem_iff_getElem?.1 hT
    rw [List.getElem?_drop] at hj
    obtain ⟨hlt2, hT2⟩ := List.getElem?_eq_some_iff.1 hj
    have := hp i (i + 1 + j) hlt hlt2 (by omega)
    rw [hS, hT2] at this
    unfold gt
    rw [cmp_swap _ _ this]; rfl
  · intro T hT
    obtain ⟨j, hj⟩ := List.mem_iff_getElem?.1 hT
    rw [List.getElem?_take] at hj
    split at hj
    · rename_i hji
      obtain ⟨hlt2, hT2⟩ := List.getElem?_eq_some_iff.1 hj
      unfold gt
      by_cases he : j = i
      · subst he
        have : T = S := by rw [← hS, ← hT2]
        rw [this, cmp_self]; rfl
      · have := hp j i hlt2 hlt (by omega)
        rw [hS, hT2] at this
        rw [this]; rfl
    · cases hj
/-- The list behind which the call with number i looks. -/
def aft (L : List (List Nat)) : Nat → List Int
  | 0 => []
  | i + 1 => nt (L.getD i [])
theorem next_at (n : Nat) (es : List (Int × Int)) (k least i : Nat) (hi : i ≤ (plexs n es k least []).length) : (plexs n es k least (aft (plexs n es k least []) i)).head? = (plexs n es k least [])[i]? := by
  cases i with
  | zero => rw [List.head?_eq_getElem?]; rfl
  | succ i =>
    have h := List.getElem?_eq_getElem (show i < (plexs n es k least []).length by omega)
    have : aft (plexs n es k least []) (i + 1) = nt (plexs n es k least [])[i] := by
      show nt ((plexs n es k least []).getD i []) = _
      rw [List.getD_eq_getElem?_getD, h]; rfl
    rw [this, plexs_gt, gt_drop (plexs_sorted _ _ _ _ _) h, List.head?_eq_getElem?, List.getElem?_drop]
theorem toNat_nt (S : List Nat) : (nt S).map Int.toNat = S := by
  unfold nt
  rw [List.map_map]
  exact List.map_id S
theorem maxB_of {n : Nat} {es : List (Int × Int)} {q : Nat} (hc : chkG n es = 0) (hq : 1 ≤ q) (hq3 : q ≤ 3) {S : List Nat} (h : S.Pairwise (· < ·)) (hn : ∀ x ∈ S, x < n) : maxB n es (nt S) q = decide (mxl (ad (rowsL n es)) n q S) := by
  unfold maxB isB
  rw [toNat_nt, decide_eq_true (⟨hc, by omega, by omega, vld_nt h hn⟩ : chkG n es = 0 ∧ 1 ≤ (q : Int) ∧ (q : Int) ≤ 3 ∧ Vld (nt S) n), Int.toNat_natCast, Int.toNat_natCast, Bool.true_and]
  rw [Bool.eq_iff_iff, Bool.and_eq_true, Bool.and_eq_true, decide_eq_true_iff, decide_eq_true_iff, decide_eq_true_iff, clo_iff]
  unfold mxl
  have : nt S ≠ [] ↔ S ≠ [] := by cases S <;> simp [nt]
  rw [this]
theorem coreL_unique {n : Int} {es : List (Int × Int)} {k : Int} {a b : List Int} (ha : CoreL n es k a) (hb : CoreL n es k b) : a = b := by
  by_cases h : chkG n es = 0
  · obtain ⟨a1, a2⟩ := ha.1 h
    obtain ⟨b1, b2⟩ := hb.1 h
    exact sorted_ext a1.2 b1.2 fun x => by rw [a2, b2]
  · rw [ha.2 h, hb.2 h]
end Go.Proofs.YtfefginhlliccaaDoor.Pl
