/- The reference's cores (cohesionref10), third part: the degeneracy, and the order. -/
import Derived.Test.YtdibfecejgjfmaaDoorRCoB
import Derived.Deep.RegionHeld3
set_option linter.unusedVariables false
namespace Go.Proofs.YtdibfecejgjfmaaDoor
open Go.RowKit

/-- The greatest of numbers that are not negative. -/
def maxL (l : List Int) : Int := l.foldl (fun a x => max a x) 0
theorem maxL_take {l : List Int} {k : Nat} {x : Int} (h : l[k]? = some x) : maxL (l.take (k + 1)) = max (maxL (l.take k)) x := by unfold maxL; rw [take_at h, List.foldl_append]; rfl
set_option maxRecDepth 100000 in
set_option maxHeartbeats 1000000 in
theorem rDegeneracy_any (A : Option Addr) (m c : Nat) (n : Int) (es : List (Int × Int)) (w : World) (h : RE w A m es) (hm : m ≤ 68719476736) :
    Calls Tryd.prog 27 #[.agg #[.int .i64 n, .slice A m c]] w fun e w' => ∃ l, e = .returned (.tuple #[.int .i64 (maxL l), .int .i64 (chkG n es)]) ∧ NumsL n es l ∧ Below w.heap.size w w' := by
  go_enter Tryd.func27, Tryd.ntmps27
  go_wp2_with fail
  refine (rNumbers_any A m c n es _ (h.alloc _) hm).mono ?_
  rintro e w1 ⟨l, ⟨A1, n1, c1, rfl, hn1, hr1, hb1, hf1⟩, hl⟩
  have hb0 : Below w.heap.size w w1 := ((Below.refl _ _).alloc (Nat.le_refl _) _).trans (hb1.mono (by simp))
  have hbig : n1 ≤ 64 := by
    have := hr1.len
    by_cases hz : chkG n es = 0
    · have h2 := (hl.1 hz).1
      have h3 := chkG_zero hz
      omega
    · rw [hl.2 hz] at this; simp at this; omega
  generalize hzz : chkG n es = z at *
  replace hzz := Lib.hid hzz
  replace hl := Lib.hid hl
  have hlen := Lib.hid hr1.len
  clear hb1 hf1
  go_wp2_with fail
  go_loop [6, 16] (fun v i => ∃ (k : Nat) (x : Int), k ≤ n1 ∧ i = .int .i64 k ∧ v = .int .i64 x ∧ Hid (x = maxL (l.take k))) (fun _ i => n1 - (intOf i).toNat)
  case atStart => exact ⟨0, 0, Nat.zero_le _, rfl, rfl, Lib.hid rfl⟩
  case round =>
    obtain ⟨k, x, hk, rfl, rfl, hx⟩ := hrel
    by_cases hlt : k < n1
    · obtain ⟨ad, y, rfl, hy, hcy⟩ := hr1.get hlt
      have hst := maxL_take hy.out
      rw [← hx.out] at hst
      have hmx : (x < y ∧ max x y = y) ∨ (¬ x < y ∧ max x y = x) := by omega
      go_wp2_with fail
      all_goals go_round
      case rel =>
        refine ⟨k + 1, _, by omega, by go_num, rfl, Lib.hid ?_⟩
        rw [hst]
        first | rfl | omega | (simp; omega)
      case measure => simp [intOf]; omega
    · have hfin : x = maxL l := by
        rw [hx.out, List.take_of_length_le (by rw [hlen.out]; omega)]
      replace hfin := Lib.hid hfin
      go_wp2_with fail
      go_ret2
      exact ⟨l, by rw [← hfin.out, hzz.out]; rfl, hl.out, hb0⟩

/-- v is taken before w: it has fewer neighbours in L, or it is not greater. -/
def bef (nb : Int → List Int) (L : List Int) (v w : Int) : Prop := dg nb L v < dg nb L w ∨ (dg nb L v = dg nb L w ∧ v ≤ w)
/-- v is the one of L that is taken. -/
def isBest (nb : Int → List Int) (L : List Int) (v : Int) : Prop := v ∈ L ∧ ∀ w ∈ L, bef nb L v w
/-- The list is the beginning of the order of the cores. -/
def PS (nb : Int → List Int) (n : Nat) (o : List Int) : Prop := ∀ i v, o[i]? = some v → isBest nb (rst n (o.take i)) v
theorem ps_nil (nb : Int → List Int) (n : Nat) : PS nb n [] := fun i v h => by simp at h
theorem ps_push {nb : Int → List Int} {n : Nat} {o : List Int} {v : Int} (h : PS nb n o) (hv : isBest nb (rst n o) v) : PS nb n (o ++ [v]) := by
  intro i x hx
  rcases Nat.lt_trichotomy i o.length with hi | hi | hi
  · rw [List.getElem?_append_left hi] at hx
    rw [List.take_append_of_le_length (by omega)]
    exact h i x hx
  · subst hi
    rw [List.getElem?_append_right (Nat.le_refl _)] at hx
    simp at hx
    subst hx
    rw [List.take_append_of_le_length (Nat.le_refl _), List.take_length]
    exact hv
  · rw [List.getElem?_eq_none (by simp; omega)] at hx
    cases hx
theorem bef_antisymm {nb : Int → List Int} {L : List Int} {v w : Int} (h1 : bef nb L v w) (h2 : bef nb L w v) : v = w := by
  unfold bef at h1 h2
  omega
theorem best_unique {nb : Int → List Int} {L : List Int} {v w : Int} (h1 : isBest nb L v) (h2 : isBest nb L w) : v = w := bef_antisymm (h1.2 w h2.1) (h2.2 v h1.1)
theorem ps_unique {nb : Int → List Int} {n : Nat} {a b : List Int} (ha : PS nb n a) (hb : PS nb n b) (hl : a.length = b.length) : a = b := by
  have h : ∀ i, a.take i = b.take i := by
    intro i
    induction i with
    | zero => rfl
    | succ i ih =>
      by_cases hi : i < a.length
      · have e1 : a[i]? = some a[i] := List.getElem?_eq_getElem hi
        have e2 : b[i]? = some (b[i]'(by omega)) := List.getElem?_eq_getElem (by omega)
        have h1 := ha i _ e1
        have h2 := hb i _ e2
        rw [ih] at h1
        have := best_unique h1 h2
        rw [take_at e1, take_at e2, ih, this]
      · rw [List.take_of_length_le (by omega), List.take_of_length_le (by omega)]
        have := ih
        rw [List.take_of_length_le (by omega), List.take_of_length_le (by omega)] at this
        exact this
  have := h a.length
  rwa [List.take_length, hl, List.take_length] at this
/-- What the search for the next node has found among the first j. -/
def Srch (nb : Int → List Int) (L : List Int) (j : Nat) (b le : Int) : Prop := (j = 0 ∧ b = -1 ∧ le = 0) ∨ (0 < j ∧ 0 ≤ b ∧ le = dg nb L b ∧ b ∈ L.take j ∧ ∀ w ∈ L.take j, bef nb L b w)
theorem srch_first {nb : Int → List Int} {L : List Int} {j : Nat} {b le v : Int} (h : Srch nb L j b le) (hs : L.Pairwise (· < ·)) (hv : L[j]? = some v) (h0 : 0 ≤ v) (ht : b < 0 ∨ (dg nb L v : Int) < le) : Srch nb L (j + 1) v (dg nb L v) := by
  refine .inr ⟨by omega, h0, rfl, by rw [take_at hv]; simp, fun w hw => ?_⟩
  rw [take_at hv] at hw
  rcases List.mem_append.1 hw with hw | hw
  · rcases h with ⟨rfl, _⟩ | ⟨_, hb0, hle, _, hb⟩
    · simp at hw
    · have := hb w hw
      unfold bef at this ⊢
      omega
  · rw [List.mem_singleton.1 hw]; exact .inr ⟨rfl, Int.le_refl _⟩
theorem srch_skip {nb : Int → List Int} {L : List Int} {j : Nat} {b le v : Int} (h : Srch nb L j b le) (hs : L.Pairwise (· < ·)) (hv : L[j]? = some v) (ht : ¬ (b < 0 ∨ (dg nb L v : Int) < le)) : Srch nb L (j + 1) b le := by
  rcases h with ⟨rfl, rfl, _⟩ | ⟨h1, hb0, hle, hm, hb⟩
  · omega
  · refine .inr ⟨by omega, hb0, hle, by rw [take_at hv]; simp [hm], fun w hw => ?_⟩
    rw [take_at hv] at hw
    rcases List.mem_append.1 hw with hw | hw
    · exact hb w hw
    · rw [List.mem_singleton.1 hw]
      have hlt : b < v := by
        have h2 : (L.take j ++ [v]).Pairwise (· < ·) := by rw [← take_at hv]; exact hs.take
        rw [List.pairwise_append] at h2
        exact h2.2.2 b hm v (by simp)
      unfold bef
      omega
theorem srch_done {nb : Int → List Int} {L : List Int} {j : Nat} {b le : Int} (h : Srch nb L j b le) (hj : L.length ≤ j) (h0 : 0 < L.length) : 0 ≤ b ∧ isBest nb L b := by
  rcases h with ⟨rfl, _⟩ | ⟨_, hb0, _, hm, hb⟩
  · omega
  · rw [List.take_of_length_le hj] at hm hb
    exact ⟨hb0, hm, hb⟩
theorem ps_range {nb : Int → List Int} {n : Nat} {o : List Int} (h : PS nb n o) : o.Nodup ∧ ∀ x ∈ o, 0 ≤ x ∧ x < n := by
  have hm : ∀ (i : Nat) (v : Int), o[i]? = some v → (0 ≤ v ∧ v < n) ∧ v ∉ o.take i := fun i v hv => mem_rst.1 (h i v hv).1
  refine ⟨?_, fun x hx => ?_⟩
  · rw [List.nodup_iff_pairwise_ne, List.pairwise_iff_getElem]
    intro i j hi hj hij
    have := (hm j _ (List.getElem?_eq_getElem hj)).2
    rintro e
    rw [← e] at this
    exact this (List.mem_take_iff_getElem.2 ⟨i, by omega, rfl⟩)
  · obtain ⟨i, hi, rfl⟩ := List.getElem_of_mem hx
    exact (hm i _ (List.getElem?_eq_getElem hi)).1
theorem nodup_length {n : Nat} {o : List Int} (hn : o.Nodup) (hr : ∀ x ∈ o, 0 ≤ x ∧ x < n) : o.length ≤ n := by
  have hp : o.Perm ((rng n).filter fun x => decide (x ∈ o)) := by
    refine (List.perm_ext_iff_of_nodup hn (((rng_sorted n).imp fun h => by omega).filter _)).2 fun x => ?_
    rw [List.mem_filter, mem_rng]
    simp
    exact fun hx => hr x hx
  rw [hp.length_eq]
  exact Nat.le_trans (List.length_filter_le _ _) (by rw [rng_length]; exact Nat.le_refl _)
theorem rst_empty {n : Nat} {o : List Int} (h : rst n o = []) (hn : o.Nodup) (hr : ∀ x ∈ o, 0 ≤ x ∧ x < n) : o.length = n := by
  have hp : o.Perm (rng n) := by
    refine (List.perm_ext_iff_of_nodup hn ((rng_sorted n).imp fun h => by omega)).2 fun x => ⟨fun hx => mem_rng.2 (hr x hx), fun hx => ?_⟩
    by_cases hxo : x ∈ o
    · exact hxo
    · have : x ∈ rst n o := mem_rst.2 ⟨mem_rng.1 hx, hxo⟩
      rw [h] at this
      cases this
  rw [hp.length_eq, rng_length]
/-- The order of the cores. -/
def IsOrd (n : Int) (es : List (Int × Int)) (o : List Int) : Prop := (chkG n es = 0 → PS (nbG n es) n.toNat o ∧ o.length = n.toNat) ∧ (chkG n es ≠ 0 → o = [])
theorem isOrd_unique {n : Int} {es : List (Int × Int)} {a b : List Int} (ha : IsOrd n es a) (hb : IsOrd n es b) : a = b := by
  by_cases hz : chkG n es = 0
  · exact ps_unique (ha.1 hz).1 (hb.1 hz).1 (by rw [(ha.1 hz).2, (hb.1 hz).2])
  · rw [ha.2 hz, hb.2 hz]
theorem rst_length_push {n : Nat} {p : List Int} {v : Int} (h : v ∈ rst n p) : (rst n (p ++ [v])).length < (rst n p).length := by
  rw [← rst_push, minus_sorted (rst_sorted n p)]
  refine Nat.lt_of_le_of_ne (List.length_filter_le _ _) fun e => ?_
  have := List.length_filter_eq_length_iff.1 e v h
  simp at this
end Go.Proofs.YtdibfecejgjfmaaDoor

namespace Go.Proofs.YtdibfecejgjfmaaDoor
open Go.RowKit

/-- The list has each number from 0 to n - 1 once. -/
def OrdI (l : List Int) (n : Int) : Prop := (l.length : Int) = n ∧ Vld (ofL l) n ∧ ((ofL l).length : Int) = n
instance (l : List Int) (n : Int) : Decidable (OrdI l n) := by unfold OrdI; infer_instance
theorem put_length_new {l : List Int} {x : Int} (h : x ∉ l) : (putL l x).length = l.length + 1 := by
  induction l with
  | nil => rfl
  | cons y l ih =>
    simp at h
    unfold putL
    split
    · simp [ih h.2]
    · rw [if_neg (by omega)]; simp
theorem of_cons (x : Int) (l : List Int) : ofL (x :: l) = putL (ofL l) x := sorted_ext (of_sorted _) (put_sorted (of_sorted l)) fun y => by rw [mem_of, mem_put, mem_of, List.mem_cons]
theorem put_id {l : List Int} (h : l.Pairwise (· < ·)) {x : Int} (hx : x ∈ l) : putL l x = l := sorted_ext (put_sorted h) h fun y => by
  rw [mem_put]
  constructor
  · rintro (rfl | h)
    · exact hx
    · exact h
  · exact .inr
theorem of_length_nodup (l : List Int) : (ofL l).length = l.length ↔ l.Nodup := by
  induction l with
  | nil => simp [ofL]
  | cons x l ih =>
    rw [of_cons, List.nodup_cons]
    by_cases hx : x ∈ l
    · rw [put_id (of_sorted l) (mem_of.2 hx)]
      have := of_length l
      constructor
      · intro h; simp at h; omega
      · intro h; exact absurd hx h.1
    · rw [put_length_new (fun h => hx (mem_of.1 h)), List.length_cons]
      constructor
      · intro h; exact ⟨hx, ih.1 (by omega)⟩
      · intro h; rw [ih.2 h.2]
/-- The list has each number from 0 to n - 1 once, in plain words. -/
def Per (l : List Int) (n : Nat) : Prop := l.length = n ∧ l.Nodup ∧ ∀ x ∈ l, 0 ≤ x ∧ x < n
theorem ordI_per {l : List Int} {n : Nat} : OrdI l n ↔ Per l n := by
  unfold OrdI Per
  constructor
  · rintro ⟨h1, h2, h3⟩
    exact ⟨by omega, (of_length_nodup l).1 (by omega), fun x hx => h2.1 x (mem_of.2 hx)⟩
  · rintro ⟨h1, h2, h3⟩
    have := (of_length_nodup l).2 h2
    exact ⟨by omega, ⟨fun x hx => h3 x (mem_of.1 hx), of_sorted l⟩, by omega⟩

/-- How many neighbours stand behind each node. -/
def IsLater (nb : Int → List Int) (n : Nat) (o ls : List Int) : Prop := ls.length = n ∧ ∀ i v, o[i]? = some v → ls.getD v.toNat 0 = (dg nb (o.drop (i + 1)) v : Int)
def LaterTo (nb : Int → List Int) (n : Nat) (o ls : List Int) (k : Nat) : Prop := ls.length = n ∧ ∀ (i : Nat) (v : Int), i < k → o[i]? = some v → ls.getD v.toNat 0 = (dg nb (o.drop (i + 1)) v : Int)
theorem nodup_at {o : List Int} (h : o.Nodup) {i j : Nat} {v : Int} (hi : o[i]? = some v) (hj : o[j]? = some v) : i = j := by
  obtain ⟨h1, e1⟩ := List.getElem?_eq_some_iff.1 hi
  obtain ⟨h2, e2⟩ := List.getElem?_eq_some_iff.1 hj
  have hp := List.pairwise_iff_getElem.1 h
  rcases Nat.lt_trichotomy i j with h | h | h
  · exact absurd (e1.trans e2.symm) (hp i j h1 h2 h)
  · exact h
  · exact absurd (e2.trans e1.symm) (hp j i h2 h1 h)
theorem later_step {nb : Int → List Int} {n : Nat} {o ls : List Int} {k : Nat} {v : Int} (h : LaterTo nb n o ls k) (ho : Per o n) (hv : o[k]? = some v) : LaterTo nb n o (ls.set v.toNat (dg nb (o.drop (k + 1)) v : Nat)) (k + 1) := by
  refine ⟨by rw [List.length_set]; exact h.1, fun i u hi hu => ?_⟩
  have hv0 := ho.2.2 v (mem_at hv)
  have hu0 := ho.2.2 u (mem_at hu)
  rw [List.getD_eq_getElem?_getD]
  by_cases he : i = k
  · subst he
    rw [hv] at hu
    injection hu with hu
    subst hu
    rw [List.getElem?_set_self (by rw [h.1]; omega)]
    rfl
  · have hne : u.toNat ≠ v.toNat := fun e => he (nodup_at ho.2.1 hu (by rw [hv, show v = u by omega]))
    rw [List.getElem?_set_ne (by omega), ← List.getD_eq_getElem?_getD]
    exact h.2 i u (by omega) hu

end Go.Proofs.YtdibfecejgjfmaaDoor
