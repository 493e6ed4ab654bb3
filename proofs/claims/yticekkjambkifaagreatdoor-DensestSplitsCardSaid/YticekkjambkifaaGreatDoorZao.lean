/- Printed by merge.py from PrnC, RatT, BstN, DbsR, DbsQ, DlwP. -/
import Derived.Test.YticekkjambkifaaGreatDoorZan
import Derived.Test.YticekkjambkifaaGreatDoorZak
import Derived.Test.YticekkjambkifaaGreatDoorRefI
import Derived.BigRegion
import Derived.Deep.DeepCutAuto
import Derived.Test.YticekkjambkifaaGreatDoorZai
import Derived.Test.YticekkjambkifaaGreatDoorZrt
import Derived.Test.YticekkjambkifaaGreatDoorZab
import Derived.Test.YticekkjambkifaaGreatDoorZad
import Derived.Test.YticekkjambkifaaGreatDoorZal
/- Printed by merge.py from PrnA, PrnB, PrnC. -/
/- Plain laws of the reference's rounds (chapter 20). -/
set_option linter.unusedVariables false
set_option linter.unusedSimpArgs false
namespace Go.Proofs.YticekkjambkifaaGreatDoor
open Go.RowKit CoBit CoRat Rt
section
variable {n : Nat} {es : List (Int × Int)} {a d : Nat}
theorem bset_all (hn : n ≤ 64) : bset (2 ^ n - 1) = rng n := by
  refine sorted_ext (bset_sorted _) (rng_sorted n) fun x => ?_
  constructor
  · intro hx
    obtain ⟨i, rfl⟩ := bset_nat hx
    have h := (mem_bset.1 hx).2
    rw [all_bit] at h
    exact mem_rng.2 ⟨by omega, by have := of_decide_eq_true h; omega⟩
  · intro hx
    have h := mem_rng.1 hx
    obtain ⟨i, rfl⟩ := Int.eq_ofNat_of_zero_le h.1
    refine mem_bset.2 ⟨by omega, ?_⟩
    rw [all_bit]
    exact decide_eq_true (by omega)
theorem bset_in {x : Nat} (hx : ∀ i, x.testBit i = true → i < n) : ∀ v ∈ bset x, v ∈ rng n := fun v hv => by
  obtain ⟨i, rfl⟩ := bset_nat hv
  have := hx i (mem_bset.1 hv).2
  exact mem_rng.2 ⟨by omega, by omega⟩
theorem bset_meet {x : Nat} (hx : ∀ i, x.testBit i = true → i < n) : meetL (bset x) (rng n) = bset x := by
  rw [meet_sorted (bset_sorted x)]
  exact List.filter_eq_self.2 fun v hv => by simpa using bset_in hx v hv
theorem pop_pos {x : Nat} (hx : x < 18446744073709551616) (h : x ≠ 0) : 0 < pop x := by
  rw [pop_bset]
  exact List.length_pos_iff.2 (bset_ne hx h)
theorem den_eq {x : Nat} (hx : x < 18446744073709551616) (h : x ≠ 0) (hi : ∀ i, x.testBit i = true → i < n) : dseN es (bset x) (meetL (bset x) (rng n)).length = dnN es x ∧ dseD es (bset x) (meetL (bset x) (rng n)).length = dnD es x := by
  rw [bset_meet hi, ← pop_bset]
  have := pop_pos hx h
  unfold dseN dseD dnN dnD
  rw [if_neg (by omega), if_neg (by omega)]
  exact ⟨rfl, rfl⟩
theorem den_val {x : Nat} (hx : x < 18446744073709551616) (h : x ≠ 0) (hes : es.length ≤ 68719476736) : ∃ N D : Nat, dnN es x = (N : Int) ∧ dnD es x = (D : Int) ∧ 0 < D ∧ N ≤ insE es (bset x) ∧ D ≤ 64 ∧ N * (bset x).length = insE es (bset x) * D ∧ okF (N : Int) (D : Int) = true := by
  have hp := pop_pos hx h
  have hp64 : pop x ≤ 64 := by rw [pop_bset]; exact bset_length x
  have hI := insE_le es (bset x)
  obtain ⟨N, D, h1, h2, h3, h4, h5, h6⟩ := mk_val (insE es (bset x)) (pop x) hp (by omega) (by omega)
  have hok := mk_ok (insE es (bset x)) (pop x) hp (by omega) (by omega)
  rw [h1, h2] at hok
  exact ⟨N, D, h1, h2, h3, h4, by omega, by rw [← pop_bset]; exact h6, hok⟩
/-- Has a node few neighbours, as the reference asks? -/
def gonP (n : Nat) (es : List (Int × Int)) (x a d N D : Nat) (v : Int) : Bool := decide (dg (nbG n es) (bset x) v * d * D ≤ 2 * (d + a) * N)
theorem few_gon (hc : chkG n es = 0) (hn : n ≤ 64) {x N D : Nat} (hx : x < 18446744073709551616) (hD : 0 < D) (h : N * (bset x).length = insE es (bset x) * D) : bset (fewM n es x a d) = (bset x).filter (gonP n es x a d N D) := by
  refine sorted_ext (bset_sorted _) ((bset_sorted x).filter _) fun y => ?_
  have key : ∀ v : Nat, x.testBit v = true → (fewP n es x a d v = true ↔ gonP n es x a d N D v = true) := fun v hv => by
    have hpos : 0 < (bset x).length := List.length_pos_iff.2 (bset_ne hx (fun e => by subst e; simp at hv))
    rw [fewP_iff hc hn]
    unfold gonP
    rw [decide_eq_true_eq]
    generalize dg (nbG n es) (bset x) v = c at *
    generalize (bset x).length = s at *
    generalize insE es (bset x) = I at *
    generalize 2 * (d + a) = t at *
    have e1 : c * s * d * D = (c * d * D) * s := by rw [Nat.mul_right_comm c s d, Nat.mul_right_comm (c * d) s D]
    have e2 : t * I * D = (t * N) * s := by rw [Nat.mul_assoc, ← h, Nat.mul_assoc]
    constructor
    · intro hle
      have := Nat.mul_le_mul_right D hle
      rw [e1, e2] at this
      exact Nat.le_of_mul_le_mul_right this hpos
    · intro hle
      have := Nat.mul_le_mul_right s hle
      rw [← e1, ← e2] at this
      exact Nat.le_of_mul_le_mul_right this hD
  rw [List.mem_filter]
  constructor
  · intro hy
    obtain ⟨i, rfl⟩ := bset_nat hy
    have h1 := (fewM_bit n es x a d i).1 (mem_bset.1 hy).2
    exact ⟨mem_bset.2 h1.1, (key i h1.1.2).1 h1.2⟩
  · rintro ⟨hy, hg⟩
    obtain ⟨i, rfl⟩ := bset_nat hy
    have h1 := mem_bset.1 hy
    exact mem_bset.2 ⟨h1.1, (fewM_bit n es x a d i).2 ⟨h1, (key i h1.2).2 hg⟩⟩
theorem mns_bset {x m : Nat} (hx : x < 18446744073709551616) (hm : m < 18446744073709551616) : bset (mns x m) = minusL (bset x) (bset m) := by
  rw [minus_sorted (bset_sorted x)]
  refine sorted_ext (bset_sorted _) ((bset_sorted x).filter _) fun y => ?_
  rw [List.mem_filter]
  constructor
  · intro hy
    obtain ⟨i, rfl⟩ := bset_nat hy
    obtain ⟨h0, h1⟩ := mem_bset.1 hy
    rw [mns_bit hx hm, Bool.and_eq_true, Bool.not_eq_true'] at h1
    exact ⟨mem_bset.2 ⟨h0, h1.1⟩, by simp only [decide_eq_true_eq]; intro hc; have := (mem_bset.1 hc).2; rw [h1.2] at this; cases this⟩
  · rintro ⟨hy, hg⟩
    obtain ⟨i, rfl⟩ := bset_nat hy
    obtain ⟨h0, h1⟩ := mem_bset.1 hy
    refine mem_bset.2 ⟨h0, ?_⟩
    rw [mns_bit hx hm, Bool.and_eq_true, Bool.not_eq_true']
    refine ⟨h1, ?_⟩
    simp only [decide_eq_true_eq] at hg
    cases hb : m.testBit i with
    | false => rfl
    | true => exact absurd (mem_bset.2 ⟨h0, hb⟩) hg
theorem mns_dec (hc : chkG n es = 0) (hn : n ≤ 64) {x : Nat} (hx : x < 18446744073709551616) (h0 : x ≠ 0) : (bset (mns x (fewM n es x a d))).length < (bset x).length := by
  rw [mns_bset hx (fewM_lt _ _ _ _ _), minus_sorted (bset_sorted x)]
  obtain ⟨y, hy⟩ : ∃ y, y ∈ bset (fewM n es x a d) := by
    cases h : bset (fewM n es x a d) with
    | nil => exact absurd h (bset_ne (fewM_lt _ _ _ _ _) (few_some hc hn hx h0))
    | cons y _ => exact ⟨y, by simp⟩
  have hyx : y ∈ bset x := by
    obtain ⟨i, rfl⟩ := bset_nat hy
    exact mem_bset.2 ((fewM_bit _ _ _ _ _ i).1 (mem_bset.1 hy).2).1
  refine Nat.lt_of_le_of_ne (List.length_filter_le _ _) fun e => ?_
  have := List.length_filter_eq_length_iff.1 e y hyx
  simp at this
  exact this hy
attribute [local irreducible] dnN dnD in
/-- The record's density is a fraction as soon as there is a round. -/
theorem rnd_den (hn : n ≤ 64) (hes : es.length ≤ 68719476736) (k : Nat) : ((rndK n es a d k).2.2 = [] → (rndK n es a d k).2.1 = (0, 0, 0)) ∧ ((rndK n es a d k).2.2 ≠ [] → 0 < (rndK n es a d k).2.1.2.2) := by
  induction k with
  | zero => exact ⟨fun _ => rfl, fun h => absurd rfl h⟩
  | succ k ih =>
    by_cases h0 : (rndK n es a d k).1 = 0
    · rw [rndK_stop h0 1]; exact ih
    · rw [rndK_next h0]
      refine ⟨fun h => by simp at h, fun _ => ?_⟩
      have hL := rndK_lt (es := es) (a := a) (d := d) hn k
      obtain ⟨N, D, h1, h2, h3, _⟩ := den_val hL h0 hes
      have hlast : 0 < dnD es (rndK n es a d k).1 := by rw [h2]; omega
      show 0 < (offV es (rndK n es a d k).1 (rndK n es a d k).2.1).2.2
      unfold offV
      by_cases hz : (rndK n es a d k).2.1.2.2 = 0
      · rw [if_pos hz]; exact hlast
      · rw [if_neg hz]
        split
        · exact hlast
        · by_cases hs : (rndK n es a d k).2.2 = []
          · rw [ih.1 hs] at hz; exact absurd rfl hz
          · exact ih.2 hs
attribute [local irreducible] dnN dnD in
theorem off_eq {x : Nat} {r : Nat × Int × Int} : offV es x r = if r.2.2 = 0 ∨ 0 < cmpF (dnN es x) (dnD es x) r.2.1 r.2.2 then (x, dnN es x, dnD es x) else r := by
  unfold offV
  by_cases h1 : r.2.2 = 0
  · rw [if_pos h1, if_pos (.inl h1)]
  · rw [if_neg h1]
    by_cases h2 : 0 < cmpF (dnN es x) (dnD es x) r.2.1 r.2.2
    · rw [if_pos h2, if_pos (.inr h2)]
    · rw [if_neg h2, if_neg (by rintro (h | h); exact h1 h; exact h2 h)]
theorem rnd_rows (k : Nat) : ∀ ys ∈ (rndK n es a d k).2.2, ys.length ≤ 64 := by
  induction k with
  | zero => intro ys h; cases h
  | succ k ih =>
    by_cases h0 : (rndK n es a d k).1 = 0
    · rw [rndK_stop h0 1]; exact ih
    · rw [rndK_next h0]
      intro ys hy
      rw [List.mem_append, List.mem_singleton] at hy
      rcases hy with hy | rfl
      · exact ih ys hy
      · exact bset_length _
end
end Go.Proofs.YticekkjambkifaaGreatDoor

/- Appends of lists in a drawn region. -/
set_option linter.unusedVariables false
set_option linter.unusedSimpArgs false
namespace Go.Proofs.YticekkjambkifaaGreatDoor
open Go.RowKit CoBit CoRat Rt
set_option maxRecDepth 100000 in
/-- append of one list. -/
theorem step_pushL {ops : Array Oper} {o : Oper} {a : Act} {K : Act → World → Prop} {Q : Exit → Act → World → Prop} {w : World} {T B H : Nat} {v : Value} {q : Option Nat} {L : List (List Int)} {A : Option Addr} {k c : Nat} {ys : List Int} {E : Prop}
    (hgd : o.guard = none) (s x : Operand) (ho : o.op = .call { callee := .builtin .append, args := #[s, x], argTypes := #[143, 143] })
    (hs : a.eval s = v) (hx : a.eval x = .slice (some ⟨H, 0, none⟩) 1 1) (hH : H = w.heap.size) (hown : OLL w B v q L) (hn : L.length ≤ 1099511627776) (hB : B ≤ w.heap.size)
    (hk : k ≤ c) (hr : RI w A k ys) (hA : ∀ ad, A = some ad → 0 < k → some ad.block ≠ v.ownBlock ∧ some ad.block ≠ q ∧ B ≤ ad.block ∧ ad.block < w.heap.size)
    (h : ∀ v' w', OLL w' B v' q (L ++ [ys]) → Below B w w' → w.grownBy w' v.ownBlock → (v'.ownBlock = v.ownBlock ∨ ∃ k, v'.ownBlock = some k ∧ w.heap.size ≤ k) → K (a.put o.dst v') w') :
    if Region.wanted o (yielded ops a.tmps) = true then Oper.wp Tryz.prog o a (w.alloc (.cells #[.slice A k c] T)) K Q else E := by
  obtain ⟨i0, hi0, hz0, hz1, hz2⟩ := info_parts slice_info'
  subst hH
  obtain ⟨vs, h1, h2, h3⟩ := hown
  have hrd : Reads (w.alloc (.cells #[.slice A k c] T)) (w.alloc (.cells #[.slice A k c] T)).heap.size 1 (some ⟨w.heap.size, 0, none⟩) 1 [.slice A k c] := by
    refine ⟨rfl, fun _ => ⟨_, rfl, by simp, fun j u hu => ?_⟩⟩
    cases j with
    | zero => injection hu with hu; subst hu; exact Blk.cell (Blk.new w T #[.slice A k c]) 0
    | succ j => simp at hu
  refine step_append_any _ hgd s x _ ho B 25 i0 _ 1 24 Tryz.underlying143 hi0 hz0 hz1 hz2 rfl (by omega) v L.length vs hs (World.ownsRow.alloc h1 _) _ _ 1 1 [.slice A k c] hx hrd (by intro u hu; rw [List.mem_singleton] at hu; subst hu; rfl) (by unfold maxLen; omega) (by omega) (by simp; omega) ?_
  intro v' w' h4 h5 h6
  have hbw : Below B w w' := below_own ((Below.refl _ _).alloc hB _) h5 (by simp; omega) (fun k hk => (h1.lt k hk).1)
  have hgw : w.grownBy w' v.ownBlock := ⟨h5.os, h5.tape, h5.output, Nat.le_trans (by simp) h5.size, fun k hk hne => (h5.block k (by simp; omega) hne).trans (Below.heap_alloc w _ k hk)⟩
  have h7 : v'.ownBlock = v.ownBlock ∨ ∃ k, v'.ownBlock = some k ∧ w.heap.size ≤ k := by
    rcases h6 with h6 | h6
    · exact .inl h6
    · exact .inr ⟨_, h6, by simp⟩
  refine h v' w' ⟨vs ++ [.slice A k c], by rw [List.length_append]; exact h4, by simp [h2], ?_⟩ hbw hgw h7
  intro i u zs hu hz
  have hrow : RowV w B v.ownBlock q u zs := by
    rcases Nat.lt_or_ge i L.length with hi | hi
    · rw [List.getElem?_append_left (by omega)] at hu hz
      exact h3 i u zs hu hz
    · rw [List.getElem?_append_right (by omega)] at hu hz
      rw [h2] at hu
      cases hd : i - L.length with
      | zero =>
        rw [hd] at hu hz
        injection hu with hu; injection hz with hz
        subst hu; subst hz
        exact ⟨A, k, c, rfl, hk, hr, hA⟩
      | succ j => rw [hd] at hu; simp at hu
  have h8 := hrow.turn h7 (.inl rfl)
  obtain ⟨A', k', c', e1, e2, e3, e4⟩ := hrow
  obtain ⟨A2, k2, c2, f1, f2, f3, f4⟩ := h8
  rw [e1] at f1
  injection f1 with f1 f1' f1''
  subst f1; subst f1'; subst f1''
  exact ⟨A', k', c', e1, e2, e3.kept0 hgw (fun ad e hk => (e4 ad e hk).1), fun ad e hk => ⟨(f4 ad e hk).1, (f4 ad e hk).2.1, (f4 ad e hk).2.2.1, Nat.lt_of_lt_of_le (f4 ad e hk).2.2.2 hgw.size⟩⟩
/-- append of a list, with its block. -/
theorem step_catb {ops : Array Oper} {o : Oper} {a : Act} {K : Act → World → Prop} {Q : Exit → Act → World → Prop} {w : World} {B : Nat} {v : Value} {ys zs : List Int} {A : Option Addr} {m c : Nat} {E : Prop}
    (hgd : o.guard = none) (s x : Operand) (ho : o.op = .call { callee := .builtin .append, args := #[s, x], argTypes := #[25, 25] })
    (hs : a.eval s = v) (hx : a.eval x = .slice A m c) (hown : OI w B v ys) (hr : RI w A m zs) (hn : ys.length + m ≤ 2199023255552) (hB : B ≤ w.heap.size)
    (h : ∀ v' w', OI w' B v' (ys ++ zs) → Below B w w' → w.grownBy w' v.ownBlock → (v'.ownBlock = v.ownBlock ∨ ∃ k, v'.ownBlock = some k ∧ w.heap.size ≤ k) → K (a.put o.dst v') w') :
    if Region.wanted o (yielded ops a.tmps) = true then Oper.wp Tryz.prog o a w K Q else E := by
  obtain ⟨i0, hi0, hz0, hz1, hz2⟩ := info_parts int_info
  refine step_append_any _ hgd s x _ ho B 3 i0 _ 1 8 Tryz.underlying25 hi0 hz0 hz1 hz2 rfl (by omega) v ys.length (ints ys) hs hown _ _ m c (ints zs) hx hr (ints_one _) (by unfold maxLen; omega) (by omega) hB ?_
  intro v' w' h1 h2 h3
  refine h v' w' ?_ (below_own (Below.refl _ _) h2 hB (own_block hown)) h2 ?_
  · unfold OI
    rw [List.length_append, ints_append, hr.len]; exact h1
  · rcases h3 with h3 | h3
    · exact .inl h3
    · exact .inr ⟨_, h3, Nat.le_refl _⟩
end Go.Proofs.YticekkjambkifaaGreatDoor

/- The reference's Rounds, where there is no error. -/
set_option linter.unusedVariables false
set_option linter.unusedSimpArgs false
namespace Go.Proofs.YticekkjambkifaaGreatDoor
open Go.RowKit CoBit CoRat Rt

theorem RI.block_lt' {A : Option Addr} {n : Nat} {xs : List Int} {W : World} (h : RI W A n xs) (hp : 0 < n) : ∀ ad, A = some ad → ad.block < W.heap.size := fun ad e => by
  obtain ⟨ad', he, hb, _⟩ := h.2 hp
  rw [e] at he; injection he with he; rw [he]; exact hb
def lenS : Value → Nat
  | .slice _ n _ => n
  | _ => 0
end Go.Proofs.YticekkjambkifaaGreatDoor

/- Printed by merge.py from RatO, RatQ, RatR, RatT. -/
/- RatioLimits returns true for every three integers. -/
set_option linter.unusedVariables false
namespace Go.Proofs.YticekkjambkifaaGreatDoor.Rt
open Go.RowKit CoRat

theorem q_nat (a b c d : Nat) : qN a b c d = redN false (a * b) (c * d) ∧ qD a b c d = redD (a * b) (c * d) ∧ qE a b c d = redE (a * b) (c * d) := by
  unfold qN qD qE
  rw [decide_eq_false (by omega : ¬ ((a : Int) < 0)), decide_eq_false (by omega : ¬ ((b : Int) < 0)), decide_eq_false (by omega : ¬ ((c : Int) < 0)), decide_eq_false (by omega : ¬ ((d : Int) < 0))]
  exact ⟨rfl, rfl, rfl⟩

/-- The numbers of RatioLimits: what the three fractions and the products come to. -/
theorem limits_math (b p q : Nat) (hb1 : 1152921504606746977 ≤ b) (hb2 : b ≤ M) (hp1 : 1 ≤ p) (hp2 : p ≤ 1000) (hq1 : 1 ≤ q) (hq2 : q ≤ 1000) :
    mkE b p = 0 ∧ mkE q b = 0 ∧
    mulN (mkN b p) (mkD b p) (mkN q b) (mkD q b) = mkN q p ∧ mulD (mkN b p) (mkD b p) (mkN q b) (mkD q b) = mkD q p ∧ mulE (mkN b p) (mkD b p) (mkN q b) (mkD q b) = 0 ∧
    divN (mkN b p) (mkD b p) (mkN b p) (mkD b p) = 1 ∧ divD (mkN b p) (mkD b p) (mkN b p) (mkD b p) = 1 ∧ divE (mkN b p) (mkD b p) (mkN b p) (mkD b p) = 0 ∧
    mulE (mkN b 1) (mkD b 1) (mkN ((2 + p : Nat) : Int) 1) (mkD ((2 + p : Nat) : Int) 1) = 3 := by
  have hM : M = 1152921504606846976 := rfl
  obtain ⟨x1, x2, x3⟩ := mk_small (a := b) (b := p) (by omega) hb2 (by omega)
  obtain ⟨y1, y2, y3⟩ := mk_small (a := q) (b := b) (by omega) (by omega) hb2
  obtain ⟨z1, z2, z3⟩ := mk_small (a := q) (b := p) (by omega) (by omega) (by omega)
  obtain ⟨u1, u2, u3⟩ := mk_small (a := b) (b := 1) (by omega) hb2 (by omega)
  obtain ⟨v1, v2, v3⟩ := mk_small (a := 2 + p) (b := 1) (by omega) (by omega) (by omega)
  have ox := ok_small (a := b) (b := p) (by omega) hb2 (by omega)
  have oy := ok_small (a := q) (b := b) (by omega) (by omega) hb2
  have ou := ok_small (a := b) (b := 1) (by omega) hb2 (by omega)
  have ov := ok_small (a := 2 + p) (b := 1) (by omega) (by omega) (by omega)
  have g1 : 0 < Nat.gcd b p := Nat.gcd_pos_of_pos_right b (by omega)
  have g2 : 0 < Nat.gcd q b := Nat.gcd_pos_of_pos_right q (by omega)
  have e1 : b / Nat.gcd b p * Nat.gcd b p = b := Nat.div_mul_cancel (Nat.gcd_dvd_left b p)
  have e2 : p / Nat.gcd b p * Nat.gcd b p = p := Nat.div_mul_cancel (Nat.gcd_dvd_right b p)
  have e3 : q / Nat.gcd q b * Nat.gcd q b = q := Nat.div_mul_cancel (Nat.gcd_dvd_left q b)
  have e4 : b / Nat.gcd q b * Nat.gcd q b = b := Nat.div_mul_cancel (Nat.gcd_dvd_right q b)
  have u1' : mkN (b : Int) 1 = ((b / Nat.gcd b 1 : Nat) : Int) := u1
  have u2' : mkD (b : Int) 1 = ((1 / Nat.gcd b 1 : Nat) : Int) := u2
  have v1' : mkN ((2 + p : Nat) : Int) 1 = (((2 + p) / Nat.gcd (2 + p) 1 : Nat) : Int) := v1
  have v2' : mkD ((2 + p : Nat) : Int) 1 = ((1 / Nat.gcd (2 + p) 1 : Nat) : Int) := v2
  rw [x1, x2, x3, y1, y2, y3, z1, z2, u1', u2', v1', v2']
  unfold mulN mulD mulE divN divD divE
  rw [ox, oy, ou, ov]
  rw [Nat.gcd_one_right, Nat.gcd_one_right, Nat.div_one, Nat.div_one, Nat.div_one]
  generalize b / Nat.gcd b p = XN at *
  generalize p / Nat.gcd b p = XD at *
  generalize q / Nat.gcd q b = YN at *
  generalize b / Nat.gcd q b = YD at *
  have XN0 : 0 < XN := by rcases Nat.eq_zero_or_pos XN with z | z; (rw [z, Nat.zero_mul] at e1; omega); exact z
  have XD0 : 0 < XD := by rcases Nat.eq_zero_or_pos XD with z | z; (rw [z, Nat.zero_mul] at e2; omega); exact z
  have YD0 : 0 < YD := by rcases Nat.eq_zero_or_pos YD with z | z; (rw [z, Nat.zero_mul] at e4; omega); exact z
  have hne : ¬ ((XN : Int) = 0) := by omega
  obtain ⟨m1, m2, m3⟩ := q_nat XN YN XD YD
  obtain ⟨d1, d2, d3⟩ := q_nat XN XD XD XN
  obtain ⟨l1, l2, l3⟩ := q_nat b (2 + p) 1 1
  obtain ⟨r1, r2, r3⟩ := red_eq (u := XN * YN) (v := XD * YD) (u' := q) (v' := p) (Nat.mul_pos XD0 YD0) (by omega) (by
    conv => lhs; rw [← e2]
    conv => rhs; rw [← e3]
    have h1 : XN * YN * (XD * Nat.gcd b p) = XN * Nat.gcd b p * (YN * XD) := by
      rw [Nat.mul_comm XD, Nat.mul_mul_mul_comm]
    have h2 : YN * Nat.gcd q b * (XD * YD) = YD * Nat.gcd q b * (YN * XD) := by
      rw [Nat.mul_comm XD YD, Nat.mul_comm YN (Nat.gcd q b), Nat.mul_mul_mul_comm, Nat.mul_comm (Nat.gcd q b) YD]
    rw [h1, h2, e1, e4]) false
  obtain ⟨s1, s2, s3⟩ := red_eq (u := XN * XD) (v := XD * XN) (u' := 1) (v' := 1) (Nat.mul_pos XD0 XN0) (by omega) (by rw [Nat.mul_one, Nat.one_mul, Nat.mul_comm]) false
  obtain ⟨w1, w2, w3⟩ := red_small (u := q) (v := p) (by omega) (by omega) (by omega)
  have hf : redE (b * (2 + p)) (1 * 1) = 3 := by
    have : fits (b * (2 + p)) (1 * 1) = false := by
      unfold fits
      rw [Nat.mul_one, Nat.gcd_one_right, Nat.div_one, decide_eq_false_iff_not, Nat.mul_add]
      omega
    unfold redE
    rw [this]; rfl
  simp only [Bool.and_self, if_true, if_neg hne]
  rw [m1, m2, m3, d1, d2, d3, r1, r2, r3, s1, s2, s3, w1, w2, w3]
  exact ⟨trivial, trivial, rfl, rfl, rfl, by decide, by decide, by decide, l3.trans hf⟩

end Go.Proofs.YticekkjambkifaaGreatDoor.Rt

/- Add of package ratio. -/
set_option linter.unusedVariables false
namespace Go.Proofs.YticekkjambkifaaGreatDoor.Rt
open Go.RowKit CoRat


end Go.Proofs.YticekkjambkifaaGreatDoor.Rt

/- Sub of package ratio. -/
set_option linter.unusedVariables false
namespace Go.Proofs.YticekkjambkifaaGreatDoor.Rt
open Go.RowKit CoRat


end Go.Proofs.YticekkjambkifaaGreatDoor.Rt

/- Plain laws: what a reduced fraction is, by its value. -/
set_option linter.unusedVariables false
namespace Go.Proofs.YticekkjambkifaaGreatDoor.Rt
open CoRat

theorem sg_mul (s : Bool) (x y : Int) : sg s x * y = sg s (x * y) := by cases s <;> simp [sg, Int.neg_mul]
theorem natAbs_sg (s : Bool) (x : Int) : (sg s x).natAbs = x.natAbs := by cases s <;> simp [sg]
/-- A reduced fraction that fits is valid and has the value of what was reduced. -/
theorem red_val (s : Bool) (u v : Nat) (hv : 0 < v) (hf : fits u v = true) :
    okF (redN s u v) (redD u v) = true ∧ redE u v = 0 ∧ 0 < redD u v ∧ redN s u v * (v : Int) = sg s (u : Int) * redD u v := by
  have g0 : 0 < Nat.gcd u v := Nat.gcd_pos_of_pos_right u hv
  have c := Nat.coprime_div_gcd_div_gcd g0
  have e1 : u / Nat.gcd u v * Nat.gcd u v = u := Nat.div_mul_cancel (Nat.gcd_dvd_left u v)
  have e2 : v / Nat.gcd u v * Nat.gcd u v = v := Nat.div_mul_cancel (Nat.gcd_dvd_right u v)
  have l3 : 0 < v / Nat.gcd u v := Nat.div_pos (Nat.le_of_dvd hv (Nat.gcd_dvd_right u v)) g0
  have hb : u / Nat.gcd u v ≤ M ∧ v / Nat.gcd u v ≤ M := by unfold fits at hf; exact of_decide_eq_true hf
  have h1 : redN s u v = sg s ((u / Nat.gcd u v : Nat) : Int) := by unfold redN; rw [hf]; cases s <;> rfl
  have h2 : redD u v = ((v / Nat.gcd u v : Nat) : Int) := by unfold redD; rw [hf]; rfl
  have h3 : redE u v = 0 := by unfold redE; rw [hf]; rfl
  rw [h1, h2, h3]
  generalize Nat.gcd u v = g at *
  generalize u / g = a at *
  generalize v / g = b at *
  unfold M at hb
  refine ⟨?_, rfl, by omega, ?_⟩
  · unfold okF
    rw [decide_eq_true_iff, natAbs_sg]
    refine ⟨?_, ?_, by omega, by omega, by simpa using c⟩ <;> (cases s <;> simp [sg] <;> omega)
  · rw [sg_mul, sg_mul, ← e1, ← e2, ← Int.natCast_mul, ← Int.natCast_mul, Nat.mul_assoc, Nat.mul_comm g b]
/-- Valid fractions of one value are the same. -/
theorem ok_inj {n d n' d' : Int} (h : okF n d = true) (h' : okF n' d' = true) (e : n * d' = n' * d) : n = n' ∧ d = d' := by
  have b := okF_bd h
  have b' := okF_bd h'
  have e2 : n.natAbs * d'.natAbs = n'.natAbs * d.natAbs := by rw [← Int.natAbs_mul, ← Int.natAbs_mul, e]
  obtain ⟨q1, q2⟩ := low_eq (u := n.natAbs) (v := d.natAbs) (u' := n'.natAbs) (v' := d'.natAbs) (by omega) (by omega) e2
  rw [b.2.2.2.2, b'.2.2.2.2, Nat.div_one, Nat.div_one] at q2
  have hd : d = d' := by omega
  refine ⟨?_, hd⟩
  rw [hd] at e
  exact Int.eq_of_mul_eq_mul_right (by omega) e
theorem fits_of (u v : Nat) (h1 : u ≤ M) (h2 : v ≤ M) : fits u v = true := by
  unfold fits
  rw [decide_eq_true_iff]
  exact ⟨Nat.le_trans (Nat.div_le_self _ _) h1, Nat.le_trans (Nat.div_le_self _ _) h2⟩
theorem sg_abs (n : Int) : sg (decide (n < 0)) (n.natAbs : Int) = n := by unfold sg; by_cases h : n < 0 <;> simp [h] <;> omega
/-- Make: a small fraction is valid and has its value. -/
theorem mk_val (a b : Int) (hb : 0 < b) (h1 : a.natAbs ≤ M) (h2 : b.natAbs ≤ M) : okF (mkN a b) (mkD a b) = true ∧ mkE a b = 0 ∧ 0 < mkD a b ∧ mkN a b * b = a * mkD a b := by
  have hne : ¬ b = 0 := by omega
  unfold mkN mkD mkE
  rw [if_neg hne, if_neg hne, if_neg hne, decide_eq_false (by omega : ¬ b < 0), Bool.bne_false]
  obtain ⟨k1, k2, k3, k4⟩ := red_val (decide (a < 0)) a.natAbs b.natAbs (by omega) (fits_of _ _ h1 h2)
  rw [sg_abs] at k4
  have : ((b.natAbs : Nat) : Int) = b := by omega
  rw [this] at k4
  exact ⟨k1, k2, k3, k4⟩
theorem ps_val (u v : Nat) (m n : Bool) : sg (psg u v m n) (psz u v m n : Int) = sg m u + sg n v := by
  unfold psg psz sg
  by_cases h : u < v <;> cases m <;> cases n <;> simp [h] <;> omega
theorem sg_mul_abs (a d : Int) (hd : 0 < d) : sg (decide (a < 0) != decide (d < 0)) ((a.natAbs * d.natAbs : Nat) : Int) = a * d := by
  rw [decide_eq_false (by omega : ¬ d < 0), Bool.bne_false, Int.natCast_mul, show ((d.natAbs : Nat) : Int) = d by omega, ← sg_mul, sg_abs]
theorem psz_le (u v : Nat) (m n : Bool) : psz u v m n ≤ u + v := by unfold psz; split <;> (try split) <;> omega
/-- Add of two valid fractions whose sum has small numbers. -/
theorem add_val (a b c d : Int) (hx : okF a b = true) (hy : okF c d = true) (h1 : a.natAbs * d.natAbs + c.natAbs * b.natAbs ≤ M) (h2 : b.natAbs * d.natAbs ≤ M) :
    okF (addN a b c d) (addD a b c d) = true ∧ addE a b c d = 0 ∧ 0 < addD a b c d ∧ addN a b c d * (b * d) = (a * d + c * b) * addD a b c d := by
  have bx := okF_bd hx
  have bz := okF_bd hy
  unfold addN addD addE
  rw [hx, hy]
  simp only [Bool.and_self, if_true]
  by_cases hc : c = 0
  · rw [if_pos hc, if_pos hc, if_pos hc]
    exact ⟨hx, rfl, by omega, by rw [hc, Int.zero_mul, Int.add_zero, Int.mul_assoc, Int.mul_comm d b]⟩
  · rw [if_neg hc, if_neg hc, if_neg hc]
    have hs : (decide (b < 0) != decide (d < 0)) = false := by rw [decide_eq_false (by omega : ¬ b < 0), decide_eq_false (by omega : ¬ d < 0)]; rfl
    rw [hs, Bool.bne_false]
    have hz := psz_le (a.natAbs * d.natAbs) (c.natAbs * b.natAbs) (decide (a < 0) != decide (d < 0)) (decide (c < 0) != decide (b < 0))
    obtain ⟨k1, k2, k3, k4⟩ := red_val (psg (a.natAbs * d.natAbs) (c.natAbs * b.natAbs) (decide (a < 0) != decide (d < 0)) (decide (c < 0) != decide (b < 0))) (psz (a.natAbs * d.natAbs) (c.natAbs * b.natAbs) (decide (a < 0) != decide (d < 0)) (decide (c < 0) != decide (b < 0))) (b.natAbs * d.natAbs) (Nat.mul_pos (by omega) (by omega)) (fits_of _ _ (by omega) h2)
    rw [ps_val, sg_mul_abs a d (by omega), sg_mul_abs c b (by omega)] at k4
    refine ⟨k1, k2, k3, ?_⟩
    rw [← k4, Int.natCast_mul, show ((b.natAbs : Nat) : Int) = b by omega, show ((d.natAbs : Nat) : Int) = d by omega]
theorem sg_not (s : Bool) (x : Int) : sg (!s) x = -sg s x := by cases s <;> simp [sg]
/-- Sub of two valid fractions whose difference has small numbers. -/
theorem sub_val (a b c d : Int) (hx : okF a b = true) (hy : okF c d = true) (h1 : a.natAbs * d.natAbs + c.natAbs * b.natAbs ≤ M) (h2 : b.natAbs * d.natAbs ≤ M) :
    okF (subN a b c d) (subD a b c d) = true ∧ subE a b c d = 0 ∧ 0 < subD a b c d ∧ subN a b c d * (b * d) = (a * d - c * b) * subD a b c d := by
  have bx := okF_bd hx
  have bz := okF_bd hy
  unfold subN subD subE
  rw [hx, hy]
  simp only [Bool.and_self, if_true]
  by_cases hc : c = 0
  · rw [if_pos hc, if_pos hc, if_pos hc]
    exact ⟨hx, rfl, by omega, by rw [hc, Int.zero_mul, Int.sub_zero, Int.mul_assoc, Int.mul_comm d b]⟩
  · rw [if_neg hc, if_neg hc, if_neg hc]
    have hs : (decide (b < 0) != decide (d < 0)) = false := by rw [decide_eq_false (by omega : ¬ b < 0), decide_eq_false (by omega : ¬ d < 0)]; rfl
    rw [hs, Bool.bne_false]
    have hz := psz_le (a.natAbs * d.natAbs) (c.natAbs * b.natAbs) (decide (a < 0) != decide (d < 0)) (!(decide (c < 0) != decide (b < 0)))
    obtain ⟨k1, k2, k3, k4⟩ := red_val (psg (a.natAbs * d.natAbs) (c.natAbs * b.natAbs) (decide (a < 0) != decide (d < 0)) (!(decide (c < 0) != decide (b < 0)))) (psz (a.natAbs * d.natAbs) (c.natAbs * b.natAbs) (decide (a < 0) != decide (d < 0)) (!(decide (c < 0) != decide (b < 0)))) (b.natAbs * d.natAbs) (Nat.mul_pos (by omega) (by omega)) (fits_of _ _ (by omega) h2)
    rw [ps_val, sg_mul_abs a d (by omega), sg_not, sg_mul_abs c b (by omega), ← Int.sub_eq_add_neg] at k4
    refine ⟨k1, k2, k3, ?_⟩
    rw [← k4, Int.natCast_mul, show ((b.natAbs : Nat) : Int) = b by omega, show ((d.natAbs : Nat) : Int) = d by omega]
/-- The value of a quotient of products. -/
theorem q_val (a b c d : Int) (hc : 0 < c) (hd : 0 < d) (h1 : a.natAbs * b.natAbs ≤ M) (h2 : c.natAbs * d.natAbs ≤ M) :
    okF (qN a b c d) (qD a b c d) = true ∧ qE a b c d = 0 ∧ 0 < qD a b c d ∧ qN a b c d * (c * d) = (a * b) * qD a b c d := by
  unfold qN qD qE
  rw [decide_eq_false (by omega : ¬ c < 0), decide_eq_false (by omega : ¬ d < 0), show (false != false) = false from rfl, Bool.bne_false]
  obtain ⟨k1, k2, k3, k4⟩ := red_val (decide (a < 0) != decide (b < 0)) (a.natAbs * b.natAbs) (c.natAbs * d.natAbs) (Nat.mul_pos (by omega) (by omega)) (fits_of _ _ h1 h2)
  refine ⟨k1, k2, k3, ?_⟩
  rw [Int.natCast_mul, show ((c.natAbs : Nat) : Int) = c by omega, show ((d.natAbs : Nat) : Int) = d by omega] at k4
  rw [k4]
  congr 1
  by_cases hab : a * b = 0
  · have : a.natAbs * b.natAbs = 0 := by rw [← Int.natAbs_mul, hab]; rfl
    rw [this, hab]
    generalize (decide (a < 0) != decide (b < 0)) = s
    cases s <;> simp [sg]
  · rw [← neg_mul_sign a b hab, ← Int.natAbs_mul, sg_abs]
theorem mul_val (a b c d : Int) (hx : okF a b = true) (hy : okF c d = true) (h1 : a.natAbs * c.natAbs ≤ M) (h2 : b.natAbs * d.natAbs ≤ M) :
    okF (mulN a b c d) (mulD a b c d) = true ∧ mulE a b c d = 0 ∧ 0 < mulD a b c d ∧ mulN a b c d * (b * d) = (a * c) * mulD a b c d := by
  have bx := okF_bd hx
  have bz := okF_bd hy
  unfold mulN mulD mulE
  rw [hx, hy]
  simp only [Bool.and_self, if_true]
  exact q_val a c b d (by omega) (by omega) h1 h2
end Go.Proofs.YticekkjambkifaaGreatDoor.Rt

/- Printed by merge.py from BitG, BstA, BstM, BstN. -/
/- Reference 03: Count, Size, Set of bits in a number. -/
set_option linter.unusedVariables false
set_option linter.unusedSimpArgs false
namespace Go.Proofs.YticekkjambkifaaGreatDoor
open Go.RowKit CoBit
theorem pop_step {y : Nat} (h0 : 0 < y) (h : y < 18446744073709551616) : pop y = pop (y &&& (y - 1)) + 1 := by
  rw [pop_bl, pop_bl, bl_step h0 h, List.length_cons]
set_option maxRecDepth 100000 in
set_option maxHeartbeats 1000000 in
theorem rsize_any (x : Nat) (hx : x < 4611686018427387904) (w : World) :
    Calls Tryz.prog 31 #[.int .i64 x] w fun e w' => e = .returned (.int .i64 (pop x : Nat)) ∧ w' = w := by
  have h64 : pop x ≤ 64 := by rw [pop_bl]; exact bl_length _
  go_enter Tryz.func31, Tryz.ntmps31
  go_wp2_with fail
  go_loopw [0, 3] (fun v i wr => ∃ (y k : Nat), v = .int .i64 y ∧ i = .int .i64 k ∧ k + pop y = pop x ∧ y ≤ x ∧ wr = w) (fun v _ _ => (intOf v).toNat)
  case atStart => exact ⟨x, 0, rfl, rfl, by omega, Nat.le_refl _, rfl⟩
  case round =>
    obtain ⟨y, k, rfl, rfl, hk, hy, hw⟩ := hrel
    by_cases h0 : 0 < y
    · have i0 : (0 : Int) < (y : Int) := by omega
      have hs := pop_step h0 (by omega)
      have hlt := and_pred_lt h0
      have hb : bits .and .i64 (y : Int) ((y : Int) - 1) = ((y &&& (y - 1) : Nat) : Int) := by
        rw [show (y : Int) - 1 = ((y - 1 : Nat) : Int) by omega]
        exact i64_and_nat y (y - 1) (by omega) (by omega)
      generalize y &&& (y - 1) = z at *
      go_wp2_with fail
      go_roundw
      case rel => exact ⟨z, k + 1, rfl, by go_num, by omega, by omega, by first | exact hw | trivial⟩
      case measure => simp [intOf]; omega
    · obtain rfl : y = 0 := by omega
      have hp : k = pop x := by rw [← hk]; simp [pop_bl, bl, bitsIn]
      subst hw
      go_wp2_with fail
      go_ret
      exact ⟨retInt (by rw [hp]), rfl⟩
theorem bset_step {x k : Nat} : (bset x).filter (fun i => decide (i < ((k + 1 : Nat) : Int))) = (bset x).filter (fun i => decide (i < (k : Int))) ++ (if k < 64 ∧ x.testBit k = true then [(k : Int)] else []) := by
  refine sorted_ext ((bset_sorted x).filter _) ?_ fun y => ?_
  · refine List.pairwise_append.2 ⟨(bset_sorted x).filter _, by split <;> simp, fun a ha b hb => ?_⟩
    split at hb
    · rw [List.mem_singleton] at hb
      subst hb
      simpa using (List.mem_filter.1 ha).2
    · cases hb
  · rw [List.mem_append, List.mem_filter, List.mem_filter]
    constructor
    · rintro ⟨h1, h2⟩
      rw [decide_eq_true_eq] at h2
      by_cases h3 : y < (k : Int)
      · exact .inl ⟨h1, decide_eq_true h3⟩
      · obtain rfl : y = (k : Int) := by omega
        rw [if_pos (mem_bset.1 h1)]
        exact .inr (by simp)
    · rintro (⟨h1, h2⟩ | h)
      · rw [decide_eq_true_eq] at h2
        exact ⟨h1, decide_eq_true (by omega)⟩
      · split at h
        · rename_i hk
          rw [List.mem_singleton] at h
          subst h
          exact ⟨mem_bset.2 hk, decide_eq_true (by omega)⟩
        · cases h
set_option maxRecDepth 100000 in
set_option maxHeartbeats 1000000 in
theorem rset_any (x : Nat) (hx : x < 4611686018427387904) (w : World) :
    Calls Tryz.prog 32 #[.int .i64 x] w (RetI w (bset x)) := by
  have hx64 : x / 2 ^ 62 = 0 := Nat.div_eq_of_lt (by rw [show (2 : Nat) ^ 62 = 4611686018427387904 by decide +kernel]; exact hx)
  go_enter Tryz.func32, Tryz.ntmps32
  go_wp2_with fail
  go_loopw [3, 4] (fun v i wr => ∃ (k : Nat) (o : Value), o = v ∧ i = .int .i64 k ∧ k ≤ 62 ∧ OI wr w.heap.size o ((bset x).filter fun i => decide (i < (k : Int))) ∧ Below w.heap.size w wr) (fun _ i _ => 62 - (intOf i).toNat)
  case atStart => exact ⟨0, _, rfl, rfl, Nat.zero_le _, by
    have e : (bset x).filter (fun i => decide (i < ((0 : Nat) : Int))) = [] := List.filter_eq_nil_iff.2 fun y hy => by
      obtain ⟨i, hi, rfl⟩ := List.mem_map.1 (show y ∈ (bl x).map fun i : Nat => (i : Int) from hy)
      simp
    rw [e]; exact OI.nil_, Below.refl _ _⟩
  case round =>
    obtain ⟨k, o, rfl, rfl, hk, ho, hb⟩ := hrel
    have hsh : (x : Int) / 2 ^ k = ((x / 2 ^ k : Nat) : Int) := by
      rw [Int.natCast_ediv, Int.natCast_pow]; rfl
    have hkm : min k 64 = k := Nat.min_eq_left (by omega)
    by_cases h0 : 0 < x / 2 ^ k
    · have hk62 : k < 62 := by
        rcases Nat.lt_or_ge k 62 with h | h
        · exact h
        · obtain rfl : k = 62 := by omega
          omega
      have hst := Lib.hid (bset_step (x := x) (k := k))
      have hle : x / 2 ^ k ≤ x := Nat.div_le_self _ _
      have hband : bits .and .i64 ((x / 2 ^ k : Nat) : Int) 1 = ((x / 2 ^ k % 2 : Nat) : Int) := by
        have := i64_and_nat (x / 2 ^ k) 1 (by omega) (by omega)
        rw [Nat.and_one_is_mod] at this
        exact this
      have htb : x.testBit k = decide (x / 2 ^ k % 2 = 1) := by
        rw [Nat.testBit_eq_decide_div_mod_eq]
      have hlf : ((bset x).filter fun i => decide (i < (k : Int))).length ≤ 64 := Nat.le_trans (List.length_filter_le _ _) (bset_length x)
      have i0 : (0 : Int) < ((x / 2 ^ k : Nat) : Int) := by omega
      rw [htb] at hst
      obtain ⟨Ao, no, co, rfl, hno, hco, -, -⟩ := ho.form
      replace hno := Lib.hid hno
      clear htb hx64
      rcases Nat.mod_two_eq_zero_or_one (x / 2 ^ k) with hz | hz
      · rw [hz] at hst hband
        generalize x / 2 ^ k = X at *
        have hst2 := hst.out
        rw [if_neg (by simp), List.append_nil] at hst2
        replace hst2 := Lib.hid hst2
        clear hst hz
        generalize ((bset x).filter fun i => decide (i < (k : Int))) = L at *
        clear hno
        go_wp2_with fail
        go_roundw
        case rel => exact ⟨k + 1, _, rfl, by go_num, by omega, by rw [hst2.out]; exact ho, hb⟩
        case measure => simp [intOf]; omega
      · rw [hz] at hst hband
        generalize x / 2 ^ k = X at *
        have hst2 := hst.out
        rw [if_pos ⟨by omega, by simp⟩] at hst2
        replace hst2 := Lib.hid hst2
        clear hst hz
        generalize ((bset x).filter fun i => decide (i < (k : Int))) = L at *
        clear hno
        go_wp2_with (at_builtin; refine wpList_push rfl _ _ rfl rfl rfl (by simp) ho (by omega) hb.size ?_; intro v7 wd ho7 hb7 hg7)
        go_roundw
        case rel => exact ⟨k + 1, v7, rfl, by go_num, by omega, by rw [hst2.out]; exact ho7, hb.trans hb7⟩
        case measure => simp [intOf]; omega
    · have hz : x / 2 ^ k = 0 := Nat.eq_zero_of_not_pos h0
      have hall : (bset x).filter (fun i => decide (i < (k : Int))) = bset x := List.filter_eq_self.2 fun y hy => by
        obtain ⟨i, hi, rfl⟩ := List.mem_map.1 (show y ∈ (bl x).map fun i : Nat => (i : Int) from hy)
        have h1 := (mem_bl.1 hi).2
        refine decide_eq_true ?_
        rcases Nat.lt_or_ge i k with h | h
        · exact Int.ofNat_lt.2 h
        · exfalso
          have h2 : x < 2 ^ k := by
            rcases Nat.lt_or_ge x (2 ^ k) with h3 | h3
            · exact h3
            · have := Nat.div_pos h3 (Nat.two_pow_pos k); omega
          rw [Nat.testBit_lt_two_pow (Nat.lt_of_lt_of_le h2 (Nat.pow_le_pow_right (by omega) h))] at h1
          cases h1
      rw [hz] at hsh
      rw [hall] at ho
      have hret := ho.ret hb (Nat.le_refl _)
      replace hret := Lib.hid hret
      clear h0 hz hall hx64
      go_wp2_with fail
      go_ret
      exact hret.out
theorem insE_take {es : List (Int × Int)} {k : Nat} {e : Int × Int} (S : List Int) (h : es[k]? = some e) : insE (es.take (k + 1)) S = insE (es.take k) S + (if e.1 ∈ S ∧ e.2 ∈ S then 1 else 0) := by
  rw [show es.take (k + 1) = es.take k ++ [e] from by
    obtain ⟨hk, rfl⟩ := List.getElem?_eq_some_iff.1 h
    exact List.take_succ_eq_append_getElem hk]
  unfold insE
  rw [List.filter_append, List.length_append]
  congr 1
  by_cases hh : e.1 ∈ S ∧ e.2 ∈ S
  · rw [if_pos hh, List.filter_cons, if_pos (by simpa using hh)]; rfl
  · rw [if_neg hh, List.filter_cons, if_neg (by simpa using hh)]; rfl
set_option maxRecDepth 100000 in
set_option maxHeartbeats 1000000 in
theorem rcount_any (A : Option Addr) (m c : Nat) (n : Nat) (es : List (Int × Int)) (x : Nat) (w : World) (h : RE w A m es) (hm : m ≤ 1099511627776) (hz : chkG n es = 0) (hn : n ≤ 62) (hx : x < 4611686018427387904) :
    Calls Tryz.prog 30 #[.agg #[.int .i64 n, .slice A m c], .int .i64 x] w fun e w' => e = .returned (.int .i64 (insE es (bset x) : Nat)) ∧ Below w.heap.size w w' := by
  have hlt := Lib.hid (chkE_lt (chkG_zero hz).2.2)
  have hel := Lib.hid h.len
  have hb0 : Below w.heap.size w (w.alloc (.cells #[.int .i64 n, .slice A m c] 24)) := (Below.refl _ w).alloc (Nat.le_refl _) _
  have h1 := h.alloc (.cells #[.int .i64 n, .slice A m c] 24)
  have hG := Blk.new w 24 #[.int .i64 n, .slice A m c]
  clear hz
  go_enter Tryz.func30, Tryz.ntmps30
  go_upto_region 2 with fail
  generalize w.alloc (.cells #[.int .i64 n, .slice A m c] 24) = w1 at *
  have d1 := Blk.cell hG 1
  simp at d1
  go_upto_region 3 with fail
  go_loopw [5, 11] (fun v i wr => ∃ (k : Nat), k ≤ m ∧ i = .int .i64 k ∧ v = .int .i64 (insE (es.take k) (bset x) : Nat) ∧ Below w1.heap.size w1 wr) (fun _ i _ => m - (intOf i).toNat)
  case atStart => exact ⟨0, Nat.zero_le _, rfl, rfl, Below.refl _ _⟩
  case round =>
    obtain ⟨k, hk, rfl, rfl, hb⟩ := hrel
    by_cases hkm : k < m
    · have i0 : (k : Int) < (m : Int) := by omega
      obtain ⟨ad, u, v, rfl, hab, he, c0, c1⟩ := (RE.below h1 hb (Nat.le_refl _)).get hkm
      have hr := hlt.out _ (List.mem_of_getElem? he.out)
      simp only at hr
      obtain ⟨u, rfl⟩ := Int.eq_ofNat_of_zero_le (show 0 ≤ u by omega)
      obtain ⟨v, rfl⟩ := Int.eq_ofNat_of_zero_le (show 0 ≤ v by omega)
      have hst := insE_take (bset x) he.out
      have hle : insE (es.take k) (bset x) ≤ 1099511627776 := Nat.le_trans (insE_le _ _) (by rw [List.length_take]; omega)
      have hu : (x : Int) / 2 ^ u = ((x / 2 ^ u : Nat) : Int) := by rw [Int.natCast_ediv, Int.natCast_pow]; rfl
      have hv : (x : Int) / 2 ^ v = ((x / 2 ^ v : Nat) : Int) := by rw [Int.natCast_ediv, Int.natCast_pow]; rfl
      have hum : min u 64 = u := Nat.min_eq_left (by omega)
      have hvm : min v 64 = v := Nat.min_eq_left (by omega)
      have bu : x / 2 ^ u ≤ x := Nat.div_le_self _ _
      have bv : x / 2 ^ v ≤ x := Nat.div_le_self _ _
      have a1 := i64_and_nat (x / 2 ^ u) (x / 2 ^ v) (by omega) (by omega)
      have bz : x / 2 ^ u &&& x / 2 ^ v ≤ x / 2 ^ u := Nat.and_le_left
      have a2 : bits .and .i64 ((x / 2 ^ u &&& x / 2 ^ v : Nat) : Int) 1 = (((x / 2 ^ u &&& x / 2 ^ v) % 2 : Nat) : Int) := by
        have := i64_and_nat (x / 2 ^ u &&& x / 2 ^ v) 1 (by omega) (by omega)
        rw [Nat.and_one_is_mod] at this
        exact this
      have hval : (x / 2 ^ u &&& x / 2 ^ v) % 2 = if ((u : Int), (v : Int)).1 ∈ bset x ∧ ((u : Int), (v : Int)).2 ∈ bset x then 1 else 0 := by
        have t1 : (u : Int) ∈ bset x ↔ x.testBit u = true := by rw [mem_bset]; exact ⟨fun h => h.2, fun h => ⟨by omega, h⟩⟩
        have t2 : (v : Int) ∈ bset x ↔ x.testBit v = true := by rw [mem_bset]; exact ⟨fun h => h.2, fun h => ⟨by omega, h⟩⟩
        show _ = if (u : Int) ∈ bset x ∧ (v : Int) ∈ bset x then 1 else 0
        have e1 : (x / 2 ^ u &&& x / 2 ^ v).testBit 0 = (x.testBit u && x.testBit v) := by
          rw [Nat.testBit_and, Nat.testBit_div_two_pow, Nat.testBit_div_two_pow, Nat.zero_add, Nat.zero_add]
        rw [Nat.testBit_zero] at e1
        by_cases hc : x.testBit u = true ∧ x.testBit v = true
        · rw [if_pos ⟨t1.2 hc.1, t2.2 hc.2⟩]
          rw [hc.1, hc.2] at e1
          simpa using e1
        · rw [if_neg (fun h => hc ⟨t1.1 h.1, t2.1 h.2⟩)]
          have e2 : (x.testBit u && x.testBit v) = false := by
            rw [Bool.and_eq_false_iff]
            rcases Bool.eq_false_or_eq_true (x.testBit u) with h | h
            · rcases Bool.eq_false_or_eq_true (x.testBit v) with h' | h'
              · exact absurd ⟨h, h'⟩ hc
              · exact .inr h'
            · exact .inl h
          rw [e2] at e1
          have e3 := of_decide_eq_false e1
          generalize x / 2 ^ u &&& x / 2 ^ v = T at *
          clear a1 a2 bz bu bv hu hv
          omega
      rw [← hval] at hst
      have hz2 : (x / 2 ^ u &&& x / 2 ^ v) % 2 ≤ 1 := by omega
      generalize (x / 2 ^ u &&& x / 2 ^ v) % 2 = Z at *
      generalize x / 2 ^ u &&& x / 2 ^ v = Y at *
      generalize x / 2 ^ u = X1 at *
      generalize x / 2 ^ v = X2 at *
      replace hst := Lib.hid hst
      generalize insE (es.take k) (bset x) = I at *
      have hbn := hb.alloc hb.size (.cells #[.int .i64 u, .int .i64 v] 59)
      clear hval he hr
      go_wp2_with fail
      go_roundw
      case rel => exact ⟨k + 1, by omega, by go_num, by rw [hst.out]; go_num, hbn⟩
      case measure => simp [intOf]; omega
    · obtain rfl : k = m := by omega
      have hall : insE (es.take k) (bset x) = insE es (bset x) := by rw [List.take_of_length_le (by rw [hel.out]; exact Nat.le_refl _)]
      have hbe := hb0.trans (hb.mono hb0.size)
      go_wp2_with fail
      go_ret
      exact ⟨retInt (by rw [hall]), hbe⟩
end Go.Proofs.YticekkjambkifaaGreatDoor

/- Reference 19: Best. -/
set_option linter.unusedVariables false
set_option linter.unusedSimpArgs false
namespace Go.Proofs.YticekkjambkifaaGreatDoor
open Go.RowKit CoBit CoRat Rt
/-- The best of the sets 1 .. j: its bits, its edges, its nodes. -/
def bR (es : List (Int × Int)) : Nat → Nat × Nat × Nat
  | 0 => (0, 0, 1)
  | j + 1 => if (bR es j).2.1 * pop (j + 1) < insE es (bset (j + 1)) * (bR es j).2.2 ∨ insE es (bset (j + 1)) * (bR es j).2.2 = (bR es j).2.1 * pop (j + 1) ∧ pop (bR es j).1 ≤ pop (j + 1)
      then (j + 1, insE es (bset (j + 1)), pop (j + 1)) else bR es j
section
variable {es : List (Int × Int)}
theorem bR_le (j : Nat) : (bR es j).1 ≤ j ∧ (bR es j).2.1 ≤ es.length := by
  induction j with
  | zero => exact ⟨Nat.le_refl _, Nat.zero_le _⟩
  | succ j ih =>
    rw [bR]
    split
    · exact ⟨Nat.le_refl _, insE_le _ _⟩
    · exact ⟨by omega, ih.2⟩
theorem pop_le (x : Nat) : pop x ≤ 64 := by rw [pop_bl]; exact bl_length x
theorem pop_ge {x : Nat} (h0 : 0 < x) (h : x < 18446744073709551616) : 0 < pop x := by rw [pop_step h0 h]; omega
theorem bR_den (j : Nat) (hj : j < 4611686018427387904) : 0 < (bR es j).2.2 ∧ (bR es j).2.2 ≤ 64 := by
  induction j with
  | zero => exact ⟨Nat.one_pos, by show 1 ≤ 64; omega⟩
  | succ j ih =>
    rw [bR]
    split
    · exact ⟨pop_ge (by omega) (by omega), pop_le _⟩
    · exact ih (by omega)
end
set_option maxRecDepth 100000 in
set_option maxHeartbeats 4000000 in
theorem rbest_any (A : Option Addr) (m c : Nat) (n : Nat) (es : List (Int × Int)) (w : World) (h : RE w A m es) (hm : m ≤ 68719476736) (hz : chkG n es = 0) (hn : n ≤ 40) (hml : m ≤ 4096) :
    Calls Tryz.prog 10 #[.agg #[.int .i64 n, .slice A m c]] w fun e w' => ∃ A' k c', e = .returned (.tuple #[.slice A' k c', .agg #[.int .i64 (mkN (bR es (2 ^ n - 1)).2.1 (bR es (2 ^ n - 1)).2.2), .int .i64 (mkD (bR es (2 ^ n - 1)).2.1 (bR es (2 ^ n - 1)).2.2)], .int .i64 0]) ∧ k ≤ c' ∧ RI w' A' k (bset (bR es (2 ^ n - 1)).1) ∧ Below w.heap.size w w' := by
  have kck := fun w h => rcheck_any A m c n es w h (by omega)
  rw [hz] at kck
  have hel := Lib.hid h.len
  have hp40 : 2 ^ n ≤ 1099511627776 := by
    have := Nat.pow_le_pow_right (n := 2) (by omega) hn
    rw [show (2 : Nat) ^ 40 = 1099511627776 by decide +kernel] at this
    exact this
  have hp1 : 0 < 2 ^ n := Nat.two_pow_pos n
  have kcn := Lib.hid (fun x hx w h => rcount_any A m c n es x w h (by omega) hz (by omega) hx)
  have ksz := Lib.hid (fun x hx w => rsize_any x hx w)
  have kst := Lib.hid (fun x hx w => rset_any x hx w)
  replace kck := Lib.hid kck
  clear hz
  have hb0 : Below w.heap.size w ((w.alloc (.cells #[.int .i64 n, .slice A m c] 24)).alloc (.cells #[.int .i64 0, .int .i64 0] 34)) := ((Below.refl _ w).alloc (Nat.le_refl _) _).alloc (by simp) _
  go_enter Tryz.func10, Tryz.ntmps10
  go_wp2_with fail
  refine (kck.out _ ((h.alloc _).alloc _)).mono ?_
  rintro e w1 ⟨rfl, hb1⟩
  have G1 : Blk w1 w.heap.size 24 #[.int .i64 n, .slice A m c] := Blk.below ((Blk.new w _ _).alloc _) hb1 (by simp; omega)
  have R1 : Blk w1 (w.heap.size + 1) 34 #[.int .i64 0, .int .i64 0] := Blk.below (Blk.new' _ _ _ (by simp)) hb1 (by simp)
  have hb01 := hb0.trans (hb1.mono (by simp; omega))
  have hE1 := h.below hb01 (Nat.le_refl _)
  have s1 := R1.lt
  clear hb1 hb0 kck
  go_wp2_with fail
  go_loopw [6, 7, 8, 9] (fun b nu de i wr => ∃ (j : Nat), i = .int .i64 ((j : Int) + 1) ∧ j + 1 ≤ 2 ^ n ∧ b = .int .i64 ((bR es j).1 : Nat) ∧ nu = .int .i64 ((bR es j).2.1 : Nat) ∧ de = .int .i64 ((bR es j).2.2 : Nat) ∧ Below w1.heap.size w1 wr) (fun _ _ _ i _ => 2 ^ n - (intOf i).toNat)
  case atStart => exact ⟨0, rfl, hp1, rfl, rfl, rfl, Below.refl _ _⟩
  case round =>
    obtain ⟨j, rfl, hj, rfl, rfl, rfl, hb⟩ := hrel
    have Gr := G1.below hb G1.lt
    obtain ⟨d0, d1⟩ := blkG Gr
    have hEr := hE1.below hb (Nat.le_refl _)
    have hnm : min n 64 = n := Nat.min_eq_left (by omega)
    have hw2 : IntKind.i64.wrap ((2 : Int) ^ n) = ((2 ^ n : Nat) : Int) := by
      rw [show (2 : Int) ^ n = ((2 ^ n : Nat) : Int) by rw [Int.natCast_pow]; rfl]
      exact IntWalk.i64_in _ ⟨by omega, by omega⟩
    by_cases hlt : j + 1 < 2 ^ n
    · have hbl := bR_le (es := es) j
      have hbd := bR_den (es := es) j (by omega)
      have hI : insE es (bset (j + 1)) ≤ 4096 := Nat.le_trans (insE_le _ _) (by have := hel.out; omega)
      have hnu : (bR es j).2.1 ≤ 4096 := by have := hel.out; omega
      have hK := pop_le (j + 1)
      have hst := Lib.hid (show bR es (j + 1) = _ from bR.eq_2 es j)
      have kc : ∀ w, RE w A m es → Calls Tryz.prog 30 #[.agg #[.int .i64 n, .slice A m c], .int .i64 ((j : Int) + 1)] w fun e w' => e = .returned (.int .i64 (insE es (bset (j + 1)) : Nat)) ∧ Below w.heap.size w w' := fun w h => kcn.out (j + 1) (by omega) w h
      have ks : ∀ w, Calls Tryz.prog 31 #[.int .i64 ((j : Int) + 1)] w fun e w' => e = .returned (.int .i64 (pop (j + 1) : Nat)) ∧ w' = w := fun w => ksz.out (j + 1) (by omega) w
      have ks2 : ∀ w, Calls Tryz.prog 31 #[.int .i64 ((bR es j).1 : Nat)] w fun e w' => e = .returned (.int .i64 (pop (bR es j).1 : Nat)) ∧ w' = w := fun w => ksz.out (bR es j).1 (by omega) w
      have hpb := pop_le (bR es j).1
      generalize insE es (bset (j + 1)) = I at *
      generalize pop (j + 1) = K at *
      generalize bR es j = B at *
      obtain ⟨b, nu, de⟩ := B
      simp only at *
      generalize pop b = PB at *
      obtain ⟨P, hP⟩ : ∃ P, P = 2 ^ n := ⟨_, rfl⟩
      rw [← hP] at hw2 hlt hj hp40 ⊢
      have m1 : IntKind.i64.wrap ((I : Int) * (de : Int)) = ((I * de : Nat) : Int) := by
        have : I * de ≤ 4096 * 64 := Nat.mul_le_mul hI hbd.2
        rw [← Int.natCast_mul]; exact IntWalk.i64_in _ ⟨by omega, by omega⟩
      have m2 : IntKind.i64.wrap ((nu : Int) * (K : Int)) = ((nu * K : Nat) : Int) := by
        have : nu * K ≤ 4096 * 64 := Nat.mul_le_mul hnu hK
        rw [← Int.natCast_mul]; exact IntWalk.i64_in _ ⟨by omega, by omega⟩
      generalize I * de = X at *
      generalize nu * K = Y at *
      have i0 : (j : Int) + 1 < (P : Int) := by omega
      have hcase : (Y < X ∧ (Y : Int) < (X : Int) ∧ Hid (bR es (j + 1) = (j + 1, I, K))) ∨ (X = Y ∧ PB ≤ K ∧ (PB : Int) ≤ (K : Int) ∧ Hid (bR es (j + 1) = (j + 1, I, K))) ∨ (X = Y ∧ ¬ PB ≤ K ∧ ¬ (PB : Int) ≤ (K : Int) ∧ Hid (bR es (j + 1) = (b, nu, de))) ∨ (¬ Y < X ∧ ¬ X = Y ∧ ¬ (Y : Int) < (X : Int) ∧ ((X : Int) == (Y : Int)) = false ∧ Hid (bR es (j + 1) = (b, nu, de))) := by
        have h := hst.out
        by_cases c1 : Y < X
        · exact .inl ⟨c1, by omega, Lib.hid (by rw [h, if_pos (.inl c1)])⟩
        · by_cases c2 : X = Y
          · by_cases c3 : PB ≤ K
            · exact .inr (.inl ⟨c2, c3, by omega, Lib.hid (by rw [h, if_pos (.inr ⟨c2, c3⟩)])⟩)
            · exact .inr (.inr (.inl ⟨c2, c3, by omega, Lib.hid (by rw [h, if_neg (by rintro (h | h); exact c1 h; exact c3 h.2)])⟩))
          · exact .inr (.inr (.inr ⟨c1, c2, by omega, by rw [beq_eq_false_iff_ne]; omega, Lib.hid (by rw [h, if_neg (by rintro (h | h); exact c1 h; exact c2 h.1)])⟩))
      replace hP := Lib.hid hP
      replace kc := Lib.hid kc
      replace ks := Lib.hid ks
      replace ks2 := Lib.hid ks2
      clear hst hel hbl hbd kcn ksz kst
      rcases hcase with ⟨c1, c2, hn⟩ | ⟨c1, c2, c3, hn⟩ | ⟨c1, c2, c3, hn⟩ | ⟨c1, c2, c3, c4, hn⟩
      case' inr.inl => subst c1
      case' inr.inr.inl => subst c1
      all_goals
        clear hP
        go_wp2_with (first
          | (go_at_call 30; with_reducible refine (kc.out _ hEr).mono ?_; rintro e w2 ⟨rfl, hb2⟩
             have hb3 := hb.trans (hb2.mono hb.size))
          | (go_at_call 31; with_reducible refine (ks.out _).mono ?_; rintro e w3 ⟨rfl, hw⟩; subst hw)
          | (go_at_call 31; with_reducible refine (ks2.out _).mono ?_; rintro e w3 ⟨rfl, hw⟩; subst hw)
          | fail)
        go_roundw
        case rel => exact ⟨j + 1, by go_num, by omega, by first | (rw [hn.out]; done) | (rw [hn.out]; rfl), by first | (rw [hn.out]; done) | (rw [hn.out]; rfl), by first | (rw [hn.out]; done) | (rw [hn.out]; rfl), hb3⟩
        case measure => simp [intOf]; omega
    · have hend : j = 2 ^ n - 1 := by omega
      have hbl := bR_le (es := es) j
      have hbd := bR_den (es := es) j (by omega)
      have hnu : (bR es j).2.1 ≤ 4096 := by have := hel.out; omega
      have hb40 : (bR es j).1 < 4611686018427387904 := by omega
      have hbe : bR es (2 ^ n - 1) = bR es j := by rw [hend]
      replace hbe := Lib.hid hbe
      have hlt' : ¬ (j : Int) + 1 < ((2 ^ n : Nat) : Int) := by omega
      generalize bR es j = B at *
      obtain ⟨b, nu, de⟩ := B
      simp only at *
      have kse := Lib.hid (kst.out b hb40 wr)
      have kof := Lib.hid (fun w => of_f (nu : Int) (de : Int) w (by omega) (by omega) (by omega) (by omega))
      have Rr := R1.below hb R1.lt
      have hb0r := hb01.trans (hb.mono hb01.size)
      have hsr := hb.size
      clear hend hbl hbd hnu hb40 kcn ksz kst hel hb hb01 hlt hj hp40
      go_wp2_with (first
        | (go_at_call 32; with_reducible refine kse.out.mono ?_; intro e w2 hq; unfold RetI at hq; obtain ⟨A2, n2, c2, rfl, hc2, hr2, hb2, hf2⟩ := hq
           have hb3 := hb0r.trans (hb2.mono hb0r.size)
           have R2 := Rr.below hb2 Rr.lt)
        | (go_at_call 33; with_reducible refine (kof.out _).mono ?_; rintro e w4 ⟨rfl, hb4⟩
           have hb5 := hb3.trans (hb4.mono hb3.size)
           have R4 := R2.below hb4 R2.lt
           have hr4 := hr2.below hb4 (Nat.le_refl _)
           have y0 := Blk.cell R4 0
           have y1 := Blk.cell R4 1
           have f0 := Blk.frozen R4 0
           have f1 := Blk.frozen R4 1
           simp at y0 y1
           have hzz := Blk.set (Blk.set R4 0 (.int .i64 (mkN nu de))) 1 (.int .i64 (mkD nu de))
           have e0 := Blk.cell hzz 0
           have e1 := Blk.cell hzz 1
           simp at e0 e1
           have hgz := grown_set (grown_set (World.grownBy.refl w4 (some (w.heap.size + 1))) 0 (.int .i64 (mkN nu de))) 1 (.int .i64 (mkD nu de))
           have hbz := hb5.grown hgz hb5.size (fun k hk => by injection hk with hk; omega)
           have hrz := RI.kept hr4 hgz (fun ad e h => by have := hf2 ad e; injection h with h; omega))
        | fail)
      refine bodyPost_ret (v := .tuple #[.slice A2 n2 c2, .agg #[.int .i64 (mkN nu de), .int .i64 (mkD nu de)], .int .i64 0]) (by simp [results, Tryz.results10, go_sem, e0, e1]) rfl ?_
      rw [hbe.out]
      exact ⟨A2, n2, c2, rfl, hc2, hrz, hbz⟩
end Go.Proofs.YticekkjambkifaaGreatDoor

/- Plain laws of the densest set: what the best set's density says of its nodes, of peeling and of rounds. -/
set_option linter.unusedVariables false
set_option linter.unusedSimpArgs false
namespace Go.Proofs.YticekkjambkifaaGreatDoor
open Go.RowKit CoBit CoRat Rt
section
variable {n : Nat} {es : List (Int × Int)} {a d : Nat}
theorem bR_max (j : Nat) (hj : j < 4611686018427387904) : ∀ t, 1 ≤ t → t ≤ j → insE es (bset t) * (bR es j).2.2 ≤ (bR es j).2.1 * pop t := by
  induction j with
  | zero => intro t h1 h2; omega
  | succ j ih =>
    intro t h1 h2
    have hd := (bR_den (es := es) j (by omega)).1
    rw [bR]
    by_cases hc : (bR es j).2.1 * pop (j + 1) < insE es (bset (j + 1)) * (bR es j).2.2 ∨ insE es (bset (j + 1)) * (bR es j).2.2 = (bR es j).2.1 * pop (j + 1) ∧ pop (bR es j).1 ≤ pop (j + 1)
    · rw [if_pos hc]
      show insE es (bset t) * pop (j + 1) ≤ insE es (bset (j + 1)) * pop t
      by_cases ht : t = j + 1
      · rw [ht]; exact Nat.le_refl _
      · refine cross_le hd (ih (by omega) t h1 (by omega)) ?_
        rcases hc with h | h
        · exact Nat.le_of_lt h
        · exact Nat.le_of_eq h.1.symm
    · rw [if_neg hc]
      by_cases ht : t = j + 1
      · rw [ht]
        exact Nat.le_of_not_lt (fun h => hc (.inl h))
      · exact ih (by omega) t h1 (by omega)
theorem bR_is (j : Nat) (hj : 1 ≤ j) : ∃ t, 1 ≤ t ∧ t ≤ j ∧ bR es j = (t, insE es (bset t), pop t) := by
  induction j with
  | zero => omega
  | succ j ih =>
    rw [bR]
    by_cases hc : (bR es j).2.1 * pop (j + 1) < insE es (bset (j + 1)) * (bR es j).2.2 ∨ insE es (bset (j + 1)) * (bR es j).2.2 = (bR es j).2.1 * pop (j + 1) ∧ pop (bR es j).1 ≤ pop (j + 1)
    · rw [if_pos hc]; exact ⟨j + 1, by omega, Nat.le_refl _, rfl⟩
    · rw [if_neg hc]
      rcases Nat.eq_zero_or_pos j with h0 | h0
      · exfalso
        subst h0
        refine hc ?_
        show 0 * pop 1 < insE es (bset 1) * 1 ∨ insE es (bset 1) * 1 = 0 * pop 1 ∧ pop 0 ≤ pop 1
        have hp0 : pop 0 = 0 := by rw [pop_bset, bset_zero]; rfl
        rcases Nat.eq_zero_or_pos (insE es (bset 1)) with h | h
        · right; rw [h, hp0]; omega
        · left; omega
      · obtain ⟨t, h1, h2, h3⟩ := ih h0
        exact ⟨t, h1, by omega, h3⟩
theorem insE_del {es : List (Int × Int)} (hne : ∀ e ∈ es, e.1 ≠ e.2) {S : List Int} {v : Int} (hv : v ∈ S) : insE es S = insE es (S.filter fun x => decide (x ≠ v)) + cntE es S v := by
  induction es with
  | nil => rfl
  | cons e es ih =>
    have h1 := ih (fun e he => hne e (by simp [he]))
    have h2 := hne e (by simp)
    rw [insE_cons, insE_cons, cntE_cons, h1]
    unfold oneE
    simp only [List.mem_filter, decide_eq_true_eq]
    by_cases c1 : e.1 = v
    · have c2 : e.2 ≠ v := fun h => h2 (c1.trans h.symm)
      by_cases c3 : e.2 ∈ S
      · simp [c1, c2, c3, hv] <;> omega
      · simp [c1, c2, c3, hv] <;> omega
    · by_cases c2 : e.2 = v
      · by_cases c3 : e.1 ∈ S
        · simp [c1, c2, c3, hv] <;> omega
        · simp [c1, c2, c3, hv] <;> omega
      · by_cases c3 : e.1 ∈ S
        · by_cases c4 : e.2 ∈ S
          · simp [c1, c2, c3, c4] <;> omega
          · simp [c1, c2, c3, c4]
        · simp [c1, c2, c3]
theorem filter_both (p : Int → Bool) (L : List Int) : (L.filter p).length + (L.filter fun y => !p y).length = L.length := by
  induction L with
  | nil => rfl
  | cons x L ih =>
    rw [List.filter_cons, List.filter_cons]
    cases h : p x with
    | true => simp; omega
    | false => simp; omega
theorem clr_bset {x i : Nat} (hx : x < 18446744073709551616) (hi : i < 64) : bset (clr x i) = (bset x).filter fun y => decide (y ≠ (i : Int)) := by
  refine sorted_ext (bset_sorted _) ((bset_sorted x).filter _) fun y => ?_
  rw [List.mem_filter, decide_eq_true_eq]
  constructor
  · intro hy
    obtain ⟨k, rfl⟩ := bset_nat hy
    obtain ⟨h0, h1⟩ := mem_bset.1 hy
    rw [clr_bit hx hi, Bool.and_eq_true, decide_eq_true_eq] at h1
    exact ⟨mem_bset.2 ⟨h0, h1.1⟩, fun e => h1.2 (by omega)⟩
  · rintro ⟨hy, hne⟩
    obtain ⟨k, rfl⟩ := bset_nat hy
    obtain ⟨h0, h1⟩ := mem_bset.1 hy
    refine mem_bset.2 ⟨h0, ?_⟩
    rw [clr_bit hx hi, h1, Bool.true_and, decide_eq_true_eq]
    exact fun e => hne (by omega)
theorem le_bits {x : Nat} (hn : n ≤ 64) (hi : ∀ i, x.testBit i = true → i < n) : x < 2 ^ n := Nat.lt_pow_two_of_testBit x fun i h => by
  cases hb : x.testBit i with
  | false => rfl
  | true => have := hi i hb; omega
/-- In the best set each node has at least the density as neighbours. -/
theorem best_deg (hc : chkG n es = 0) (hn : n ≤ 62) {t : Nat} (ht : t < 2 ^ n) (hmax : ∀ u, 1 ≤ u → u < 2 ^ n → insE es (bset u) * pop t ≤ insE es (bset t) * pop u) : ∀ v ∈ bset t, insE es (bset t) ≤ dg (nbG n es) (bset t) v * pop t := by
  intro v hv
  obtain ⟨i, rfl⟩ := bset_nat hv
  have hp62 : 2 ^ n ≤ 4611686018427387904 := by
    have := Nat.pow_le_pow_right (n := 2) (by omega) hn
    rw [show (2 : Nat) ^ 62 = 4611686018427387904 by decide +kernel] at this
    exact this
  obtain ⟨hi, hb⟩ := mem_bset.1 hv
  have hne : ∀ e ∈ es, e.1 ≠ e.2 := fun e he => by have := chkE_lt (chkG_zero hc).2.2 e he; omega
  have hdel := insE_del hne hv
  rw [← clr_bset (by omega) hi, ← dg_cnt hc] at hdel
  have hlen : pop (clr t i) + 1 = pop t := by
    rw [pop_bset, pop_bset, clr_bset (by omega) hi]
    have h1 : ((bset t).filter fun y => decide (y ≠ (i : Int))).length + ((bset t).filter fun y => !decide (y ≠ (i : Int))).length = (bset t).length := by
      exact filter_both _ _
    have h2 : ((bset t).filter fun y => !decide (y ≠ (i : Int))) = [(i : Int)] := by
      refine sorted_ext ((bset_sorted t).filter _) (by simp) fun y => ?_
      rw [List.mem_filter, List.mem_singleton]
      constructor
      · rintro ⟨_, h⟩; simpa using h
      · rintro rfl; exact ⟨hv, by simp⟩
    rw [h2] at h1
    exact h1
  have hle : insE es (bset (clr t i)) * pop t ≤ insE es (bset t) * pop (clr t i) := by
    rcases Nat.eq_zero_or_pos (clr t i) with h0 | h0
    · rw [h0, bset_zero]
      have : insE es [] = 0 := by
        unfold insE
        rw [List.filter_eq_nil_iff.2 (fun e _ => by simp)]; rfl
      rw [this]; omega
    · refine hmax _ h0 (Nat.lt_of_le_of_lt ?_ ht)
      unfold clr
      exact Nat.and_le_left
  generalize dg (nbG n es) (bset t) (i : Int) = g at *
  generalize insE es (bset (clr t i)) = I' at *
  generalize pop (clr t i) = s' at *
  rw [hdel] at hle ⊢
  rw [← hlen] at hle ⊢
  rw [Nat.mul_add, Nat.mul_one, Nat.add_mul] at hle
  rw [Nat.mul_add, Nat.mul_one]
  omega
theorem sum_ge {L : List Int} {f : Int → Nat} {g s : Nat} (h : ∀ u ∈ L, g ≤ f u * s) : g * L.length ≤ (L.map f).sum * s := by
  induction L with
  | nil => simp
  | cons x L ih =>
    rw [List.map_cons, List.sum_cons, List.length_cons, Nat.mul_add, Nat.mul_one, Nat.add_mul]
    have h1 := ih (fun u hu => h u (by simp [hu]))
    have h2 := h x (by simp)
    omega
/-- Along the order of the cores some rest is at least half as dense. -/
theorem half_greedy (hc : chkG n es = 0) (hn : n ≤ 64) {o : List Int} (ho : PS (nbG n es) n o) (hp : Per o n) {S : List Int} (hS : S ≠ []) (hSn : ∀ v ∈ S, v ∈ rng n) {g s : Nat} (hdeg : ∀ v ∈ S, g ≤ dg (nbG n es) S v * s) : ∃ k, k < n ∧ g * sK n o k ≤ 2 * iK n es o k * s := by
  have hall : ∀ v ∈ S, v ∈ o := fun v hv => by
    have h := mem_rng.1 (hSn v hv)
    obtain ⟨i, rfl⟩ := Int.eq_ofNat_of_zero_le h.1
    exact per_all hp (by omega)
  obtain ⟨v0, hv0⟩ := List.exists_mem_of_ne_nil S hS
  obtain ⟨k, y, hk, hy, hrest⟩ := first_in ⟨v0, hv0, hall v0 hv0⟩
  have hkn : k < n := by have := (List.getElem?_eq_some_iff.1 hk).1; rw [hp.1] at this; exact this
  refine ⟨k, hkn, ?_⟩
  have hb := ho k y hk
  have hR : ∀ x, x ∈ bset (lfK n o k) ↔ x ∈ rst n (o.take k) := fun x => by
    rw [mem_rst]
    constructor
    · intro hx
      obtain ⟨i, rfl⟩ := bset_nat hx
      have h := (lfK_bit hn hp.2.2 k i).1 (mem_bset.1 hx).2
      exact ⟨⟨by omega, by omega⟩, h.2⟩
    · rintro ⟨⟨h1, h2⟩, h3⟩
      obtain ⟨i, rfl⟩ := Int.eq_ofNat_of_zero_le h1
      exact mem_bset.2 ⟨by omega, (lfK_bit hn hp.2.2 k i).2 ⟨by omega, h3⟩⟩
  have hSR : ∀ x ∈ S, x ∈ bset (lfK n o k) := fun x hx => by
    rw [bset_rest hn hp]
    exact mem_of.2 (hrest x hx (hall x hx))
  have hmin : ∀ u ∈ bset (lfK n o k), g ≤ dg (nbG n es) (bset (lfK n o k)) u * s := fun u hu => by
    have h1 := hb.2 u ((hR u).1 hu)
    have h2 : dg (nbG n es) (rst n (o.take k)) y ≤ dg (nbG n es) (rst n (o.take k)) u := by
      rcases h1 with h | h
      · exact Nat.le_of_lt h
      · exact Nat.le_of_eq h.1
    have h3 : dg (nbG n es) S y ≤ dg (nbG n es) (rst n (o.take k)) y := dg_mono fun x hx => (hR x).1 (hSR x hx)
    have h4 : dg (nbG n es) (rst n (o.take k)) u ≤ dg (nbG n es) (bset (lfK n o k)) u := dg_mono fun x hx => (hR x).2 hx
    exact Nat.le_trans (hdeg y hy) (Nat.mul_le_mul_right s (by omega))
  have hsum := sum_ge hmin
  rw [hand hc (sorted_nodup (bset_sorted _))] at hsum
  unfold sK iK
  rw [pop_bset]
  exact hsum
/-- Some round's set is at least as dense as the rounds allow. -/
theorem half_rounds (hc : chkG n es = 0) (hn : n ≤ 64) {S : List Int} (hS : S ≠ []) (hSn : ∀ v ∈ S, v ∈ rng n) {g s : Nat} (hdeg : ∀ v ∈ S, g ≤ dg (nbG n es) S v * s) : ∃ k, k < n ∧ (rndK n es a d k).1 ≠ 0 ∧ g * pop (rndK n es a d k).1 * d ≤ 2 * (d + a) * insE es (bset (rndK n es a d k).1) * s := by
  have key : ∀ k, k ≤ n → (∀ v ∈ S, v ∈ bset (rndK n es a d k).1) ∨ ∃ j, j < k ∧ (rndK n es a d j).1 ≠ 0 ∧ g * pop (rndK n es a d j).1 * d ≤ 2 * (d + a) * insE es (bset (rndK n es a d j).1) * s := by
    intro k
    induction k with
    | zero => intro _; left; intro v hv; show v ∈ bset (2 ^ n - 1); rw [bset_all hn]; exact hSn v hv
    | succ k ih =>
      intro hk
      rcases ih (by omega) with h | ⟨j, h1, h2⟩
      · by_cases hall : ∀ v ∈ S, v ∈ bset (rndK n es a d (k + 1)).1
        · exact .inl hall
        · right
          obtain ⟨v, hv⟩ := Classical.not_forall.1 hall
          obtain ⟨hvS, hvn⟩ := Classical.not_imp.1 hv
          have hvk := h v hvS
          have h0 : (rndK n es a d k).1 ≠ 0 := fun e => by rw [e, bset_zero] at hvk; cases hvk
          refine ⟨k, Nat.lt_succ_self k, h0, ?_⟩
          have hLl := rndK_lt (es := es) (a := a) (d := d) hn k
          rw [rndK_next h0] at hvn
          have hvn2 : v ∉ bset (mns (rndK n es a d k).1 (fewM n es (rndK n es a d k).1 a d)) := hvn
          rw [mns_bset hLl (fewM_lt _ _ _ _ _), minus_sorted (bset_sorted _), List.mem_filter] at hvn2
          have hvM : v ∈ bset (fewM n es (rndK n es a d k).1 a d) := by
            rcases Classical.em (v ∈ bset (fewM n es (rndK n es a d k).1 a d)) with h | h
            · exact h
            · exact absurd ⟨hvk, by simpa using h⟩ hvn2
          obtain ⟨i, rfl⟩ := bset_nat hvM
          have hf := ((fewM_bit _ _ _ _ _ i).1 (mem_bset.1 hvM).2).2
          rw [fewP_iff hc hn] at hf
          rw [pop_bset]
          have h3 : dg (nbG n es) S i ≤ dg (nbG n es) (bset (rndK n es a d k).1) i := dg_mono h
          have h4 := Nat.le_trans (hdeg i hvS) (Nat.mul_le_mul_right s h3)
          generalize dg (nbG n es) (bset (rndK n es a d k).1) (i : Int) = D1 at *
          generalize (bset (rndK n es a d k).1).length = L1 at *
          generalize insE es (bset (rndK n es a d k).1) = I1 at *
          generalize 2 * (d + a) * I1 = T at *
          have h5 := Nat.mul_le_mul_right d (Nat.mul_le_mul_right L1 h4)
          have h6 := Nat.mul_le_mul_right s hf
          have e : D1 * s * L1 * d = D1 * L1 * d * s := by
            rw [Nat.mul_right_comm D1 s L1, Nat.mul_right_comm (D1 * L1) s d]
          omega
      · exact .inr ⟨j, by omega, h2⟩
  rcases key n (Nat.le_refl _) with h | ⟨j, h1, h2, h3⟩
  · exfalso
    obtain ⟨v, hv⟩ := List.exists_mem_of_ne_nil S hS
    have := h v hv
    rw [rnd_end hc hn, bset_zero] at this
    cases this
  · exact ⟨j, h1, h2, h3⟩
theorem rnd_full (k : Nat) (h : (rndK n es a d k).1 ≠ 0) : (rndK n es a d k).2.2.length = k := by
  induction k with
  | zero => rfl
  | succ k ih =>
    by_cases h0 : (rndK n es a d k).1 = 0
    · rw [rndK_stop h0 1] at h; exact absurd h0 h
    · rw [rndK_next h0]
      show (_ ++ [_]).length = _
      rw [List.length_append, ih h0]; rfl
attribute [local irreducible] dnN dnD in
/-- The rounds' record is the best of all rounds. -/
theorem rnd_rec (hn : n ≤ 64) (hes : es.length ≤ 68719476736) (k : Nat) : (rndK n es a d k).2.2 ≠ [] → ∃ x, x ≠ 0 ∧ x < 18446744073709551616 ∧ (∀ i, x.testBit i = true → i < n) ∧ (rndK n es a d k).2.1 = (x, dnN es x, dnD es x) ∧ ∀ j, j < k → (rndK n es a d j).1 ≠ 0 → insE es (bset (rndK n es a d j).1) * pop x ≤ insE es (bset x) * pop (rndK n es a d j).1 := by
  induction k with
  | zero => intro h; exact absurd rfl h
  | succ k ih =>
    intro hne
    by_cases h0 : (rndK n es a d k).1 = 0
    · have e := rndK_stop (n := n) (es := es) (a := a) (d := d) h0 1
      rw [e] at hne ⊢
      obtain ⟨x, h1, h2, h3, h4, h5⟩ := ih hne
      refine ⟨x, h1, h2, h3, h4, fun j hj hj0 => ?_⟩
      by_cases hjk : j = k
      · rw [hjk] at hj0; exact absurd h0 hj0
      · exact h5 j (by omega) hj0
    · rw [rndK_next h0]
      have hLl := rndK_lt (es := es) (a := a) (d := d) hn k
      have hLi := fun i hi => rndK_in (es := es) (a := a) (d := d) hn k i hi
      show ∃ x, x ≠ 0 ∧ x < 18446744073709551616 ∧ (∀ i, x.testBit i = true → i < n) ∧ offV es (rndK n es a d k).1 (rndK n es a d k).2.1 = (x, dnN es x, dnD es x) ∧ _
      by_cases hls : (rndK n es a d k).2.2 = []
      · have hk0 : k = 0 := by have := rnd_full k h0; rw [hls] at this; exact this.symm
        refine ⟨(rndK n es a d k).1, h0, hLl, hLi, ?_, fun j hj hj0 => ?_⟩
        · rw [off_eq, (rnd_den hn hes k).1 hls, if_pos (.inl rfl)]
        · have : j = k := by omega
          rw [this]; exact Nat.le_refl _
      · obtain ⟨x, h1, h2, h3, h4, h5⟩ := ih hls
        have hd := (rnd_den (n := n) (es := es) (a := a) (d := d) hn hes k).2 hls
        have hI1 := insE_le es (bset (rndK n es a d k).1)
        have hI2 := insE_le es (bset x)
        have hp1 := pop_pos hLl h0
        have hp2 := pop_pos h2 h1
        have hp3 := pop_le (rndK n es a d k).1
        have hp4 := pop_le x
        have hcm : cmpF (dnN es (rndK n es a d k).1) (dnD es (rndK n es a d k).1) (dnN es x) (dnD es x) = ((insE es (bset (rndK n es a d k).1) : Int) * (pop x : Nat) - (insE es (bset x) : Nat) * (pop (rndK n es a d k).1 : Nat)).sign := by
          unfold dnN dnD
          exact cmp_mk _ _ _ _ hp1 hp2 (by omega) (by omega) (by omega) (by omega)
        rw [off_eq, h4]
        rw [h4] at hd
        by_cases hgt : insE es (bset x) * pop (rndK n es a d k).1 < insE es (bset (rndK n es a d k).1) * pop x
        · have hpos : 0 < cmpF (dnN es (rndK n es a d k).1) (dnD es (rndK n es a d k).1) (dnN es x) (dnD es x) := by
            rw [hcm, Int.sign_eq_one_of_pos (by
              have := Int.ofNat_lt.2 hgt
              rw [Int.natCast_mul, Int.natCast_mul] at this
              omega)]
            decide
          refine ⟨(rndK n es a d k).1, h0, hLl, hLi, by rw [if_pos (.inr hpos)], fun j hj hj0 => ?_⟩
          by_cases hjk : j = k
          · rw [hjk]; exact Nat.le_refl _
          · exact cross_le hp2 (h5 j (by omega) hj0) (Nat.le_of_lt hgt)
        · have hle : ¬ 0 < cmpF (dnN es (rndK n es a d k).1) (dnD es (rndK n es a d k).1) (dnN es x) (dnD es x) := by
            rw [hcm]
            have h6 : ((insE es (bset (rndK n es a d k).1) : Int) * (pop x : Nat) - (insE es (bset x) : Nat) * (pop (rndK n es a d k).1 : Nat)) ≤ 0 := by
              have := Int.ofNat_le.2 (Nat.le_of_not_lt hgt)
              rw [Int.natCast_mul, Int.natCast_mul] at this
              omega
            have h7 := Int.sign_nonpos_iff.2 h6
            omega
          have hnd : ¬ (x, dnN es x, dnD es x).2.2 = 0 := fun e => by
            have hd' : 0 < (x, dnN es x, dnD es x).2.2 := hd
            omega
          refine ⟨x, h1, h2, h3, by rw [if_neg (by rintro (h | h); exact hnd h; exact hle h)], fun j hj hj0 => ?_⟩
          by_cases hjk : j = k
          · rw [hjk]; exact Nat.le_of_not_lt hgt
          · exact h5 j (by omega) hj0
end
end Go.Proofs.YticekkjambkifaaGreatDoor

/- The law PeelFactor, in plain Lean. -/
set_option linter.unusedVariables false
set_option linter.unusedSimpArgs false
namespace Go.Proofs.YticekkjambkifaaGreatDoor
open Go.RowKit CoBit CoRat Rt
/-- The fraction N / D is I / s. -/
def FrV (N D : Int) (I s : Nat) : Prop := okF N D = true ∧ 0 < s ∧ N * (s : Int) = (I : Int) * D
theorem FrV.pos {N D : Int} {I s : Nat} (h : FrV N D I s) : 0 < D := by have := okF_bd h.1; omega
theorem FrV.mk_ (I s : Nat) (hs : 0 < s) (hI : I ≤ 1152921504606846976) (hs2 : s ≤ 1152921504606846976) : FrV (mkN (I : Int) (s : Int)) (mkD (I : Int) (s : Int)) I s := by
  have hok := mk_ok I s hs hI hs2
  obtain ⟨a, b, h1, h2, _, _, _, h6⟩ := mk_val I s hs hI hs2
  refine ⟨hok, hs, ?_⟩
  rw [h1, h2]
  have := congrArg (fun x : Nat => (x : Int)) h6
  simpa using this
theorem FrV.cmp {N D M' E : Int} {I s J t : Nat} (h : FrV N D I s) (h' : FrV M' E J t) (hle : I * t ≤ J * s) : cmpF N D M' E ≤ 0 := by
  have hD := h.pos
  have hE := h'.pos
  unfold cmpF
  rw [h.1, h'.1, Bool.and_self, if_pos rfl]
  refine Int.sign_nonpos_iff.2 ?_
  have h1 := h.2.2
  have h2 := h'.2.2
  have hs : (0 : Int) < (s : Int) := by have := h.2.1; omega
  have ht : (0 : Int) < (t : Int) := by have := h'.2.1; omega
  have hle' : (I : Int) * (t : Int) ≤ (J : Int) * (s : Int) := by
    have := Int.ofNat_le.2 hle
    rwa [Int.natCast_mul, Int.natCast_mul] at this
  generalize (s : Int) = s' at *
  generalize (t : Int) = t' at *
  generalize (I : Int) = I' at *
  generalize (J : Int) = J' at *
  have hst : 0 < s' * t' := Int.mul_pos hs ht
  have hDE : 0 ≤ D * E := Int.le_of_lt (Int.mul_pos hD hE)
  have e1 : (N * E) * (s' * t') = (D * E) * (I' * t') := by grind
  have e2 : (M' * D) * (s' * t') = (D * E) * (J' * s') := by grind
  have h3 : (N * E) * (s' * t') ≤ (M' * D) * (s' * t') := by
    rw [e1, e2]
    exact Int.mul_le_mul_of_nonneg_left hle' hDE
  have := Int.le_of_mul_le_mul_right h3 hst
  omega
theorem FrV.mul {N D M' E : Int} {I s J t : Nat} (h : FrV N D I s) (h' : FrV M' E J t) (h1 : N.natAbs * M'.natAbs ≤ M) (h2 : D.natAbs * E.natAbs ≤ M) : FrV (mulN N D M' E) (mulD N D M' E) (I * J) (s * t) := by
  obtain ⟨v1, v2, v3, v4⟩ := mul_val N D M' E h.1 h'.1 h1 h2
  refine ⟨v1, Nat.mul_pos h.2.1 h'.2.1, ?_⟩
  have hD := h.pos
  have hE := h'.pos
  have e1 := h.2.2
  have e2 := h'.2.2
  rw [Int.natCast_mul, Int.natCast_mul]
  generalize (s : Int) = s' at *
  generalize (t : Int) = t' at *
  generalize (I : Int) = I' at *
  generalize (J : Int) = J' at *
  generalize mulN N D M' E = mN at *
  generalize mulD N D M' E = mD at *
  have hDE : 0 < D * E := Int.mul_pos hD hE
  have key : (mN * (s' * t')) * (D * E) = (I' * J' * mD) * (D * E) := by grind
  exact Int.eq_of_mul_eq_mul_right (by omega) key
section
variable {n : Nat} {es : List (Int × Int)} {a d : Nat}
theorem pow62 (hn : n ≤ 62) : 2 ^ n ≤ 4611686018427387904 := by
  have := Nat.pow_le_pow_right (n := 2) (by omega) hn
  rw [show (2 : Nat) ^ 62 = 4611686018427387904 by decide +kernel] at this
  exact this
theorem no_edges (hc : chkG (0 : Nat) es = 0) : es = [] := by
  cases es with
  | nil => rfl
  | cons e es =>
    have := chkE_lt (chkG_zero hc).2.2 e (by simp)
    omega
theorem dn_frv {x : Nat} (hx : x < 18446744073709551616) (h0 : x ≠ 0) (hes : es.length ≤ 68719476736) : FrV (dnN es x) (dnD es x) (insE es (bset x)) (pop x) := by
  unfold dnN dnD
  exact FrV.mk_ _ _ (pop_pos hx h0) (by have := insE_le es (bset x); omega) (by have := pop_le x; omega)
theorem zero_rec (o : List Int) : (recK 0 [] o 0).2.1 = 0 ∧ fixD (recK 0 [] o 0).2.2 = 1 := ⟨rfl, rfl⟩
theorem zero_rnd (a d : Nat) : (rndK 0 [] a d 0).2.1.2.1 = 0 ∧ fixD (rndK 0 [] a d 0).2.1.2.2 = 1 := ⟨rfl, rfl⟩
theorem zero_best : (bR [] (2 ^ 0 - 1)).2.1 = 0 ∧ (bR [] (2 ^ 0 - 1)).2.2 = 1 := ⟨rfl, rfl⟩
attribute [local irreducible] dnN dnD mkN mkD in
set_option maxHeartbeats 1000000 in
/-- What the law says, in numbers. -/
theorem factor_nat (hc : chkG n es = 0) (hn : n ≤ 40) (hes : es.length ≤ 4096) {o ls : List Int} (ho : IsOrd n es o) (hp : Per o n) (hl : IsLater (nbG n es) n o ls) : ∃ num den Ip sp Iq sq : Nat,
    FrV (mkN ((bR es (2 ^ n - 1)).2.1 : Nat) ((bR es (2 ^ n - 1)).2.2 : Nat)) (mkD ((bR es (2 ^ n - 1)).2.1 : Nat) ((bR es (2 ^ n - 1)).2.2 : Nat)) num den ∧
    FrV (recK n es o n).2.1 (fixD (recK n es o n).2.2) Ip sp ∧ FrV (rndK n es a d n).2.1.2.1 (fixD (rndK n es a d n).2.1.2.2) Iq sq ∧
    Ip ≤ 4096 ∧ sp ≤ 64 ∧ Iq ≤ 4096 ∧ sq ≤ 64 ∧ (recK n es o n).2.1.natAbs ≤ 4096 ∧ (fixD (recK n es o n).2.2).natAbs ≤ 64 ∧ (rndK n es a d n).2.1.2.1.natAbs ≤ 4096 ∧ (fixD (rndK n es a d n).2.1.2.2).natAbs ≤ 64 ∧
    num * sp ≤ 2 * Ip * den ∧ num * (sq * d) ≤ Iq * (2 * (d + a)) * den ∧ (num : Int) ≤ maxL ls * (den : Int) ∧ Ip * den ≤ num * sp ∧ Iq * den ≤ num * sq := by
  have hord := ho.1 hc
  rw [Int.toNat_natCast] at hord
  have hp62 := pow62 (n := n) (by omega)
  rcases Nat.eq_zero_or_pos n with h0 | h0
  · subst h0
    have hnil := no_edges hc
    subst hnil
    have z : FrV 0 1 0 1 := ⟨by decide +kernel, Nat.one_pos, by decide⟩
    have zb : FrV (mkN (0 : Nat) (1 : Nat)) (mkD (0 : Nat) (1 : Nat)) 0 1 := FrV.mk_ 0 1 Nat.one_pos (by omega) (by omega)
    have hml := maxL_nonneg ls
    rw [(zero_rec o).1, (zero_rec o).2, (zero_rnd a d).1, (zero_rnd a d).2, zero_best.1, zero_best.2]
    exact ⟨0, 1, 0, 1, 0, 1, zb, z, z, by omega, by omega, by omega, by omega, by decide, by decide, by decide, by decide, by omega, by omega, by omega, by omega, by omega⟩
  · have h2n : 2 ≤ 2 ^ n := by
      have := Nat.pow_le_pow_right (n := 2) (by omega) h0
      simpa using this
    obtain ⟨t, t1, t2, tB⟩ := bR_is (es := es) (2 ^ n - 1) (by omega)
    have hmax := bR_max (es := es) (2 ^ n - 1) (by omega)
    rw [tB] at hmax ⊢
    simp only at hmax
    have htn : t < 2 ^ n := by omega
    have ht64 : t < 18446744073709551616 := by omega
    have ht0 : t ≠ 0 := by omega
    have hti : ∀ i, t.testBit i = true → i < n := fun i hi => by
      rcases Nat.lt_or_ge i n with h | h
      · exact h
      · rw [Nat.testBit_lt_two_pow (Nat.lt_of_lt_of_le htn (Nat.pow_le_pow_right (by omega) h))] at hi; cases hi
    have hdeg := best_deg hc (by omega) htn (fun u h1 h2 => hmax u h1 (by omega))
    have hS : bset t ≠ [] := bset_ne ht64 ht0
    have hSn := fun v hv => bset_in (n := n) hti v hv
    have hpt := pop_pos ht64 ht0
    have hpt64 := pop_le t
    have hIt := insE_le es (bset t)
    -- greedy
    obtain ⟨kb, hkb, hrec, hbest, _⟩ := rec_best (es := es) (by omega) hp (by omega) (n - 1) (by omega)
    rw [show n - 1 + 1 = n by omega] at hrec
    obtain ⟨k, hk, hhalf⟩ := half_greedy hc (by omega) hord.1 hp hS hSn hdeg
    have hbk := hbest k (by omega)
    have hsK : ∀ j, sK n o j = n - j := fun j => sK_eq (by omega) hp j
    have hx0 : lfK n o kb ≠ 0 := fun e => by
      have h1 := hsK kb
      unfold sK at h1
      rw [e, pop_bset, bset_zero] at h1
      have : ([] : List Int).length = 0 := rfl
      omega
    have hxl := lfK_lt (n := n) (by omega) o kb
    have hxi : ∀ i, (lfK n o kb).testBit i = true → i < n := fun i hi => ((lfK_bit (by omega) hp.2.2 kb i).1 hi).1
    have hxn := le_bits (n := n) (by omega) hxi
    have hpx := pop_pos hxl hx0
    have hpx64 := pop_le (lfK n o kb)
    have hIx := insE_le es (bset (lfK n o kb))
    have hPle := hmax (lfK n o kb) (by omega) (by omega)
    obtain ⟨pN, pD, e1, e2, e3, e4, e5, _, _⟩ := den_val hxl hx0 (show es.length ≤ 68719476736 by omega)
    have hFp : FrV (dnN es (lfK n o kb)) (dnD es (lfK n o kb)) (insE es (bset (lfK n o kb))) (pop (lfK n o kb)) := dn_frv hxl hx0 (by omega)
    -- rounds
    obtain ⟨j, hj, hj0, hhr⟩ := half_rounds (a := a) (d := d) hc (by omega) hS hSn hdeg
    have hls : (rndK n es a d n).2.2 ≠ [] := fun e => by
      have h1 := (rnd_den (n := n) (es := es) (a := a) (d := d) (by omega) (show es.length ≤ 68719476736 by omega) n)
      have h2 := rnd_all (a := a) (d := d) hc (show n ≤ 64 by omega)
      rw [e] at h2
      have h3 := h2.length_eq
      unfold rng at h3
      simp at h3
      omega
    obtain ⟨x, hx1, hx2, hx3, hx4, hx5⟩ := rnd_rec (n := n) (es := es) (a := a) (d := d) (by omega) (show es.length ≤ 68719476736 by omega) n hls
    have hq5 := hx5 j hj hj0
    have hxn' := le_bits (n := n) (by omega) hx3
    have hqx := pop_pos hx2 hx1
    have hqx64 := pop_le x
    have hIq := insE_le es (bset x)
    have hQle := hmax x (by omega) (by omega)
    obtain ⟨qN, qD, g1, g2, g3, g4, g5, _, _⟩ := den_val hx2 hx1 (show es.length ≤ 68719476736 by omega)
    have hFq : FrV (dnN es x) (dnD es x) (insE es (bset x)) (pop x) := dn_frv hx2 hx1 (by omega)
    have hLl := rndK_lt (es := es) (a := a) (d := d) (show n ≤ 64 by omega) j
    have hpj := pop_pos hLl hj0
    rw [hrec, hx4]
    have hf1 : fixD (dnD es (lfK n o kb)) = dnD es (lfK n o kb) := by unfold fixD; rw [if_neg (by rw [e2]; omega)]
    have hf2 : fixD (dnD es x) = dnD es x := by unfold fixD; rw [if_neg (by rw [g2]; omega)]
    show ∃ num den Ip sp Iq sq : Nat, FrV (mkN (insE es (bset t) : Nat) (pop t : Nat)) (mkD (insE es (bset t) : Nat) (pop t : Nat)) num den ∧ FrV (dnN es (lfK n o kb)) (fixD (dnD es (lfK n o kb))) Ip sp ∧ FrV (dnN es x) (fixD (dnD es x)) Iq sq ∧ _
    rw [hf1, hf2]
    refine ⟨insE es (bset t), pop t, insE es (bset (lfK n o kb)), pop (lfK n o kb), insE es (bset x), pop x, FrV.mk_ _ _ hpt (by omega) (by omega), hFp, hFq, by omega, hpx64, by omega, hqx64, ?_, ?_, ?_, ?_, ?_, ?_, ?_, hPle, hQle⟩
    · show (dnN es (lfK n o kb)).natAbs ≤ 4096
      rw [e1]; simp; omega
    · rw [e2]; simp; omega
    · show (dnN es x).natAbs ≤ 4096
      rw [g1]; simp; omega
    · rw [g2]; simp; omega
    · -- at most twice that of the greedy one
      have h1 : insE es (bset t) * sK n o k ≤ (2 * pop t) * iK n es o k := by rw [Nat.mul_right_comm 2 (iK n es o k) (pop t)] at hhalf; exact hhalf
      have hsk : 0 < sK n o k := by rw [hsK]; omega
      have hbk' : iK n es o k * pop (lfK n o kb) ≤ insE es (bset (lfK n o kb)) * sK n o k := hbk
      have h2 : insE es (bset t) * pop (lfK n o kb) * sK n o k ≤ 2 * insE es (bset (lfK n o kb)) * pop t * sK n o k := by
        have h3 := Nat.mul_le_mul_right (pop (lfK n o kb)) h1
        have h4 := Nat.mul_le_mul_left (2 * pop t) hbk'
        generalize insE es (bset t) = It at *
        generalize insE es (bset (lfK n o kb)) = Ib at *
        generalize pop (lfK n o kb) = pb at *
        generalize sK n o k = sk at *
        generalize iK n es o k = ik at *
        generalize pop t = pt at *
        have r1 : It * pb * sk = It * sk * pb := Nat.mul_right_comm _ _ _
        have r2 : 2 * pt * ik * pb = 2 * pt * (ik * pb) := Nat.mul_assoc _ _ _
        have r3 : 2 * pt * (Ib * sk) = 2 * Ib * pt * sk := by rw [← Nat.mul_assoc, Nat.mul_right_comm 2 pt Ib]
        omega
      exact Nat.le_of_mul_le_mul_right h2 hsk
    · -- rounds
      have h2 : insE es (bset t) * (pop x * d) * pop (rndK n es a d j).1 ≤ insE es (bset x) * (2 * (d + a)) * pop t * pop (rndK n es a d j).1 := by
        have h3 := Nat.mul_le_mul_right (pop x) hhr
        have h4 := Nat.mul_le_mul_right (2 * (d + a) * pop t) hq5
        generalize insE es (bset t) = It at *
        generalize insE es (bset x) = Ix at *
        generalize pop x = px at *
        generalize pop (rndK n es a d j).1 = pj at *
        generalize insE es (bset (rndK n es a d j).1) = Ij at *
        generalize pop t = pt at *
        generalize 2 * (d + a) = T at *
        have r1 : It * (px * d) * pj = It * pj * d * px := by grind
        have r2 : T * Ij * pt * px = Ij * px * (T * pt) := by grind
        have r3 : Ix * pj * (T * pt) = Ix * T * pt * pj := by grind
        omega
      exact Nat.le_of_mul_le_mul_right h2 hpj
    · -- the limit
      obtain ⟨v0, hv0⟩ := List.exists_mem_of_ne_nil _ hS
      have hall : ∀ v ∈ bset t, v ∈ o := fun v hv => by
        have h := mem_rng.1 (hSn v hv)
        obtain ⟨i, rfl⟩ := Int.eq_ofNat_of_zero_le h.1
        exact per_all hp (by omega)
      obtain ⟨i, y, hi, hy, hrest⟩ := first_in ⟨v0, hv0, hall v0 hv0⟩
      have hl2 := hl.2 i y hi
      have hyr := mem_rng.1 (hSn y hy)
      have hmem : ls.getD y.toNat 0 ∈ ls := getD_mem (by rw [hl.1]; omega)
      have hge := maxL_ge hmem
      have hsub : dg (nbG n es) (bset t) y ≤ dg (nbG n es) (o.drop (i + 1)) y := dg_sub fun z hz hzS => by
        have h1 := hrest z hzS (hall z hzS)
        have hzy : z ≠ y := fun e => by subst e; exact nbG_irr z hz
        obtain ⟨hlt, hge'⟩ := List.getElem?_eq_some_iff.1 hi
        rw [List.drop_eq_getElem_cons hlt, List.mem_cons] at h1
        rcases h1 with h1 | h1
        · rw [hge'] at h1; exact absurd h1 hzy
        · exact h1
      have hd := hdeg y hy
      have h5 : (insE es (bset t) : Int) ≤ (dg (nbG n es) (bset t) y : Int) * (pop t : Int) := by
        have := Int.ofNat_le.2 hd
        rwa [Int.natCast_mul] at this
      have h6 : (dg (nbG n es) (bset t) y : Int) ≤ maxL ls := by rw [hl2] at hge; omega
      exact Int.le_trans h5 (Int.mul_le_mul_of_nonneg_right h6 (by omega))
end
end Go.Proofs.YticekkjambkifaaGreatDoor

/- Plain: the reference's best set is the one that densest.Best finds. -/
set_option linter.unusedVariables false
set_option linter.unusedSimpArgs false
namespace Go.Proofs.YticekkjambkifaaGreatDoor.Fl
open Go.RowKit Go.Proofs.YticekkjambkifaaGreatDoor CoBit CoRat Rt

theorem sub_pop {t x : Nat} (hx : x < 18446744073709551616) (h : ∀ v, t.testBit v = true → x.testBit v = true) (hp : pop x ≤ pop t) : t = x := by
  have e : x &&& t = t := Nat.eq_of_testBit_eq fun i => by
    rw [Nat.testBit_and]
    cases c : t.testBit i with
    | false => rw [Bool.and_false]
    | true => rw [h i c]; rfl
  have h1 : bl t = (bl x).filter fun i => t.testBit i := by
    have := bl_and x t
    rw [e] at this; exact this
  have h2 : ((bl x).filter fun i => t.testBit i).length = (bl x).length := by
    refine Nat.le_antisymm (List.length_filter_le _ _) ?_
    rw [← h1, ← pop_bl, ← pop_bl]; exact hp
  rw [List.length_filter_eq_length_iff] at h2
  refine Nat.eq_of_testBit_eq fun i => ?_
  cases c : x.testBit i with
  | true =>
    refine h2 i (mem_bl.2 ⟨?_, c⟩)
    refine Classical.byContradiction fun hi => ?_
    rw [Nat.testBit_lt_two_pow (Nat.lt_of_lt_of_le hx (by have := Nat.pow_le_pow_right (n := 2) (by omega) (show 64 ≤ i by omega); rw [show (2 : Nat) ^ 64 = 18446744073709551616 by decide +kernel] at this; exact this))] at c
    cases c
  | false =>
    cases c2 : t.testBit i with
    | false => rfl
    | true => rw [h i c2] at c; cases c
theorem bR_big {es : List (Int × Int)} (j : Nat) (hj : j < 4611686018427387904) : ∀ t, 1 ≤ t → t ≤ j → insE es (bset t) * (bR es j).2.2 = (bR es j).2.1 * pop t → pop t ≤ pop (bR es j).1 := by
  induction j with
  | zero => intro t h1 h2; omega
  | succ j ih =>
    intro t h1 h2
    have hd := (bR_den (es := es) j (by omega)).1
    rw [bR]
    by_cases hc : (bR es j).2.1 * pop (j + 1) < insE es (bset (j + 1)) * (bR es j).2.2 ∨ insE es (bset (j + 1)) * (bR es j).2.2 = (bR es j).2.1 * pop (j + 1) ∧ pop (bR es j).1 ≤ pop (j + 1)
    · rw [if_pos hc]
      show insE es (bset t) * pop (j + 1) = insE es (bset (j + 1)) * pop t → pop t ≤ pop (j + 1)
      intro he
      by_cases ht : t = j + 1
      · rw [ht]; exact Nat.le_refl _
      · have hpj := pop_ge (x := j + 1) (by omega) (by omega)
        have hpt := pop_ge (x := t) (by omega) (by omega)
        have hold := bR_max (es := es) j (by omega) t h1 (by omega)
        rcases hc with h | ⟨h, hb⟩
        · exfalso
          have e1 : insE es (bset t) * (bR es j).2.2 * pop (j + 1) = pop t * (insE es (bset (j + 1)) * (bR es j).2.2) := by
            have : insE es (bset t) * (bR es j).2.2 * pop (j + 1) = insE es (bset t) * pop (j + 1) * (bR es j).2.2 := by grind
            rw [this, he]; grind
          have e2 : (bR es j).2.1 * pop t * pop (j + 1) = pop t * ((bR es j).2.1 * pop (j + 1)) := by grind
          have h3 := Nat.mul_le_mul_right (pop (j + 1)) hold
          rw [e1, e2] at h3
          have h4 := Nat.le_of_mul_le_mul_left h3 hpt
          omega
        · refine Nat.le_trans (ih (by omega) t h1 (by omega) ?_) hb
          refine Nat.eq_of_mul_eq_mul_right hpj ?_
          have e1 : insE es (bset t) * (bR es j).2.2 * pop (j + 1) = insE es (bset t) * pop (j + 1) * (bR es j).2.2 := by grind
          have e2 : (bR es j).2.1 * pop t * pop (j + 1) = (bR es j).2.1 * pop (j + 1) * pop t := by grind
          rw [e1, he, e2, ← h]; grind
    · rw [if_neg hc]
      intro he
      by_cases ht : t = j + 1
      · subst ht
        exact Nat.le_of_not_lt fun hlt => hc (.inr ⟨he, by omega⟩)
      · exact ih (by omega) t h1 (by omega) he
theorem DB.ref {n : Nat} {es : List (Int × Int)} {x N D : Nat} {ps : List Int} (hz : chkG n es = 0) (hn : n ≤ 40) (h : DB n es x N D ps) : (bR es (2 ^ n - 1)).1 = x ∧ mkN (bR es (2 ^ n - 1)).2.1 (bR es (2 ^ n - 1)).2.2 = (N : Int) ∧ mkD (bR es (2 ^ n - 1)).2.1 (bR es (2 ^ n - 1)).2.2 = (D : Int) := by
  rcases Nat.eq_zero_or_pos n with h0 | h0
  · subst h0
    have he := no_edges hz
    subst he
    obtain ⟨rfl, rfl, rfl⟩ := h.unique DB.none_ |>.imp Eq.symm (And.imp Eq.symm Eq.symm)
    refine ⟨rfl, ?_, ?_⟩
    · show mkN 0 1 = 0; decide +kernel
    · show mkD 0 1 = 1; decide +kernel
  · have hx := h.lt (by omega)
    have hpow := pow62 (n := n) (by omega)
    have h1n : 2 ≤ 2 ^ n := by have := Nat.pow_le_pow_right (n := 2) (by omega) (show 1 ≤ n by omega); simpa using this
    have hpx := h.pos h0
    have hx1 : 1 ≤ x := Nat.pos_of_ne_zero fun e => by rw [e, pop_bl, bl_zero] at hpx; exact absurd hpx (Nat.lt_irrefl _)
    have hxn : x < 2 ^ n := le_bits (by omega) h.sub
    obtain ⟨t, t1, t2, hb⟩ := bR_is (es := es) (2 ^ n - 1) (by omega)
    have htb : ∀ v, t.testBit v = true → v < n := fun v hv => by
      refine Classical.byContradiction fun hi => ?_
      rw [Nat.testBit_lt_two_pow (Nat.lt_of_lt_of_le (show t < 2 ^ n by omega) (Nat.pow_le_pow_right (by omega) (by omega)))] at hv
      cases hv
    have hpt := pop_ge (x := t) (by omega) (by omega)
    have m1 := h.max t htb
    have m2 := bR_max (es := es) (2 ^ n - 1) (by omega) x hx1 (by omega)
    rw [hb] at m2
    have m2' : insE es (bset x) * pop t ≤ insE es (bset t) * pop x := m2
    have heq := h.eq
    have m3 : N * pop t ≤ D * insE es (bset t) := by
      refine Nat.le_of_mul_le_mul_left ?_ hpx
      have e1 : pop x * (N * pop t) = (N * pop x) * pop t := by grind
      have e2 : pop x * (D * insE es (bset t)) = D * (insE es (bset t) * pop x) := by grind
      rw [e1, ← heq, e2, Nat.mul_assoc]
      exact Nat.mul_le_mul_left D m2'
    have m4 : D * insE es (bset t) = N * pop t := Nat.le_antisymm m1 m3
    have hsub := h.great t htb m4
    have hcr : insE es (bset x) * pop t = insE es (bset t) * pop x := by
      refine Nat.eq_of_mul_eq_mul_left h.D0 ?_
      have e1 : D * (insE es (bset x) * pop t) = D * insE es (bset x) * pop t := by grind
      have e2 : D * (insE es (bset t) * pop x) = D * insE es (bset t) * pop x := by grind
      rw [e1, e2, heq, m4]; grind
    have hbig := bR_big (es := es) (2 ^ n - 1) (by omega) x hx1 (by omega) (by rw [hb]; exact hcr)
    rw [hb] at hbig
    have htx := sub_pop hx hsub hbig
    subst htx
    rw [hb]
    have d1 := h.dN
    have d2 := h.dD
    unfold dseN at d1
    unfold dseD at d2
    rw [if_neg (by omega)] at d1 d2
    exact ⟨rfl, d1.symm, d2.symm⟩
end Go.Proofs.YticekkjambkifaaGreatDoor.Fl

/- Plain: the reference's greatest best set for a price. -/
set_option linter.unusedVariables false
set_option linter.unusedSimpArgs false
namespace Go.Proofs.YticekkjambkifaaGreatDoor.Fl
open Go.RowKit Go.Proofs.YticekkjambkifaaGreatDoor CoBit CoRat Rt

def dV (es : List (Int × Int)) (P D x : Nat) : Int := ((insE es (bset x) : Nat) : Int) * (D : Int) - (P : Int) * ((pop x : Nat) : Int)
/-- The best of the sets 1 .. j for a price, and what it is worth. -/
def dR (es : List (Int × Int)) (P D : Nat) : Nat → Nat × Int
  | 0 => (0, 0)
  | j + 1 => if (dR es P D j).2 < dV es P D (j + 1) ∨ dV es P D (j + 1) = (dR es P D j).2 ∧ pop (dR es P D j).1 < pop (j + 1) then (j + 1, dV es P D (j + 1)) else dR es P D j
theorem insE_S0 (es : List (Int × Int)) : insE es [] = 0 := by
  unfold insE
  rw [List.filter_eq_nil_iff.2 (fun e _ => by simp)]; rfl
theorem bset_0 : bset 0 = [] := by unfold bset; rw [bl_zero]; rfl
theorem dV_zero (es : List (Int × Int)) (P D : Nat) : dV es P D 0 = 0 := by
  unfold dV
  rw [bset_0, insE_S0, pop_bl, bl_zero]; simp
theorem dR_inv (es : List (Int × Int)) (P D : Nat) (j : Nat) : (dR es P D j).1 ≤ j ∧ (dR es P D j).2 = dV es P D (dR es P D j).1 ∧ ∀ t, t ≤ j → dV es P D t ≤ (dR es P D j).2 ∧ (dV es P D t = (dR es P D j).2 → pop t ≤ pop (dR es P D j).1) := by
  induction j with
  | zero => exact ⟨Nat.le_refl _, (dV_zero es P D).symm, fun t ht => by obtain rfl : t = 0 := by omega
                                                                        exact ⟨by rw [dV_zero]; exact Int.le_refl _, fun _ => Nat.le_refl _⟩⟩
  | succ j ih =>
    obtain ⟨h1, h2, h3⟩ := ih
    rw [dR]
    split
    · rename_i hc
      refine ⟨Nat.le_refl _, rfl, fun t ht => ?_⟩
      by_cases e : t = j + 1
      · subst e; exact ⟨Int.le_refl _, fun _ => Nat.le_refl _⟩
      · obtain ⟨h4, h5⟩ := h3 t (by omega)
        refine ⟨?_, fun he => ?_⟩
        · show dV es P D t ≤ dV es P D (j + 1)
          omega
        · have he' : dV es P D t = dV es P D (j + 1) := he
          show pop t ≤ pop (j + 1)
          rcases hc with hc | ⟨hc, hb⟩
          · omega
          · have := h5 (by omega); omega
    · rename_i hc
      refine ⟨by omega, h2, fun t ht => ?_⟩
      by_cases e : t = j + 1
      · subst e
        refine ⟨by omega, fun he => ?_⟩
        have := fun hb => hc (.inr ⟨he, hb⟩)
        omega
      · exact h3 t (by omega)
theorem dV_val (es : List (Int × Int)) (n P D x : Nat) : val es (List.replicate n 0) D P x = dV es P D x := by
  unfold val dV
  rw [wtI_rep, Int.mul_comm (D : Int)]
theorem dR_max {n : Nat} {es : List (Int × Int)} {P D m : Nat} (hn : n ≤ 62) (h : IsMax es (List.replicate n 0) (allM n) D P m) : (dR es P D (2 ^ n - 1)).1 = m ∧ (dR es P D (2 ^ n - 1)).2 = dV es P D m := by
  obtain ⟨h1, h2, h3⟩ := dR_inv es P D (2 ^ n - 1)
  have hpos : 0 < 2 ^ n := Nat.two_pow_pos n
  have hmn : ∀ v, m.testBit v = true → v < n := fun v hv => by have := h.sub v hv; rw [allM_bit, decide_eq_true_eq] at this; exact this
  have hm : m < 2 ^ n := le_bits (by omega) hmn
  have hml : m < 18446744073709551616 := mask_lt (Nat.le_refl 64) fun v hv => Nat.lt_of_lt_of_le (hmn v hv) (by omega)
  generalize (dR es P D (2 ^ n - 1)).1 = b at *
  generalize (dR es P D (2 ^ n - 1)).2 = vb at *
  obtain ⟨h4, h5⟩ := h3 m (by omega)
  have hbF : ∀ v, b.testBit v = true → (allM n).testBit v = true := fun v hv => by
    rw [allM_bit, decide_eq_true_eq]
    refine Classical.byContradiction fun hi => ?_
    rw [Nat.testBit_lt_two_pow (Nat.lt_of_lt_of_le (show b < 2 ^ n by omega) (Nat.pow_le_pow_right (by omega) (by omega)))] at hv
    cases hv
  have h6 := h.max b hbF
  rw [dV_val, dV_val] at h6
  have h7 := h.great b hbF (by rw [dV_val, dV_val]; omega)
  have h8 := sub_pop hml h7 (h5 (by omega))
  subst h8
  exact ⟨rfl, h2⟩
end Go.Proofs.YticekkjambkifaaGreatDoor.Fl

/- Plain: the laws of chapter 19. -/
set_option linter.unusedVariables false
set_option linter.unusedSimpArgs false
namespace Go.Proofs.YticekkjambkifaaGreatDoor.Fl
open Go.RowKit Go.Proofs.YticekkjambkifaaGreatDoor CoBit CoRat Rt

section
variable {n : Nat} {es : List (Int × Int)} {x N D : Nat} {ps : List Int}
theorem dse_frv {y : Nat} (hl : es.length ≤ 4096) : ∃ I s : Nat, FrV (dseN es (bset y) (pop y)) (dseD es (bset y) (pop y)) I s ∧ (pop y = 0 → I = 0 ∧ s = 1) ∧ (0 < pop y → I = insE es (bset y) ∧ s = pop y) := by
  have h1 := insE_le es (bset y)
  have h2 := pop_le y
  rcases Nat.eq_zero_or_pos (pop y) with h0 | h0
  · refine ⟨0, 1, ?_, fun _ => ⟨rfl, rfl⟩, fun h => by omega⟩
    unfold dseN dseD
    rw [if_pos h0, if_pos h0]
    exact ⟨okF_01, Nat.one_pos, by simp⟩
  · refine ⟨insE es (bset y), pop y, ?_, fun h => by omega, fun _ => ⟨rfl, rfl⟩⟩
    unfold dseN dseD
    rw [if_neg (by omega), if_neg (by omega)]
    exact FrV.mk_ _ _ h0 (by omega) (by omega)
theorem DB.frv (h : DB n es x N D ps) (hl : es.length ≤ 4096) : FrV (N : Int) (D : Int) N D := ⟨h.ok hl, h.D0, rfl⟩
/-- No set is denser. -/
theorem DB.cmp_set (h : DB n es x N D ps) (hl : es.length ≤ 4096) {y : Nat} (hy : ∀ v, y.testBit v = true → v < n) : cmpF (dseN es (bset y) (pop y)) (dseD es (bset y) (pop y)) N D ≤ 0 := by
  obtain ⟨I, s, hf, h0, h1⟩ := dse_frv (es := es) (y := y) hl
  refine hf.cmp (h.frv hl) ?_
  rcases Nat.eq_zero_or_pos (pop y) with hp | hp
  · obtain ⟨e1, e2⟩ := h0 hp
    rw [e1, Nat.zero_mul]; exact Nat.zero_le _
  · obtain ⟨e1, e2⟩ := h1 hp
    rw [e1, e2, Nat.mul_comm]
    exact h.max y hy
/-- Each node of the best set has the density's number of neighbours in it. -/
theorem DB.deg (h : DB n es x N D ps) (hz : chkG n es = 0) (hn : n ≤ 62) : ∀ v ∈ bset x, N ≤ dg (nbG n es) (bset x) v * D := by
  intro v hv
  have hp : 0 < pop x := by
    rw [pop_bset]; exact List.length_pos_of_mem hv
  have hb := best_deg hz hn (t := x) (le_bits (by omega) h.sub) (fun u h1 h2 => by
    have hu : ∀ i, u.testBit i = true → i < n := fun i hi => by
      refine Classical.byContradiction fun hc => ?_
      rw [Nat.testBit_lt_two_pow (Nat.lt_of_lt_of_le h2 (Nat.pow_le_pow_right (by omega) (by omega)))] at hi
      cases hi
    refine Nat.le_of_mul_le_mul_left ?_ h.D0
    have e1 : D * (insE es (bset u) * pop x) = D * insE es (bset u) * pop x := by grind
    have e2 : D * (insE es (bset x) * pop u) = D * insE es (bset x) * pop u := by grind
    rw [e1, e2, h.eq]
    have e3 : N * pop x * pop u = N * pop u * pop x := by grind
    rw [e3]
    exact Nat.mul_le_mul_right _ (h.max u hu)) v hv
  refine Nat.le_of_mul_le_mul_right ?_ hp
  rw [← h.eq]
  have e : dg (nbG n es) (bset x) v * D * pop x = D * (dg (nbG n es) (bset x) v * pop x) := by grind
  rw [e]
  exact Nat.mul_le_mul_left D hb
/-- Without edges all nodes are in the best set. -/
theorem DB.all_of_nil (h : DB n [] x N D ps) (hn : n ≤ 64) : pop x = n := by
  have h0 : ∀ y, insE [] (bset y) = 0 := fun _ => rfl
  rcases Nat.eq_zero_or_pos n with hn0 | hn0
  · subst hn0
    obtain ⟨rfl, -, -⟩ := h.zero0
    rw [pop_bl, bl_zero]; rfl
  · have hp := h.pos hn0
    have he := h.eq
    rw [h0, Nat.mul_zero] at he
    have hN : N = 0 := by
      rcases Nat.eq_zero_or_pos N with h1 | h1
      · exact h1
      · have := Nat.mul_pos h1 hp; omega
    have hg := h.great (allM n) (fun v hv => by rw [allM_bit, decide_eq_true_eq] at hv; exact hv) (by rw [h0, hN]; omega)
    have hx : x = allM n := Nat.eq_of_testBit_eq fun i => by
      rw [allM_bit]
      cases c : x.testBit i with
      | true => exact (decide_eq_true (h.sub i c)).symm
      | false =>
        refine (decide_eq_false fun hi => ?_).symm
        rw [hg i (by rw [allM_bit]; exact decide_eq_true hi)] at c; cases c
    rw [hx, pop_bset]
    unfold allM
    rw [bset_all hn]; unfold rng; simp
/-- The best set is the greatest one for its own density. -/
theorem DB.own (h : DB n es x N D ps) (hn : n ≤ 64) {m : Nat} (hm : IsMax es (List.replicate n 0) (allM n) D N m) : m = x ∧ ¬ (N * pop m < insE es (bset m) * D) := by
  have hs : ∀ y : Nat, (∀ v, y.testBit v = true → v < n) → ∀ v, y.testBit v = true → (allM n).testBit v = true := fun y hy v hv => by rw [allM_bit]; exact decide_eq_true (hy v hv)
  have hmn : ∀ v, m.testBit v = true → v < n := fun v hv => by have := hm.sub v hv; rw [allM_bit, decide_eq_true_eq] at this; exact this
  have hval : ∀ y, val es (List.replicate n 0) D N y = ((D * insE es (bset y) : Nat) : Int) - ((N * pop y : Nat) : Int) := fun y => by
    unfold val
    rw [wtI_rep, Int.natCast_mul, Int.natCast_mul]
  have h1 := h.max m hmn
  have h2 := hm.max x (hs x h.sub)
  have h3 := h.eq
  rw [hval, hval] at h2
  have hz : D * insE es (bset m) = N * pop m := by omega
  have g1 := h.great m hmn hz
  have g2 := hm.great x (hs x h.sub) (by rw [hval, hval]; omega)
  refine ⟨Nat.eq_of_testBit_eq fun i => ?_, by rw [Nat.mul_comm (insE es (bset m))]; omega⟩
  have a1 := g1 i
  have a2 := g2 i
  cases c1 : m.testBit i <;> cases c2 : x.testBit i <;> simp_all
/-- Some set is worth more than a price exactly if the price is below the greatest density. -/
theorem DB.more (h : DB n es x N D ps) (hn : n ≤ 64) {p q m : Nat} (hq : 0 < q) (hm : IsMax es (List.replicate n 0) (allM n) q p m) : p * pop m < insE es (bset m) * q ↔ p * D < N * q := by
  have hs : ∀ y : Nat, (∀ v, y.testBit v = true → v < n) → ∀ v, y.testBit v = true → (allM n).testBit v = true := fun y hy v hv => by rw [allM_bit]; exact decide_eq_true (hy v hv)
  have hmn : ∀ v, m.testBit v = true → v < n := fun v hv => by have := hm.sub v hv; rw [allM_bit, decide_eq_true_eq] at this; exact this
  have hval : ∀ y, val es (List.replicate n 0) q p y = ((insE es (bset y) * q : Nat) : Int) - ((p * pop y : Nat) : Int) := fun y => by
    unfold val
    rw [wtI_rep, Int.natCast_mul, Int.natCast_mul, Int.mul_comm (q : Int)]
  constructor
  · intro h1
    have hpm : 0 < pop m := by
      rcases Nat.eq_zero_or_pos (pop m) with h0 | h0
      · exfalso
        have : bset m = [] := by rw [pop_bset] at h0; exact List.eq_nil_of_length_eq_zero h0
        rw [this, insE_S0, Nat.zero_mul] at h1; omega
      · exact h0
    have h2 := h.max m hmn
    refine Nat.lt_of_mul_lt_mul_left (a := pop m) ?_
    have e1 : pop m * (p * D) = p * pop m * D := by grind
    have e2 : pop m * (N * q) = N * pop m * q := by grind
    rw [e1, e2]
    refine Nat.lt_of_lt_of_le (Nat.mul_lt_mul_of_pos_right h1 h.D0) ?_
    have e3 : insE es (bset m) * q * D = D * insE es (bset m) * q := by grind
    rw [e3]
    exact Nat.mul_le_mul_right q h2
  · intro h1
    have hn0 : 0 < n := by
      rcases Nat.eq_zero_or_pos n with h0 | h0
      · subst h0
        obtain ⟨-, hN, -⟩ := h.zero0
        rw [hN, Nat.zero_mul] at h1; omega
      · exact h0
    have hpx := h.pos hn0
    have h2 := hm.max x (hs x h.sub)
    rw [hval, hval] at h2
    have h3 : p * pop x < insE es (bset x) * q := by
      refine Nat.lt_of_mul_lt_mul_left (a := D) ?_
      have e1 : D * (p * pop x) = p * D * pop x := by grind
      have e2 : D * (insE es (bset x) * q) = D * insE es (bset x) * q := by grind
      rw [e1, e2, h.eq]
      have e3 : N * pop x * q = N * q * pop x := by grind
      rw [e3]
      exact Nat.mul_lt_mul_of_pos_right h1 hpx
    omega
end

end Go.Proofs.YticekkjambkifaaGreatDoor.Fl
