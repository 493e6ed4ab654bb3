/- Printed by merge.py from PrnA, PrnB, PrnC. -/
import Derived.Test.YtdibfecejgjfmaaGreatDoorLwtA
import Derived.Test.YtdibfecejgjfmaaGreatDoorGrfG
import Derived.Test.YtdibfecejgjfmaaGreatDoorRefI
import Derived.BigRegion
import Derived.Deep.DeepCutAuto
/- Plain laws of the reference's rounds (chapter 20). -/
set_option linter.unusedVariables false
set_option linter.unusedSimpArgs false
namespace Go.Proofs.YtdibfecejgjfmaaGreatDoor
open Go.RowKit CoBit CoRat Rt
section
variable {n : Nat} {es : List (Int × Int)} {a d : Nat}
theorem bset_all (hn : n ≤ 64) : bset (2 ^ n - 1) = rng n := by
  refine sorted_ext (bset_sorted _) (rng_sorted n) fun x => ?_
  constructor
  · intro hx
    obtain ⟨i, rfl⟩ := bset_nat hx
    have h := (mem_bset.1 hx).2
    rw [all_bit] at h
    exact mem_rng.2 ⟨by omega, by have := of_decide_eq_true h; omega⟩
  · intro hx
    have h := mem_rng.1 hx
    obtain ⟨i, rfl⟩ := Int.eq_ofNat_of_zero_le h.1
    refine mem_bset.2 ⟨by omega, ?_⟩
    rw [all_bit]
    exact decide_eq_true (by omega)
theorem bset_in {x : Nat} (hx : ∀ i, x.testBit i = true → i < n) : ∀ v ∈ bset x, v ∈ rng n := fun v hv => by
  obtain ⟨i, rfl⟩ := bset_nat hv
  have := hx i (mem_bset.1 hv).2
  exact mem_rng.2 ⟨by omega, by omega⟩
theorem bset_meet {x : Nat} (hx : ∀ i, x.testBit i = true → i < n) : meetL (bset x) (rng n) = bset x := by
  rw [meet_sorted (bset_sorted x)]
  exact List.filter_eq_self.2 fun v hv => by simpa using bset_in hx v hv
theorem pop_pos {x : Nat} (hx : x < 18446744073709551616) (h : x ≠ 0) : 0 < pop x := by
  rw [pop_bset]
  exact List.length_pos_iff.2 (bset_ne hx h)
theorem den_eq {x : Nat} (hx : x < 18446744073709551616) (h : x ≠ 0) (hi : ∀ i, x.testBit i = true → i < n) : dseN es (bset x) (meetL (bset x) (rng n)).length = dnN es x ∧ dseD es (bset x) (meetL (bset x) (rng n)).length = dnD es x := by
  rw [bset_meet hi, ← pop_bset]
  have := pop_pos hx h
  unfold dseN dseD dnN dnD
  rw [if_neg (by omega), if_neg (by omega)]
  exact ⟨rfl, rfl⟩
theorem den_val {x : Nat} (hx : x < 18446744073709551616) (h : x ≠ 0) (hes : es.length ≤ 68719476736) : ∃ N D : Nat, dnN es x = (N : Int) ∧ dnD es x = (D : Int) ∧ 0 < D ∧ N ≤ insE es (bset x) ∧ D ≤ 64 ∧ N * (bset x).length = insE es (bset x) * D ∧ okF (N : Int) (D : Int) = true := by
  have hp := pop_pos hx h
  have hp64 : pop x ≤ 64 := by rw [pop_bset]; exact bset_length x
  have hI := insE_le es (bset x)
  obtain ⟨N, D, h1, h2, h3, h4, h5, h6⟩ := mk_val (insE es (bset x)) (pop x) hp (by omega) (by omega)
  have hok := mk_ok (insE es (bset x)) (pop x) hp (by omega) (by omega)
  rw [h1, h2] at hok
  exact ⟨N, D, h1, h2, h3, h4, by omega, by rw [← pop_bset]; exact h6, hok⟩
/-- Has a node few neighbours, as the reference asks? -/
def gonP (n : Nat) (es : List (Int × Int)) (x a d N D : Nat) (v : Int) : Bool := decide (dg (nbG n es) (bset x) v * d * D ≤ 2 * (d + a) * N)
theorem few_gon (hc : chkG n es = 0) (hn : n ≤ 64) {x N D : Nat} (hx : x < 18446744073709551616) (hD : 0 < D) (h : N * (bset x).length = insE es (bset x) * D) : bset (fewM n es x a d) = (bset x).filter (gonP n es x a d N D) := by
  refine sorted_ext (bset_sorted _) ((bset_sorted x).filter _) fun y => ?_
  have key : ∀ v : Nat, x.testBit v = true → (fewP n es x a d v = true ↔ gonP n es x a d N D v = true) := fun v hv => by
    have hpos : 0 < (bset x).length := List.length_pos_iff.2 (bset_ne hx (fun e => by subst e; simp at hv))
    rw [fewP_iff hc hn]
    unfold gonP
    rw [decide_eq_true_eq]
    generalize dg (nbG n es) (bset x) v = c at *
    generalize (bset x).length = s at *
    generalize insE es (bset x) = I at *
    generalize 2 * (d + a) = t at *
    have e1 : c * s * d * D = (c * d * D) * s := by rw [Nat.mul_right_comm c s d, Nat.mul_right_comm (c * d) s D]
    have e2 : t * I * D = (t * N) * s := by rw [Nat.mul_assoc, ← h, Nat.mul_assoc]
    constructor
    · intro hle
      have := Nat.mul_le_mul_right D hle
      rw [e1, e2] at this
      exact Nat.le_of_mul_le_mul_right this hpos
    · intro hle
      have := Nat.mul_le_mul_right s hle
      rw [← e1, ← e2] at this
      exact Nat.le_of_mul_le_mul_right this hD
  rw [List.mem_filter]
  constructor
  · intro hy
    obtain ⟨i, rfl⟩ := bset_nat hy
    have h1 := (fewM_bit n es x a d i).1 (mem_bset.1 hy).2
    exact ⟨mem_bset.2 h1.1, (key i h1.1.2).1 h1.2⟩
  · rintro ⟨hy, hg⟩
    obtain ⟨i, rfl⟩ := bset_nat hy
    have h1 := mem_bset.1 hy
    exact mem_bset.2 ⟨h1.1, (fewM_bit n es x a d i).2 ⟨h1, (key i h1.2).2 hg⟩⟩
theorem mns_bset {x m : Nat} (hx : x < 18446744073709551616) (hm : m < 18446744073709551616) : bset (mns x m) = minusL (bset x) (bset m) := by
  rw [minus_sorted (bset_sorted x)]
  refine sorted_ext (bset_sorted _) ((bset_sorted x).filter _) fun y => ?_
  rw [List.mem_filter]
  constructor
  · intro hy
    obtain ⟨i, rfl⟩ := bset_nat hy
    obtain ⟨h0, h1⟩ := mem_bset.1 hy
    rw [mns_bit hx hm, Bool.and_eq_true, Bool.not_eq_true'] at h1
    exact ⟨mem_bset.2 ⟨h0, h1.1⟩, by simp only [decide_eq_true_eq]; intro hc; have := (mem_bset.1 hc).2; rw [h1.2] at this; cases this⟩
  · rintro ⟨hy, hg⟩
    obtain ⟨i, rfl⟩ := bset_nat hy
    obtain ⟨h0, h1⟩ := mem_bset.1 hy
    refine mem_bset.2 ⟨h0, ?_⟩
    rw [mns_bit hx hm, Bool.and_eq_true, Bool.not_eq_true']
    refine ⟨h1, ?_⟩
    simp only [decide_eq_true_eq] at hg
    cases hb : m.testBit i with
    | false => rfl
    | true => exact absurd (mem_bset.2 ⟨h0, hb⟩) hg
theorem mns_dec (hc : chkG n es = 0) (hn : n ≤ 64) {x : Nat} (hx : x < 18446744073709551616) (h0 : x ≠ 0) : (bset (mns x (fewM n es x a d))).length < (bset x).length := by
  rw [mns_bset hx (fewM_lt _ _ _ _ _), minus_sorted (bset_sorted x)]
  obtain ⟨y, hy⟩ : ∃ y, y ∈ bset (fewM n es x a d) := by
    cases h : bset (fewM n es x a d) with
    | nil => exact absurd h (bset_ne (fewM_lt _ _ _ _ _) (few_some hc hn hx h0))
    | cons y _ => exact ⟨y, by simp⟩
  have hyx : y ∈ bset x := by
    obtain ⟨i, rfl⟩ := bset_nat hy
    exact mem_bset.2 ((fewM_bit _ _ _ _ _ i).1 (mem_bset.1 hy).2).1
  refine Nat.lt_of_le_of_ne (List.length_filter_le _ _) fun e => ?_
  have := List.length_filter_eq_length_iff.1 e y hyx
  simp at this
  exact this hy
attribute [local irreducible] dnN dnD in
/-- The record's density is a fraction as soon as there is a round. -/
theorem rnd_den (hn : n ≤ 64) (hes : es.length ≤ 68719476736) (k : Nat) : ((rndK n es a d k).2.2 = [] → (rndK n es a d k).2.1 = (0, 0, 0)) ∧ ((rndK n es a d k).2.2 ≠ [] → 0 < (rndK n es a d k).2.1.2.2) := by
  induction k with
  | zero => exact ⟨fun _ => rfl, fun h => absurd rfl h⟩
  | succ k ih =>
    by_cases h0 : (rndK n es a d k).1 = 0
    · rw [rndK_stop h0 1]; exact ih
    · rw [rndK_next h0]
      refine ⟨fun h => by simp at h, fun _ => ?_⟩
      have hL := rndK_lt (es := es) (a := a) (d := d) hn k
      obtain ⟨N, D, h1, h2, h3, _⟩ := den_val hL h0 hes
      have hlast : 0 < dnD es (rndK n es a d k).1 := by rw [h2]; omega
      show 0 < (offV es (rndK n es a d k).1 (rndK n es a d k).2.1).2.2
      unfold offV
      by_cases hz : (rndK n es a d k).2.1.2.2 = 0
      · rw [if_pos hz]; exact hlast
      · rw [if_neg hz]
        split
        · exact hlast
        · by_cases hs : (rndK n es a d k).2.2 = []
          · rw [ih.1 hs] at hz; exact absurd rfl hz
          · exact ih.2 hs
attribute [local irreducible] dnN dnD in
theorem off_eq {x : Nat} {r : Nat × Int × Int} : offV es x r = if r.2.2 = 0 ∨ 0 < cmpF (dnN es x) (dnD es x) r.2.1 r.2.2 then (x, dnN es x, dnD es x) else r := by
  unfold offV
  by_cases h1 : r.2.2 = 0
  · rw [if_pos h1, if_pos (.inl h1)]
  · rw [if_neg h1]
    by_cases h2 : 0 < cmpF (dnN es x) (dnD es x) r.2.1 r.2.2
    · rw [if_pos h2, if_pos (.inr h2)]
    · rw [if_neg h2, if_neg (by rintro (h | h); exact h1 h; exact h2 h)]
theorem rnd_rows (k : Nat) : ∀ ys ∈ (rndK n es a d k).2.2, ys.length ≤ 64 := by
  induction k with
  | zero => intro ys h; cases h
  | succ k ih =>
    by_cases h0 : (rndK n es a d k).1 = 0
    · rw [rndK_stop h0 1]; exact ih
    · rw [rndK_next h0]
      intro ys hy
      rw [List.mem_append, List.mem_singleton] at hy
      rcases hy with hy | rfl
      · exact ih ys hy
      · exact bset_length _
end
end Go.Proofs.YtdibfecejgjfmaaGreatDoor

/- Appends of lists in a drawn region. -/
set_option linter.unusedVariables false
set_option linter.unusedSimpArgs false
namespace Go.Proofs.YtdibfecejgjfmaaGreatDoor
open Go.RowKit CoBit CoRat Rt
set_option maxRecDepth 100000 in
/-- append of one list. -/
theorem step_pushL {ops : Array Oper} {o : Oper} {a : Act} {K : Act → World → Prop} {Q : Exit → Act → World → Prop} {w : World} {T B H : Nat} {v : Value} {q : Option Nat} {L : List (List Int)} {A : Option Addr} {k c : Nat} {ys : List Int} {E : Prop}
    (hgd : o.guard = none) (s x : Operand) (ho : o.op = .call { callee := .builtin .append, args := #[s, x], argTypes := #[41, 41] })
    (hs : a.eval s = v) (hx : a.eval x = .slice (some ⟨H, 0, none⟩) 1 1) (hH : H = w.heap.size) (hown : OLL w B v q L) (hn : L.length ≤ 1099511627776) (hB : B ≤ w.heap.size)
    (hk : k ≤ c) (hr : RI w A k ys) (hA : ∀ ad, A = some ad → 0 < k → some ad.block ≠ v.ownBlock ∧ some ad.block ≠ q ∧ B ≤ ad.block ∧ ad.block < w.heap.size)
    (h : ∀ v' w', OLL w' B v' q (L ++ [ys]) → Below B w w' → w.grownBy w' v.ownBlock → (v'.ownBlock = v.ownBlock ∨ ∃ k, v'.ownBlock = some k ∧ w.heap.size ≤ k) → K (a.put o.dst v') w') :
    if Region.wanted o (yielded ops a.tmps) = true then Oper.wp Tryz.prog o a (w.alloc (.cells #[.slice A k c] T)) K Q else E := by
  obtain ⟨i0, hi0, hz0, hz1, hz2⟩ := info_parts slice_info'
  subst hH
  obtain ⟨vs, h1, h2, h3⟩ := hown
  have hrd : Reads (w.alloc (.cells #[.slice A k c] T)) (w.alloc (.cells #[.slice A k c] T)).heap.size 1 (some ⟨w.heap.size, 0, none⟩) 1 [.slice A k c] := by
    refine ⟨rfl, fun _ => ⟨_, rfl, by simp, fun j u hu => ?_⟩⟩
    cases j with
    | zero => injection hu with hu; subst hu; exact Blk.cell (Blk.new w T #[.slice A k c]) 0
    | succ j => simp at hu
  refine step_append_any _ hgd s x _ ho B 25 i0 _ 1 24 Tryz.underlying41 hi0 hz0 hz1 hz2 rfl (by omega) v L.length vs hs (World.ownsRow.alloc h1 _) _ _ 1 1 [.slice A k c] hx hrd (by intro u hu; rw [List.mem_singleton] at hu; subst hu; rfl) (by unfold maxLen; omega) (by omega) (by simp; omega) ?_
  intro v' w' h4 h5 h6
  have hbw : Below B w w' := below_own ((Below.refl _ _).alloc hB _) h5 (by simp; omega) (fun k hk => (h1.lt k hk).1)
  have hgw : w.grownBy w' v.ownBlock := ⟨h5.os, h5.tape, h5.output, Nat.le_trans (by simp) h5.size, fun k hk hne => (h5.block k (by simp; omega) hne).trans (Below.heap_alloc w _ k hk)⟩
  have h7 : v'.ownBlock = v.ownBlock ∨ ∃ k, v'.ownBlock = some k ∧ w.heap.size ≤ k := by
    rcases h6 with h6 | h6
    · exact .inl h6
    · exact .inr ⟨_, h6, by simp⟩
  refine h v' w' ⟨vs ++ [.slice A k c], by rw [List.length_append]; exact h4, by simp [h2], ?_⟩ hbw hgw h7
  intro i u zs hu hz
  have hrow : RowV w B v.ownBlock q u zs := by
    rcases Nat.lt_or_ge i L.length with hi | hi
    · rw [List.getElem?_append_left (by omega)] at hu hz
      exact h3 i u zs hu hz
    · rw [List.getElem?_append_right (by omega)] at hu hz
      rw [h2] at hu
      cases hd : i - L.length with
      | zero =>
        rw [hd] at hu hz
        injection hu with hu; injection hz with hz
        subst hu; subst hz
        exact ⟨A, k, c, rfl, hk, hr, hA⟩
      | succ j => rw [hd] at hu; simp at hu
  have h8 := hrow.turn h7 (.inl rfl)
  obtain ⟨A', k', c', e1, e2, e3, e4⟩ := hrow
  obtain ⟨A2, k2, c2, f1, f2, f3, f4⟩ := h8
  rw [e1] at f1
  injection f1 with f1 f1' f1''
  subst f1; subst f1'; subst f1''
  exact ⟨A', k', c', e1, e2, e3.kept0 hgw (fun ad e hk => (e4 ad e hk).1), fun ad e hk => ⟨(f4 ad e hk).1, (f4 ad e hk).2.1, (f4 ad e hk).2.2.1, Nat.lt_of_lt_of_le (f4 ad e hk).2.2.2 hgw.size⟩⟩
/-- append of a list, with its block. -/
theorem step_catb {ops : Array Oper} {o : Oper} {a : Act} {K : Act → World → Prop} {Q : Exit → Act → World → Prop} {w : World} {B : Nat} {v : Value} {ys zs : List Int} {A : Option Addr} {m c : Nat} {E : Prop}
    (hgd : o.guard = none) (s x : Operand) (ho : o.op = .call { callee := .builtin .append, args := #[s, x], argTypes := #[25, 25] })
    (hs : a.eval s = v) (hx : a.eval x = .slice A m c) (hown : OI w B v ys) (hr : RI w A m zs) (hn : ys.length + m ≤ 2199023255552) (hB : B ≤ w.heap.size)
    (h : ∀ v' w', OI w' B v' (ys ++ zs) → Below B w w' → w.grownBy w' v.ownBlock → (v'.ownBlock = v.ownBlock ∨ ∃ k, v'.ownBlock = some k ∧ w.heap.size ≤ k) → K (a.put o.dst v') w') :
    if Region.wanted o (yielded ops a.tmps) = true then Oper.wp Tryz.prog o a w K Q else E := by
  obtain ⟨i0, hi0, hz0, hz1, hz2⟩ := info_parts int_info
  refine step_append_any _ hgd s x _ ho B 3 i0 _ 1 8 Tryz.underlying25 hi0 hz0 hz1 hz2 rfl (by omega) v ys.length (ints ys) hs hown _ _ m c (ints zs) hx hr (ints_one _) (by unfold maxLen; omega) (by omega) hB ?_
  intro v' w' h1 h2 h3
  refine h v' w' ?_ (below_own (Below.refl _ _) h2 hB (own_block hown)) h2 ?_
  · unfold OI
    rw [List.length_append, ints_append, hr.len]; exact h1
  · rcases h3 with h3 | h3
    · exact .inl h3
    · exact .inr ⟨_, h3, Nat.le_refl _⟩
end Go.Proofs.YtdibfecejgjfmaaGreatDoor

/- The reference's Rounds, where there is no error. -/
set_option linter.unusedVariables false
set_option linter.unusedSimpArgs false
namespace Go.Proofs.YtdibfecejgjfmaaGreatDoor
open Go.RowKit CoBit CoRat Rt

theorem RI.block_lt' {A : Option Addr} {n : Nat} {xs : List Int} {W : World} (h : RI W A n xs) (hp : 0 < n) : ∀ ad, A = some ad → ad.block < W.heap.size := fun ad e => by
  obtain ⟨ad', he, hb, _⟩ := h.2 hp
  rw [e] at he; injection he with he; rw [he]; exact hb
def lenS : Value → Nat
  | .slice _ n _ => n
  | _ => 0
/-- The state of the reference's rounds. -/
def RndR (w : World) (g8 : Nat) (A : Option Addr) (m c n a d : Nat) (LF : Nat) (RC : Nat × Int × Int) (LS : List (List Int)) (us ul : Value) (wr : World) : Prop :=
  ∃ (od : Value) (Al : Option Addr) (nl cl : Nat) (As : Option Addr) (ns cs : Nat), ul = .slice Al nl cl ∧ nl ≤ cl ∧ ns ≤ cs ∧ RI wr Al nl (bset LF) ∧ (∀ ad, Al = some ad → 0 < nl → g8 + 1 ≤ ad.block ∧ some ad.block ≠ us.ownBlock ∧ some ad.block ≠ od.ownBlock) ∧
    RI wr As ns (bset RC.1) ∧ (∀ ad, As = some ad → 0 < ns → g8 + 1 ≤ ad.block ∧ some ad.block ≠ us.ownBlock ∧ some ad.block ≠ od.ownBlock) ∧ OLL wr (g8 + 1) us od.ownBlock LS ∧ OI wr (g8 + 1) od LS.flatten ∧ (us.ownBlock = none ∨ us.ownBlock ≠ od.ownBlock) ∧
    Blk wr g8 35 #[od, .slice As ns cs, .int .i64 RC.2.1, .int .i64 (fixD RC.2.2)] ∧ Blk wr (w.heap.size + 1) 33 #[.int .i64 a, .int .i64 d] ∧ Blk wr w.heap.size 24 #[.int .i64 n, .slice A m c] ∧
    Blk wr (w.heap.size + 1 + 1) 35 #[.slice none 0 0, .slice none 0 0, .int .i64 0, .int .i64 0] ∧ Below w.heap.size w wr
end Go.Proofs.YtdibfecejgjfmaaGreatDoor
