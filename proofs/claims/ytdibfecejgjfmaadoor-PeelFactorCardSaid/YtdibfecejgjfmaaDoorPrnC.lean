/- Printed by merge.py from PrnA, PrnB, PrnC. -/
import Derived.Test.YtdibfecejgjfmaaDoorLwtA
import Derived.Test.YtdibfecejgjfmaaDoorGrfG
import Derived.Test.YtdibfecejgjfmaaDoorRefI
import Derived.BigRegion
import Derived.Deep.DeepCutAuto
/- Plain laws of the reference's rounds (chapter 20). -/
set_option linter.unusedVariables false
set_option linter.unusedSimpArgs false
namespace Go.Proofs.YtdibfecejgjfmaaDoor
open Go.RowKit CoBit CoRat Rt
section
variable {n : Nat} {es : List (Int × Int)} {a d : Nat}
theorem bset_all (hn : n ≤ 64) : bset (2 ^ n - 1) = rng n := by
  refine sorted_ext (bset_sorted _) (rng_sorted n) fun x => ?_
  constructor
  · intro hx
    obtain ⟨i, rfl⟩ := bset_nat hx
    have h := (mem_bset.1 hx).2
    rw [all_bit] at h
    exact mem_rng.2 ⟨by omega, by have := of_decide_eq_true h; omega⟩
  · intro hx
    have h := mem_rng.1 hx
    obtain ⟨i, rfl⟩ := Int.eq_ofNat_of_zero_le h.1
    refine mem_bset.2 ⟨by omega, ?_⟩
    rw [all_bit]
    exact decide_eq_true (by omega)
theorem bset_in {x : Nat} (hx : ∀ i, x.testBit i = true → i < n) : ∀ v ∈ bset x, v ∈ rng n := fun v hv => by
  obtain ⟨i, rfl⟩ := bset_nat hv
  have := hx i (mem_bset.1 hv).2
  exact mem_rng.2 ⟨by omega, by omega⟩
theorem bset_meet {x : Nat} (hx : ∀ i, x.testBit i = true → i < n) : meetL (bset x) (rng n) = bset x := by
  rw [meet_sorted (bset_sorted x)]
  exact List.filter_eq_self.2 fun v hv => by simpa using bset_in hx v hv
theorem pop_pos {x : Nat} (hx : x < 18446744073709551616) (h : x ≠ 0) : 0 < pop x := by
  rw [pop_bset]
  exact List.length_pos_iff.2 (bset_ne hx h)
theorem den_eq {x : Nat} (hx : x < 18446744073709551616) (h : x ≠ 0) (hi : ∀ i, x.testBit i = true → i < n) : dseN es (bset x) (meetL (bset x) (rng n)).length = dnN es x ∧ dseD es (bset x) (meetL (bset x) (rng n)).length = dnD es x := by
  rw [bset_meet hi, ← pop_bset]
  have := pop_pos hx h
  unfold dseN dseD dnN dnD
  rw [if_neg (by omega), if_neg (by omega)]
  exact ⟨rfl, rfl⟩
theorem den_val {x : Nat} (hx : x < 18446744073709551616) (h : x ≠ 0) (hes : es.length ≤ 68719476736) : ∃ N D : Nat, dnN es x = (N : Int) ∧ dnD es x = (D : Int) ∧ 0 < D ∧ N ≤ insE es (bset x) ∧ D ≤ 64 ∧ N * (bset x).length = insE es (bset x) * D ∧ okF (N : Int) (D : Int) = true := by
  have hp := pop_pos hx h
  have hp64 : pop x ≤ 64 := by rw [pop_bset]; exact bset_length x
  have hI := insE_le es (bset x)
  obtain ⟨N, D, h1, h2, h3, h4, h5, h6⟩ := mk_val (insE es (bset x)) (pop x) hp (by omega) (by omega)
  have hok := mk_ok (insE es (bset x)) (pop x) hp (by omega) (by omega)
  rw [h1, h2] at hok
  exact ⟨N, D, h1, h2, h3, h4, by omega, by rw [← pop_bset]; exact h6, hok⟩
/-- Has a node few neighbours, as the reference asks? -/
def gonP (n : Nat) (es : List (Int × Int)) (x a d N D : Nat) (v : Int) : Bool := decide (dg (nbG n es) (bset x) v * d * D ≤ 2 * (d + a) * N)
theorem few_gon (hc : chkG n es = 0) (hn : n ≤ 64) {x N D : Nat} (hx : x < 18446744073709551616) (hD : 0 < D) (h : N * (bset x).length = insE es (bset x) * D) : bset (fewM n es x a d) = (bset x).filter (gonP n es x a d N D) := by
  refine sorted_ext (bset_sorted _) ((bset_sorted x).filter _) fun y => ?_
  have key : ∀ v : Nat, x.testBit v = true → (fewP n es x a d v = true ↔ gonP n es x a d N D v = true) := fun v hv => by
    have hpos : 0 < (bset x).length := List.length_pos_iff.2 (bset_ne hx (fun e => by subst e; simp at hv))
    rw [fewP_iff hc hn]
    unfold gonP
    rw [decide_eq_true_eq]
    generalize dg (nbG n es) (bset x) v = c at *
    generalize (bset x).length = s at *
    generalize insE es (bset x) = I at *
    generalize 2 * (d + a) = t at *
    have e1 : c * s * d * D = (c * d * D) * s := by rw [Nat.mul_right_comm c s d, Nat.mul_right_comm (c * d) s D]
    have e2 : t * I * D = (t * N) * s := by rw [Nat.mul_assoc, ← h, Nat.mul_assoc]
    constructor
    · intro hle
      have := Nat.mul_le_mul_right D hle
      rw [e1, e2] at this
      exact Nat.le_of_mul_le_mul_right this hpos
    · intro hle
      have := Nat.mul_le_mul_right s hle
      rw [← e1, ← e2] at this
      exact Nat.le_of_mul_le_mul_right this hD
  rw [List.mem_filter]
  constructor
  · intro hy
    obtain ⟨i, rfl⟩ := bset_nat hy
    have h1 := (fewM_bit n es x a d i).1 (mem_bset.1 hy).2
    exact ⟨mem_bset.2 h1.1, (key i h1.1.2).1 h1.2⟩
  · rintro ⟨hy, hg⟩
    obtain ⟨i, rfl⟩ := bset_nat hy
    have h1 := mem_bset.1 hy
    exact mem_bset.2 ⟨h1.1, (fewM_bit n es x a d i).2 ⟨h1, (key i h1.2).2 hg⟩⟩
theorem mns_bset {x m : Nat} (hx : x < 18446744073709551616) (hm : m < 18446744073709551616) : bset (mns x m) = minusL (bset x) (bset m) := by
  rw [minus_sorted (bset_sorted x)]
  refine sorted_ext (bset_sorted _) ((bset_sorted x).filter _) fun y => ?_
  rw [List.mem_filter]
  constructor
  · intro hy
    obtain ⟨i, rfl⟩ := bset_nat hy
    obtain ⟨h0, h1⟩ := mem_bset.1 hy
    rw [mns_bit hx hm, Bool.and_eq_true, Bool.not_eq_true'] at h1
    exact ⟨mem_bset.2 ⟨h0, h1.1⟩, by simp only [decide_eq_true_eq]; intro hc; have := (mem_bset.1 hc).2; rw [h1.2] at this; cases this⟩
  · rintro ⟨hy, hg⟩
    obtain ⟨i, rfl⟩ := bset_nat hy
    obtain ⟨h0, h1⟩ := mem_bset.1 hy
    refine mem_bset.2 ⟨h0, ?_⟩
    rw [mns_bit hx hm, Bool.and_eq_true, Bool.not_eq_true']
    refine ⟨h1, ?_⟩
    simp only [decide_eq_true_eq] at hg
    cases hb : m.testBit i with
    | false => rfl
    | true => exact absurd (mem_bset.2 ⟨h0, hb⟩) hg
theorem mns_dec (hc : chkG n es = 0) (hn : n ≤ 64) {x : Nat} (hx : x < 18446744073709551616) (h0 : x ≠ 0) : (bset (mns x (fewM n es x a d))).length < (bset x).length := by
  rw [mns_bset hx (fewM_lt _ _ _ _ _), minus_sorted (bset_sorted x)]
  obtain ⟨y, hy⟩ : ∃ y, y ∈ bset (fewM n es x a d) := by
    cases h : bset (fewM n es x a d) with
    | nil => exact absurd h (bset_ne (fewM_lt _ _ _ _ _) (few_some hc hn hx h0))
    | cons y _ => exact ⟨y, by simp⟩
  have hyx : y ∈ bset x := by
    obtain ⟨i, rfl⟩ := bset_nat hy
    exact mem_bset.2 ((fewM_bit _ _ _ _ _ i).1 (mem_bset.1 hy).2).1
  refine Nat.lt_of_le_of_ne (List.length_filter_le _ _) fun e => ?_
  have := List.length_filter_eq_length_iff.1 e y hyx
  simp at this
  exact this hy
attribute [local irreducible] dnN dnD in
/-- The record's density is a fraction as soon as there is a round. -/
theorem rnd_den (hn : n ≤ 64) (hes : es.length ≤ 68719476736) (k : Nat) : ((rndK n es a d k).2.2 = [] → (rndK n es a d k).2.1 = (0, 0, 0)) ∧ ((rndK n es a d k).2.2 ≠ [] → 0 < (rndK n es a d k).2.1.2.2) := by
  induction k with
  | zero => exact ⟨fun _ => rfl, fun h => absurd rfl h⟩
  | succ k ih =>
    by_cases h0 : (rndK n es a d k).1 = 0
    · rw [rndK_stop h0 1]; exact ih
    · rw [rndK_next h0]
      refine ⟨fun h => by simp at h, fun _ => ?_⟩
      have hL := rndK_lt (es := es) (a := a) (d := d) hn k
      obtain ⟨N, D, h1, h2, h3, _⟩ := den_val hL h0 hes
      have hlast : 0 < dnD es (rndK n es a d k).1 := by rw [h2]; omega
      show 0 < (offV es (rndK n es a d k).1 (rndK n es a d k).2.1).2.2
      unfold offV
      by_cases hz : (rndK n es a d k).2.1.2.2 = 0
      · rw [if_pos hz]; exact hlast
      · rw [if_neg hz]
        split
        · exact hlast
        · by_cases hs : (rndK n es a d k).2.2 = []
          · rw [ih.1 hs] at hz; exact absurd rfl hz
          · exact ih.2 hs
attribute [local irreducible] dnN dnD in
theorem off_eq {x : Nat} {r : Nat × Int × Int} : offV es x r = if r.2.2 = 0 ∨ 0 < cmpF (dnN es x) (dnD es x) r.2.1 r.2.2 then (x, dnN es x, dnD es x) else r := by
  unfold offV
  by_cases h1 : r.2.2 = 0
  · rw [if_pos h1, if_pos (.inl h1)]
  · rw [if_neg h1]
    by_cases h2 : 0 < cmpF (dnN es x) (dnD es x) r.2.1 r.2.2
    · rw [if_pos h2, if_pos (.inr h2)]
    · rw [if_neg h2, if_neg (by rintro (h | h); exact h1 h; exact h2 h)]
theorem rnd_rows (k : Nat) : ∀ ys ∈ (rndK n es a d k).2.2, ys.length ≤ 64 := by
  induction k with
  | zero => intro ys h; cases h
  | succ k ih =>
    by_cases h0 : (rndK n es a d k).1 = 0
    · rw [rndK_stop h0 1]; exact ih
    · rw [rndK_next h0]
      intro ys hy
      rw [List.mem_append, List.mem_singleton] at hy
      rcases hy with hy | rfl
      · exact ih ys hy
      · exact bset_length _
end
end Go.Proofs.YtdibfecejgjfmaaDoor

/- Appends of lists in a drawn region. -/
set_option linter.unusedVariables false
set_option linter.unusedSimpArgs false
namespace Go.Proofs.YtdibfecejgjfmaaDoor
open Go.RowKit CoBit CoRat Rt
set_option maxRecDepth 100000 in
/-- append of one list. -/
theorem step_pushL {ops : Array Oper} {o : Oper} {a : Act} {K : Act → World → Prop} {Q : Exit → Act → World → Prop} {w : World} {T B H : Nat} {v : Value} {q : Option Nat} {L : List (List Int)} {A : Option Addr} {k c : Nat} {ys : List Int} {E : Prop}
    (hgd : o.guard = none) (s x : Operand) (ho : o.op = .call { callee := .builtin .append, args := #[s, x], argTypes := #[50, 50] })
    (hs : a.eval s = v) (hx : a.eval x = .slice (some ⟨H, 0, none⟩) 1 1) (hH : H = w.heap.size) (hown : OLL w B v q L) (hn : L.length ≤ 1099511627776) (hB : B ≤ w.heap.size)
    (hk : k ≤ c) (hr : RI w A k ys) (hA : ∀ ad, A = some ad → 0 < k → some ad.block ≠ v.ownBlock ∧ some ad.block ≠ q ∧ B ≤ ad.block ∧ ad.block < w.heap.size)
    (h : ∀ v' w', OLL w' B v' q (L ++ [ys]) → Below B w w' → w.grownBy w' v.ownBlock → (v'.ownBlock = v.ownBlock ∨ ∃ k, v'.ownBlock = some k ∧ w.heap.size ≤ k) → K (a.put o.dst v') w') :
    if Region.wanted o (yielded ops a.tmps) = true then Oper.wp Tryd.prog o a (w.alloc (.cells #[.slice A k c] T)) K Q else E := by
  obtain ⟨i0, hi0, hz0, hz1, hz2⟩ := info_parts slice_info'
  subst hH
  obtain ⟨vs, h1, h2, h3⟩ := hown
  have hrd : Reads (w.alloc (.cells #[.slice A k c] T)) (w.alloc (.cells #[.slice A k c] T)).heap.size 1 (some ⟨w.heap.size, 0, none⟩) 1 [.slice A k c] := by
    refine ⟨rfl, fun _ => ⟨_, rfl, by simp, fun j u hu => ?_⟩⟩
    cases j with
    | zero => injection hu with hu; subst hu; exact Blk.cell (Blk.new w T #[.slice A k c]) 0
    | succ j => simp at hu
  refine step_append_any _ hgd s x _ ho B 22 i0 _ 1 24 Tryd.underlying50 hi0 hz0 hz1 hz2 rfl (by omega) v L.length vs hs (World.ownsRow.alloc h1 _) _ _ 1 1 [.slice A k c] hx hrd (by intro u hu; rw [List.mem_singleton] at hu; subst hu; rfl) (by unfold maxLen; omega) (by omega) (by simp; omega) ?_
  intro v' w' h4 h5 h6
  have hbw : Below B w w' := below_own ((Below.refl _ _).alloc hB _) h5 (by simp; omega) (fun k hk => (h1.lt k hk).1)
  have hgw : w.grownBy w' v.ownBlock := ⟨h5.os, h5.tape, h5.output, Nat.le_trans (by simp) h5.size, fun k hk hne => (h5.block k (by simp; omega) hne).trans (Below.heap_alloc w _ k hk)⟩
  have h7 : v'.ownBlock = v.ownBlock ∨ ∃ k, v'.ownBlock = some k ∧ w.heap.size ≤ k := by
    rcases h6 with h6 | h6
    · exact .inl h6
    · exact .inr ⟨_, h6, by simp⟩
  refine h v' w' ⟨vs ++ [.slice A k c], by rw [List.length_append]; exact h4, by simp [h2], ?_⟩ hbw hgw h7
  intro i u zs hu hz
  have hrow : RowV w B v.ownBlock q u zs := by
    rcases Nat.lt_or_ge i L.length with hi | hi
    · rw [List.getElem?_append_left (by omega)] at hu hz
      exact h3 i u zs hu hz
    · rw [List.getElem?_append_right (by omega)] at hu hz
      rw [h2] at hu
      cases hd : i - L.length with
      | zero =>
        rw [hd] at hu hz
        injection hu with hu; injection hz with hz
        subst hu; subst hz
        exact ⟨A, k, c, rfl, hk, hr, hA⟩
      | succ j => rw [hd] at hu; simp at hu
  have h8 := hrow.turn h7 (.inl rfl)
  obtain ⟨A', k', c', e1, e2, e3, e4⟩ := hrow
  obtain ⟨A2, k2, c2, f1, f2, f3, f4⟩ := h8
  rw [e1] at f1
  injection f1 with f1 f1' f1''
  subst f1; subst f1'; subst f1''
  exact ⟨A', k', c', e1, e2, e3.kept0 hgw (fun ad e hk => (e4 ad e hk).1), fun ad e hk => ⟨(f4 ad e hk).1, (f4 ad e hk).2.1, (f4 ad e hk).2.2.1, Nat.lt_of_lt_of_le (f4 ad e hk).2.2.2 hgw.size⟩⟩
/-- append of a list, with its block. -/
theorem step_catb {ops : Array Oper} {o : Oper} {a : Act} {K : Act → World → Prop} {Q : Exit → Act → World → Prop} {w : World} {B : Nat} {v : Value} {ys zs : List Int} {A : Option Addr} {m c : Nat} {E : Prop}
    (hgd : o.guard = none) (s x : Operand) (ho : o.op = .call { callee := .builtin .append, args := #[s, x], argTypes := #[22, 22] })
    (hs : a.eval s = v) (hx : a.eval x = .slice A m c) (hown : OI w B v ys) (hr : RI w A m zs) (hn : ys.length + m ≤ 2199023255552) (hB : B ≤ w.heap.size)
    (h : ∀ v' w', OI w' B v' (ys ++ zs) → Below B w w' → w.grownBy w' v.ownBlock → (v'.ownBlock = v.ownBlock ∨ ∃ k, v'.ownBlock = some k ∧ w.heap.size ≤ k) → K (a.put o.dst v') w') :
    if Region.wanted o (yielded ops a.tmps) = true then Oper.wp Tryd.prog o a w K Q else E := by
  obtain ⟨i0, hi0, hz0, hz1, hz2⟩ := info_parts int_info
  refine step_append_any _ hgd s x _ ho B 3 i0 _ 1 8 Tryd.underlying22 hi0 hz0 hz1 hz2 rfl (by omega) v ys.length (ints ys) hs hown _ _ m c (ints zs) hx hr (ints_one _) (by unfold maxLen; omega) (by omega) hB ?_
  intro v' w' h1 h2 h3
  refine h v' w' ?_ (below_own (Below.refl _ _) h2 hB (own_block hown)) h2 ?_
  · unfold OI
    rw [List.length_append, ints_append, hr.len]; exact h1
  · rcases h3 with h3 | h3
    · exact .inl h3
    · exact .inr ⟨_, h3, Nat.le_refl _⟩
end Go.Proofs.YtdibfecejgjfmaaDoor

/- The reference's Rounds, where there is no error. -/
set_option linter.unusedVariables false
set_option linter.unusedSimpArgs false
namespace Go.Proofs.YtdibfecejgjfmaaDoor
open Go.RowKit CoBit CoRat Rt

theorem RI.block_lt' {A : Option Addr} {n : Nat} {xs : List Int} {W : World} (h : RI W A n xs) (hp : 0 < n) : ∀ ad, A = some ad → ad.block < W.heap.size := fun ad e => by
  obtain ⟨ad', he, hb, _⟩ := h.2 hp
  rw [e] at he; injection he with he; rw [he]; exact hb
def lenS : Value → Nat
  | .slice _ n _ => n
  | _ => 0
/-- The state of the reference's rounds. -/
def RndR (w : World) (g8 : Nat) (A : Option Addr) (m c n a d : Nat) (LF : Nat) (RC : Nat × Int × Int) (LS : List (List Int)) (us ul : Value) (wr : World) : Prop :=
  ∃ (od : Value) (Al : Option Addr) (nl cl : Nat) (As : Option Addr) (ns cs : Nat), ul = .slice Al nl cl ∧ nl ≤ cl ∧ ns ≤ cs ∧ RI wr Al nl (bset LF) ∧ (∀ ad, Al = some ad → 0 < nl → g8 + 1 ≤ ad.block ∧ some ad.block ≠ us.ownBlock ∧ some ad.block ≠ od.ownBlock) ∧
    RI wr As ns (bset RC.1) ∧ (∀ ad, As = some ad → 0 < ns → g8 + 1 ≤ ad.block ∧ some ad.block ≠ us.ownBlock ∧ some ad.block ≠ od.ownBlock) ∧ OLL wr (g8 + 1) us od.ownBlock LS ∧ OI wr (g8 + 1) od LS.flatten ∧ (us.ownBlock = none ∨ us.ownBlock ≠ od.ownBlock) ∧
    Blk wr g8 33 #[od, .slice As ns cs, .int .i64 RC.2.1, .int .i64 (fixD RC.2.2)] ∧ Blk wr (w.heap.size + 1) 31 #[.int .i64 a, .int .i64 d] ∧ Blk wr w.heap.size 27 #[.int .i64 n, .slice A m c] ∧
    Blk wr (w.heap.size + 1 + 1) 33 #[.slice none 0 0, .slice none 0 0, .int .i64 0, .int .i64 0] ∧ Below w.heap.size w wr
set_option maxRecDepth 100000 in
set_option maxHeartbeats 16000000 in
theorem rrounds_ok (A : Option Addr) (m c : Nat) (n : Nat) (es : List (Int × Int)) (a d : Nat) (w : World) (h : RE w A m es) (hm : m ≤ 68719476736) (hz : chkG n es = 0) (hn : n ≤ 64) (hok : okF a d = true) (ha : a ≤ 1048576) (hd : d ≤ 1048576) :
    Calls Tryd.prog 21 #[.agg #[.int .i64 n, .slice A m c], .agg #[.int .i64 a, .int .i64 d]] w (RetRnd w (rndK n es a d n).2.2 (rndK n es a d n).2.2.flatten (bset (rndK n es a d n).2.1.1) (rndK n es a d n).2.1.2.1 (fixD (rndK n es a d n).2.1.2.2) 0) := by
  have hgm := Lib.hid hz
  have kck := fun w h => rcheck_any A m c n es w h (by omega)
  rw [hz] at kck
  have kva := fun w => rvalid_any a d w
  rw [hok] at kva
  have hes : es.length ≤ 68719476736 := by rw [h.len]; exact hm
  have q1 : decide ((a : Int) < 0) = false := by simp
  have q2 : decide (1048576 < (a : Int)) = false := by simp; omega
  have q3 : decide (1048576 < (d : Int)) = false := by simp; omega
  obtain ⟨z0i, hz0, hz1, hz2, hz3⟩ := info_parts int_info
  replace kck := Lib.hid kck
  replace kva := Lib.hid kva
  clear hz hok
  go_enter Tryd.func21, Tryd.ntmps21
  go_wp2_with fail
  refine (kck.out _ (((h.alloc _).alloc _).alloc _)).mono ?_
  rintro e w1 ⟨rfl, hb1⟩
  simp only [World.size_alloc] at hb1
  have b0 : Below w.heap.size w (((w.alloc (.cells #[.int .i64 n, .slice A m c] 27)).alloc (.cells #[.int .i64 a, .int .i64 d] 31)).alloc (.cells #[.slice none 0 0, .slice none 0 0, .int .i64 0, .int .i64 0] 33)) := (((Below.refl _ _).alloc (Nat.le_refl _) _).alloc (by simp) _).alloc (by simp; omega) _
  have hb0 := b0.trans (hb1.mono (by omega))
  have G1 : Blk w1 w.heap.size 27 #[.int .i64 n, .slice A m c] := Blk.below (((Blk.new w _ _).alloc _).alloc _) hb1 (by omega)
  have X1 : Blk w1 (w.heap.size + 1) 31 #[.int .i64 a, .int .i64 d] := Blk.below ((Blk.new' _ _ _ (by simp)).alloc _) hb1 (by omega)
  have R1 : Blk w1 (w.heap.size + 1 + 1) 33 #[.slice none 0 0, .slice none 0 0, .int .i64 0, .int .i64 0] := Blk.below (Blk.new' _ _ _ (by simp)) hb1 (by omega)
  have s1 : w.heap.size + 1 + 1 + 1 ≤ w1.heap.size := by have := hb1.size; simp at this; omega
  obtain ⟨d0, d1⟩ := blkG G1
  have x0 := Blk.cell X1 0
  have x1 := Blk.cell X1 1
  simp at x0 x1
  clear hb1 b0 kck
  go_wp2_with fail
  refine (kva.out _).mono ?_
  rintro e w2 ⟨rfl, hb2⟩
  have hb02 := hb0.trans (hb2.mono (by omega))
  have G2 := G1.below hb2 G1.lt
  have X2 := X1.below hb2 X1.lt
  have R2 := R1.below hb2 R1.lt
  have s2 := hb2.size
  clear hb0 G1 X1 R1 d0 d1 x0 x1 hb2 kva
  obtain ⟨d0, d1⟩ := blkG G2
  have x0 := Blk.cell X2 0
  have x1 := Blk.cell X2 1
  simp at x0 x1
  go_upto_region 10 with fail
  have O3 : Blk (w2.alloc (.cells #[.slice none 0 0, .slice none 0 0, .int .i64 0, .int .i64 1] 33)) w2.heap.size 33 #[.slice none 0 0, .slice none 0 0, .int .i64 0, .int .i64 1] := Blk.new _ _ _
  have G3 := G2.alloc (.cells #[.slice none 0 0, .slice none 0 0, .int .i64 0, .int .i64 1] 33)
  have X3 := X2.alloc (.cells #[.slice none 0 0, .slice none 0 0, .int .i64 0, .int .i64 1] 33)
  have R3 := R2.alloc (.cells #[.slice none 0 0, .slice none 0 0, .int .i64 0, .int .i64 1] 33)
  have hb3 := hb02.alloc hb02.size (.cells #[.slice none 0 0, .slice none 0 0, .int .i64 0, .int .i64 1] 33)
  have s3 : (w2.alloc (.cells #[.slice none 0 0, .slice none 0 0, .int .i64 0, .int .i64 1] 33)).heap.size = w2.heap.size + 1 := by simp
  clear G2 X2 R2 hb02 d0 d1 x0 x1
  generalize w2.alloc (.cells #[.slice none 0 0, .slice none 0 0, .int .i64 0, .int .i64 1] 33) = w3 at *
  generalize w2.heap.size = g8 at *
  obtain ⟨d0, d1⟩ := blkG G3
  go_wp2_with fail
  refine (range_any n hn w3).mono ?_
  rintro e w4 ⟨A4, n4, c4, rfl, hc4, hr4, hb4, hf4⟩
  have G4 := G3.below hb4 G3.lt
  have X4 := X3.below hb4 X3.lt
  have R4 := R3.below hb4 R3.lt
  have O4 := O3.below hb4 O3.lt
  have hb04 := hb3.trans (hb4.mono (by omega))
  have s4 := hb4.size
  clear G3 X3 R3 O3 hb3 hb4 d0 d1
  have hgl : w.heap.size + 1 + 1 < g8 := by omega
  have hstart : RndR w g8 A m c n a d (rndK n es a d 0).1 (rndK n es a d 0).2.1 (rndK n es a d 0).2.2 (.slice none 0 0) (.slice A4 n4 c4) w4 :=
    ⟨.slice none 0 0, A4, n4, c4, none, 0, 0, rfl, hc4, Nat.le_refl _, by show RI w4 A4 n4 (bset (2 ^ n - 1)); rw [bset_all hn]; exact hr4, fun ad e hp => ⟨by have := hf4 ad e; omega, by simp [Value.ownBlock], by simp [Value.ownBlock]⟩, by show RI w4 none 0 (bset 0); rw [bset_zero]; exact RI.none_, (fun ad e => by cases e), OLL.nil_, OI.nil_, .inl rfl, O4, X4, G4, R4, hb04⟩
  clear G4 X4 R4 O4 hb04 hr4 hf4 hc4
  go_wp2_with fail
  go_loopw [9, 10] (fun us ul wr => ∃ (k : Nat) (rs : Value), rs = us ∧ k ≤ n ∧ RndR w g8 A m c n a d (rndK n es a d k).1 (rndK n es a d k).2.1 (rndK n es a d k).2.2 rs ul wr) (fun _ v _ => lenS v)
  case atStart => exact ⟨0, _, rfl, Nat.zero_le _, hstart⟩
  case round =>
    obtain ⟨k, rs, rfl, hk, hR⟩ := hrel
    clear hstart
    unfold RndR at hR
    obtain ⟨od, Al, nl, cl, As, ns, cs, rfl, hcl, hcs, hl, hlf, hs, hsf, hL, hO, hno, hB, hX, hG, hR5, hb⟩ := hR
    by_cases h0 : (rndK n es a d k).1 ≠ 0
    -- B1
    · have hlt : k < n := by
        rcases Nat.lt_or_ge k n with h | h
        · exact h
        · have : k = n := by omega
          rw [this] at h0
          exact absurd (rnd_end hgm.out hn) h0
      have hnx := Lib.hid (rndK_next h0)
      have hLl := rndK_lt (es := es) (a := a) (d := d) hn k
      have hLi := fun i hi => rndK_in (es := es) (a := a) (d := d) hn k i hi
      have hlen := rndK_len (n := n) (es := es) (a := a) (d := d) k
      have hfl := rndK_flat (n := n) (es := es) (a := a) (d := d) k
      have hrd := rnd_den (n := n) (es := es) (a := a) (d := d) hn hes k
      have hoff := off_eq (es := es) (x := (rndK n es a d k).1) (r := (rndK n es a d k).2.1)
      obtain ⟨hq1, hq2⟩ := den_eq (n := n) (es := es) hLl h0 hLi
      obtain ⟨N, D, hN, hD, hD0, hNi, hD64, hND, hokd⟩ := den_val hLl h0 hes
      have hgon := few_gon (a := a) (d := d) hgm.out hn hLl hD0 hND
      have hMl := fewM_lt n es (rndK n es a d k).1 a d
      have hmns := mns_bset hLl hMl
      have hdec := mns_dec (a := a) (d := d) hgm.out hn hLl h0
      have hI : insE es (bset (rndK n es a d k).1) ≤ 4096 := by
        have h1 := insE_le es (bset (rndK n es a d k).1)
        have h2 := srt_len (srt_of_chk hgm.out)
        have h3 : n * n ≤ 64 * 64 := Nat.mul_le_mul hn hn
        omega
      have hpos : 0 < nl := by rw [← hl.len]; exact List.length_pos_iff.2 (bset_ne hLl h0)
      have hnl64 : nl ≤ 64 := by rw [← hl.len]; exact bset_length _
      have hLr := fun v hv => bset_in (n := n) hLi v hv
      have hMl64 := bset_length (fewM n es (rndK n es a d k).1 a d)
      generalize rndK n es a d k = S1 at *
      obtain ⟨LF, RC, LS⟩ := S1
      simp only at *
      generalize fewM n es LF a d = M at *
      generalize mns LF M = LF2 at *
      have hEr := h.below hb (Nat.le_refl _)
      have kd := rdensity_any A m c n es Al nl cl (bset LF) wr hEr hm hgm.out hn hl (by omega)
      rw [hq1, hq2, hN, hD] at kd
      rw [hN, hD] at hoff
      have hLlen := Lib.hid hl.len
      replace hnx := Lib.hid hnx
      replace kd := Lib.hid kd
      replace hoff := Lib.hid hoff
      replace hgon := Lib.hid hgon
      replace hmns := Lib.hid hmns
      replace hrd := Lib.hid hrd
      replace hND := Lib.hid hND
      replace hLr := Lib.hid hLr
      replace hN := Lib.hid hN
      replace hD := Lib.hid hD
      replace hokd := Lib.hid hokd
      have hNb : N ≤ 4096 := by omega
      clear hq1 hq2 hLi h0 hEr
      have hsz : g8 + 1 ≤ wr.heap.size := by have := hB.lt; omega
      obtain ⟨d0, d1⟩ := blkG hG
      have i0 : (0 : Int) < (nl : Int) := by omega
      go_wp2_with fail
      refine kd.out.mono ?_
      rintro e w5 ⟨rfl, hb5⟩
      have hl5 := hl.below hb5 (Nat.le_refl _)
      have hs5 := hs.below hb5 (Nat.le_refl _)
      have hL5 := hL.below hb5 (Nat.le_refl _)
      have hO5 := hO.below hb5 (Nat.le_refl _)
      have hB5 := hB.below hb5 hB.lt
      have hX5 := hX.below hb5 hX.lt
      have hG5 := hG.below hb5 hG.lt
      have hR55 := hR5.below hb5 hR5.lt
      have hb05 := hb.trans (hb5.mono hb.size)
      have s5 := hb5.size
      clear hl hs hL hO hB hX hG hR5 hb d0 d1 kd hb5
      go_upto_region 13 with fail
      have hD6 := Blk.new w5 31 #[.int .i64 N, .int .i64 D]
      have hl6 := hl5.alloc (.cells #[.int .i64 N, .int .i64 D] 31)
      have hs6 := hs5.alloc (.cells #[.int .i64 N, .int .i64 D] 31)
      have hL6 := hL5.alloc (.cells #[.int .i64 N, .int .i64 D] 31)
      have hO6 := hO5.alloc (.cells #[.int .i64 N, .int .i64 D] 31)
      have hB6 := hB5.alloc (.cells #[.int .i64 N, .int .i64 D] 31)
      have hX6 := hX5.alloc (.cells #[.int .i64 N, .int .i64 D] 31)
      have hG6 := hG5.alloc (.cells #[.int .i64 N, .int .i64 D] 31)
      have hR56 := hR55.alloc (.cells #[.int .i64 N, .int .i64 D] 31)
      have hb06 := hb05.alloc hb05.size (.cells #[.int .i64 N, .int .i64 D] 31)
      have hl11 : w5.heap.size < (w5.alloc (.cells #[.int .i64 N, .int .i64 D] 31)).heap.size := by simp
      clear hl5 hs5 hL5 hO5 hB5 hX5 hG5 hR55 hb05
      generalize w5.alloc (.cells #[.int .i64 N, .int .i64 D] 31) = w6 at *
      generalize w5.heap.size = g11 at *
      obtain ⟨A0, c0, rfl, hc0, -, -⟩ := hL6.read
      obtain ⟨CB, hCB⟩ : ∃ CB, CB = decide (RC.2.2 = 0 ∨ 0 < cmpF N D RC.2.1 RC.2.2) := ⟨_, rfl⟩
      replace hCB := Lib.hid hCB
      go_cut [64] (fun q wx => q = .bool CB ∧ Below w6.heap.size w6 wx)
      case first =>
        have y0 := Blk.cell hD6 0
        have y1 := Blk.cell hD6 1
        have z2 := Blk.cell hB6 2
        have z3 := Blk.cell hB6 3
        simp at y0 y1 z2 z3
        by_cases hLS : LS = []
        · have hlz : LS.length = 0 := by rw [hLS]; rfl
          have hcb : CB = true := by
            rw [hCB.out, (hrd.out.1 hLS)]; simp
          clear hrd hCB
          subst hLS
          subst hcb
          go_wp2_with fail
          go_meet
          case rel => exact ⟨rfl, Below.refl _ _⟩
        · have hd2 := hrd.out.2 hLS
          have hlz : ((LS.length : Int) == 0) = false := by
            rw [beq_eq_false_iff_ne]
            intro e
            exact hLS (List.length_eq_zero_iff.1 (by omega))
          have hfd : fixD RC.2.2 = RC.2.2 := by unfold fixD; rw [if_neg (by omega)]
          have kcm := fun w => rCmp_any (N : Int) (D : Int) RC.2.1 RC.2.2 w
          have hcb : CB = decide (0 < cmpF N D RC.2.1 RC.2.2) := by
            rw [hCB.out]
            by_cases hc : 0 < cmpF N D RC.2.1 RC.2.2
            · rw [decide_eq_true hc, decide_eq_true (.inr hc)]
            · rw [decide_eq_false hc, decide_eq_false (by rintro (h | h); omega; exact hc h)]
          rw [hfd] at z3
          generalize cmpF N D RC.2.1 RC.2.2 = CM at *
          replace kcm := Lib.hid kcm
          clear hrd hCB hLS hfd
          replace hcb := Lib.hid hcb
          go_wp2_with (first | (go_at_call 14; refine (kcm.out _).mono ?_; rintro e wx ⟨rfl, hbx⟩) | fail)
          go_meet
          case rel => exact ⟨by rw [hcb.out], hbx⟩
      case rest =>
        obtain ⟨rfl, hbb⟩ := hcut
        obtain ⟨w7, rfl⟩ : ∃ w7, w7 = wc := ⟨_, rfl⟩
        have hl7 := hl6.below hbb (Nat.le_refl _)
        have hs7 := hs6.below hbb (Nat.le_refl _)
        have hL7 := hL6.below hbb (Nat.le_refl _)
        have hO7 := hO6.below hbb (Nat.le_refl _)
        have hB7 := hB6.below hbb hB6.lt
        have hX7 := hX6.below hbb hX6.lt
        have hG7 := hG6.below hbb hG6.lt
        have hR57 := hR56.below hbb hR56.lt
        have hD7 := hD6.below hbb hD6.lt
        have hb07 := hb06.trans (hbb.mono hb06.size)
        have s7 := hbb.size
        clear hl6 hs6 hL6 hO6 hB6 hX6 hG6 hR56 hD6 hb06 hbb
        have hoffd := hoff.out
        obtain ⟨RC2, hRC2⟩ : ∃ RC2, RC2 = offV es LF RC := ⟨_, rfl⟩
        rw [← hRC2] at hoffd
        have hif : Hid (RC2 = if CB = true then (LF, (N : Int), (D : Int)) else RC) := Lib.hid (by
          rw [hoffd, hCB.out]
          by_cases hc : RC.2.2 = 0 ∨ 0 < cmpF N D RC.2.1 RC.2.2
          · rw [if_pos hc, if_pos (decide_eq_true hc)]
          · rw [if_neg hc, if_neg (by rw [decide_eq_false hc]; decide)])
        replace hRC2 := Lib.hid hRC2
        clear hoffd hoff hCB
        go_upto_if 64 with fail
        go_cut [] (fun wx => ∃ (Ax : Option Addr) (nx cx : Nat), nx ≤ cx ∧ RI wx Ax nx (bset RC2.1) ∧ (∀ ad, Ax = some ad → 0 < nx → g8 + 1 ≤ ad.block ∧ some ad.block ≠ (Value.slice A0 LS.length c0).ownBlock ∧ some ad.block ≠ od.ownBlock ∧ ad.block < w7.heap.size) ∧ Blk wx g8 33 #[od, .slice Ax nx cx, .int .i64 RC2.2.1, .int .i64 (fixD RC2.2.2)] ∧ w7.grownBy wx (some g8))
        case first =>
          cases CB with
          | true =>
            have hr2 := hif.out
            rw [if_pos rfl] at hr2
            subst hr2
            have hfd : fixD (D : Int) = (D : Int) := by unfold fixD; rw [if_neg (by omega)]
            have y0 := Blk.cell hD7 0
            have y1 := Blk.cell hD7 1
            have z1 := Blk.cell hB7 1
            have z2 := Blk.cell hB7 2
            have z3 := Blk.cell hB7 3
            have f1 := Blk.frozen hB7 1
            have f2 := Blk.frozen hB7 2
            have f3 := Blk.frozen hB7 3
            simp at y0 y1 z1 z2 z3
            have hne : g11 ≠ g8 := by omega
            have hB8 := Blk.set (Blk.set (Blk.set hB7 1 (.slice Al nl cl)) 2 (.int .i64 N)) 3 (.int .i64 D)
            have hG8 := grown_set (grown_set (grown_set (World.grownBy.refl w7 (some g8)) 1 (.slice Al nl cl)) 2 (.int .i64 N)) 3 (.int .i64 D)
            have hl8 := RI.kept hl7 hG8 (fun ad e h => by have := (hlf ad e hpos).1; injection h with h; omega)
            have hall := fun ad e => RI.block_lt' hl7 hpos ad e
            clear hl7 hs7 hL7 hO7 hX7 hG7 hR57 hb07 hD7 hB7
            go_wp2_with fail
            go_region
            go_wp2_with fail
            go_meet
            case rel => exact ⟨Al, nl, cl, hcl, hl8, fun ad e hp => ⟨(hlf ad e hp).1, (hlf ad e hp).2.1, (hlf ad e hp).2.2, hall ad e⟩, by rw [hfd]; have h9 := hB8; simp at h9; exact h9, grown_drew hG8⟩
          | false =>
            have hr2 := hif.out
            rw [if_neg (by decide)] at hr2
            subst hr2
            go_wp2_with fail
            go_meet
            case rel => exact ⟨As, ns, cs, hcs, hs7, fun ad e hp => ⟨(hsf ad e hp).1, (hsf ad e hp).2.1, (hsf ad e hp).2.2, RI.block_lt' hs7 hp ad e⟩, hB7, World.grownBy.refl _ _⟩
        case rest =>
          obtain ⟨Ax, nx, cx, hcx, hs8, hsf8, hB8, hg8⟩ := hcut
          obtain ⟨w8, rfl⟩ : ∃ w8, w8 = wc := ⟨_, rfl⟩
          have hl8 := RI.kept hl7 hg8 (fun ad e h => by have := (hlf ad e hpos).1; injection h with h; omega)
          have hL8 := OLL.grown hL7 hg8 (Nat.lt_succ_self g8)
          have hO8 := OI.kept hO7 hg8 (by
            cases ho : od.ownBlock with
            | none => exact .inl rfl
            | some g => exact .inr (fun e => by injection e with e; have := (hO7.block_lt g ho).1; omega))
          have hX8 := Blk.grown hX7 hg8 (by intro e; injection e with e; omega)
          have hG8 := Blk.grown hG7 hg8 (by intro e; injection e with e; omega)
          have hR58 := Blk.grown hR57 hg8 (by intro e; injection e with e; omega)
          have hD8 := Blk.grown hD7 hg8 (by intro e; injection e with e; omega)
          have hb08 : Below w.heap.size w w8 := hb07.grown hg8 hb07.size (fun k hk => by injection hk with hk; omega)
          have s8 := hg8.size
          have hlf8 : ∀ ad, Al = some ad → g8 + 1 ≤ ad.block ∧ some ad.block ≠ (Value.slice A0 LS.length c0).ownBlock ∧ some ad.block ≠ od.ownBlock ∧ ad.block < w8.heap.size := fun ad e => ⟨(hlf ad e hpos).1, (hlf ad e hpos).2.1, (hlf ad e hpos).2.2, RI.block_lt' hl8 hpos ad e⟩
          have hsf9 : ∀ ad, Ax = some ad → 0 < nx → g8 + 1 ≤ ad.block ∧ some ad.block ≠ (Value.slice A0 LS.length c0).ownBlock ∧ some ad.block ≠ od.ownBlock ∧ ad.block < w8.heap.size := fun ad e hp => ⟨(hsf8 ad e hp).1, (hsf8 ad e hp).2.1, (hsf8 ad e hp).2.2.1, by have := (hsf8 ad e hp).2.2.2; omega⟩
          replace hlf8 := Lib.hid hlf8
          replace hsf9 := Lib.hid hsf9
          have hlS := hL8.lt
          have hlO := hO8.block_lt
          replace hlS := Lib.hid hlS
          replace hlO := Lib.hid hlO
          replace hno := Lib.hid hno
          have hpk := Lib.hid (And.intro hnx.out (And.intro hRC2.out (And.intro hgon.out (And.intro hmns.out hLlen.out))))
          clear hnx hRC2 hgon hmns hif hN hD hokd hrd hND
          clear hlf hsf hsf8 hl7 hs7 hL7 hO7 hX7 hG7 hR57 hD7 hb07 hB7 hg8
          go_wp2_with fail
          go_loopw [13, 71] (fun gv iv wx => ∃ (j : Nat) (gg : Value), gg = gv ∧ iv = .int .i64 j ∧ j ≤ nl ∧ OI wx w8.heap.size gg (((bset LF).take j).filter (gonP n es LF a d N D)) ∧ Below w8.heap.size w8 wx) (fun _ i _ => nl - (intOf i).toNat)
          case atStart => exact ⟨0, _, rfl, rfl, Nat.zero_le _, OI.nil_, Below.refl _ _⟩
          case round =>
            obtain ⟨j, gg, rfl, rfl, hj, hgo, hbj⟩ := hrel
            by_cases hjn : j < nl
            -- B3
            · obtain ⟨adl, v, rfl, hv, hcv⟩ := (RI.below hl8 hbj (Nat.le_refl _)).get hjn
              have hvr := mem_rng.1 (hLr.out v (List.mem_of_getElem? hv.out))
              obtain ⟨v, rfl⟩ := Int.eq_ofNat_of_zero_le hvr.1
              have hGj := Blk.below hG8 hbj hG8.lt
              have hXj := Blk.below hX8 hbj hX8.lt
              have hDj := Blk.below hD8 hbj hD8.lt
              have hEj := h.below (hb08.trans (hbj.mono hb08.size)) (Nat.le_refl _)
              have hlj := RI.below hl8 hbj (Nat.le_refl _)
              obtain ⟨d0, d1⟩ := blkG hGj
              have kn := Lib.hid (neigh_any A m c n es v wr hEj (by omega))
              have i2 : (j : Int) < (nl : Int) := by omega
              have i3 : (0 : Int) ≤ (j : Int) := by omega
              have htk : (bset LF).take (j + 1) = (bset LF).take j ++ [(v : Int)] := take_at hv.out
              have hfl2 : Hid (((bset LF).take (j + 1)).filter (gonP n es LF a d N D) = if gonP n es LF a d N D v = true then ((bset LF).take j).filter (gonP n es LF a d N D) ++ [(v : Int)] else ((bset LF).take j).filter (gonP n es LF a d N D)) := Lib.hid (by
                rw [htk, List.filter_append]
                by_cases hg : gonP n es LF a d N D v = true
                · rw [if_pos hg, List.filter_cons, if_pos hg]; rfl
                · rw [if_neg hg, List.filter_cons, if_neg hg]; simp)
              have hgl2 : (((bset LF).take j).filter (gonP n es LF a d N D)).length ≤ 64 := Nat.le_trans (List.length_filter_le _ _) (by rw [List.length_take]; have := hLlen.out; omega)
              have hnb64 : (nbG n es v).length ≤ 64 := by rw [← row_nb hgm.out hn v, nts_length]; exact bl_length _
              clear htk hv
              go_wp2_with fail
              refine kn.out.mono ?_
              rintro e wa ⟨Aa, na, ca, rfl, hca, hra, hba, -⟩
              have hXa := Blk.below hXj hba hXj.lt
              have hDa := Blk.below hDj hba hDj.lt
              have hla := RI.below hlj hba (Nat.le_refl _)
              have hga := hgo.below hba (Nat.le_refl _)
              have hbja := hbj.trans (hba.mono hbj.size)
              have km := Lib.hid (meet_any Aa (some adl) na ca nl cl _ _ wa hra (by have := hra.len; omega) hla (by omega))
              clear kn d0 d1 hGj hXj hDj hEj hlj hgo hbj hba hcv
              go_wp2_with fail
              refine km.out.mono ?_
              rintro e wb ⟨Ab, nb, cb, rfl, hcb, hrb, hbb, -⟩
              have hXb := Blk.below hXa hbb hXa.lt
              have hDb := Blk.below hDa hbb hDa.lt
              have hgb := hga.below hbb (Nat.le_refl _)
              have hbjb := hbja.trans (hbb.mono hbja.size)
              have hnbd : nb = dg (nbG n es) (bset LF) v := by rw [← hrb.len, meet_dg]
              have hnb : nb ≤ 64 := by rw [hnbd]; exact Nat.le_trans (dg_set _ (sorted_nodup (bset_sorted LF)) _) hnb64
              have x0 := Blk.cell hXb 0
              have x1 := Blk.cell hXb 1
              have y0 := Blk.cell hDb 0
              have y1 := Blk.cell hDb 1
              simp at x0 x1 y0 y1
              have hgp : gonP n es LF a d N D v = decide (nb * d * D ≤ 2 * (d + a) * N) := by rw [hnbd]; rfl
              have b1 : nb * d ≤ 64 * 1048576 := Nat.mul_le_mul hnb hd
              have b2 : nb * d * D ≤ 64 * 1048576 * 64 := Nat.mul_le_mul b1 hD64
              have b3 : 2 * (d + a) * N ≤ 4194304 * 4096 := Nat.mul_le_mul (by omega) hNb
              have m1 : IntKind.i64.wrap ((nb : Int) * (d : Int)) = ((nb * d : Nat) : Int) := by rw [← Int.natCast_mul]; exact IntWalk.i64_in _ ⟨by omega, by omega⟩
              have m2 : IntKind.i64.wrap (((nb * d : Nat) : Int) * (D : Int)) = ((nb * d * D : Nat) : Int) := by rw [← Int.natCast_mul]; exact IntWalk.i64_in _ ⟨by omega, by omega⟩
              have m3 : IntKind.i64.wrap ((d : Int) + (a : Int)) = ((d + a : Nat) : Int) := by rw [← Int.natCast_add]; exact IntWalk.i64_in _ ⟨by omega, by omega⟩
              have m4 : IntKind.i64.wrap (2 * ((d + a : Nat) : Int)) = ((2 * (d + a) : Nat) : Int) := by rw [Int.natCast_mul]; exact IntWalk.i64_in _ ⟨by omega, by omega⟩
              have m5 : IntKind.i64.wrap (((2 * (d + a) : Nat) : Int) * (N : Int)) = ((2 * (d + a) * N : Nat) : Int) := by rw [← Int.natCast_mul]; exact IntWalk.i64_in _ ⟨by omega, by omega⟩
              generalize nb * d * D = P at *
              generalize nb * d = P1 at *
              generalize 2 * (d + a) * N = Q at *
              generalize 2 * (d + a) = Q1 at *
              generalize d + a = Q2 at *
              generalize gonP n es LF a d N D v = GP at *
              have hcase : (GP = true ∧ (P : Int) ≤ (Q : Int)) ∨ (GP = false ∧ ¬ (P : Int) ≤ (Q : Int)) := by
                rw [hgp]
                by_cases hpq : P ≤ Q
                · exact .inl ⟨decide_eq_true hpq, by omega⟩
                · exact .inr ⟨decide_eq_false hpq, by omega⟩
              clear hnbd hgp b1 b2 b3 km hra hla hga hbja hbb hXa hDa hrb hXb hDb
              rcases hcase with ⟨rfl, hpq⟩ | ⟨rfl, hpq⟩
              · have hfl3 := Lib.hid (hfl2.out.trans (if_pos rfl))
                clear hfl2
                generalize ((bset LF).take j).filter (gonP n es LF a d N D) = GL at *
                go_wp2_with (at_builtin; refine wpList_push rfl _ _ rfl rfl rfl (by simp) hgb (by omega) (by have := hbjb.size; omega) ?_; intro v7 wd ho7 hb7 hg7)
                have hbz : Below w8.heap.size w8 wd := hbjb.trans hb7
                go_roundw
                case rel => exact ⟨j + 1, v7, rfl, by go_num, by omega, by rw [hfl3.out]; exact ho7, hbz⟩
                case measure => simp [intOf]; omega
              · have hfl3 := Lib.hid (hfl2.out.trans (if_neg (by decide)))
                clear hfl2
                have hpq2 : decide ((P : Int) ≤ (Q : Int)) = false := decide_eq_false hpq
                go_wp2_with fail
                go_roundw
                case rel => exact ⟨j + 1, gg, rfl, by go_num, by omega, by rw [hfl3.out]; exact hgb, hbjb⟩
                case measure => simp [intOf]; omega
            -- E3
            -- B4
            · obtain rfl : j = nl := by omega
              obtain ⟨p1, p2, p3, p4, p5⟩ := hpk.out
              have hall : (bset LF).take j = bset LF := List.take_of_length_le (by rw [p5]; exact Nat.le_refl _)
              rw [hall, ← p3] at hgo
              have hp4 := Lib.hid p4
              have hpq := Lib.hid (And.intro p1 (And.intro p2 hdec))
              clear p1 p2 p3 p4 hpk hdec hall hLr hLlen
              have hl9 := RI.below hl8 hbj (Nat.le_refl _)
              have hs9 := RI.below hs8 hbj (Nat.le_refl _)
              have hL9 := OLL.below hL8 hbj (Nat.le_refl _)
              have hO9 := OI.below hO8 hbj (Nat.le_refl _)
              have hB9 := Blk.below hB8 hbj hB8.lt
              have hX9 := Blk.below hX8 hbj hX8.lt
              have hG9 := Blk.below hG8 hbj hG8.lt
              have hR59 := Blk.below hR58 hbj hR58.lt
              have hb09 := hb08.trans (hbj.mono hb08.size)
              have s9 := hbj.size
              have hgB := hB9.lt
              obtain ⟨Ag, ng, cg, rfl, hng, hcg, -, hrg⟩ := hgo.form
              have hfg := hgo.fresh hng
              have hng64 : ng ≤ 64 := by omega
              have hgl := fun hp => RI.block_lt' hrg hp
              have hfor : ∀ ad, Ag = some ad → 0 < ng → some ad.block ≠ (Value.slice A0 LS.length c0).ownBlock ∧ some ad.block ≠ od.ownBlock ∧ g8 + 1 ≤ ad.block ∧ ad.block < wr.drew.heap.size := fun ad e hp => by
                have h1 := hfg ad e
                refine ⟨fun he => ?_, fun he => ?_, by omega, hgl hp ad e⟩
                · have := hlS.out _ he.symm; omega
                · have := hlO.out _ he.symm; omega
              obtain ⟨Ao, no, co, rfl, hno9, hco, -, -⟩ := hO9.form
              have hno' : (Value.slice Ao no co).ownBlock = none ∨ (Value.slice Ao no co).ownBlock ≠ (Value.slice A0 LS.length c0).ownBlock := by
                rcases hno.out with h | h
                · rw [h]; cases (Value.slice Ao no co).ownBlock <;> simp
                · exact .inr (Ne.symm h)
              replace hno9 := Lib.hid hno9
              replace hng := Lib.hid hng
              have z0 := Blk.cell hB9 0
              have f0 := Blk.frozen hB9 0
              simp at z0
              have z0a : ∀ o, (wr.alloc o).cell? ⟨g8, 0, none⟩ = some (.slice Ao no co) := fun o => (World.cell?_alloc_lt wr o ⟨g8, 0, none⟩ hgB).trans z0
              have hL9d : OLL wr.drew (g8 + 1) (.slice A0 LS.length c0) (Value.slice Ao no co).ownBlock LS := hL9
              have hrgd : RI wr.drew Ag ng (bset M) := hrg
              have hswap : ∀ o, (wr.alloc o).drew = wr.drew.alloc o := fun _ => rfl
              replace hswap := Lib.hid hswap
              have hszd : g8 + 1 ≤ wr.drew.heap.size := by show g8 + 1 ≤ wr.heap.size; omega
              have hrs : Hid ((Value.slice A0 LS.length c0).ownBlock = none ∨ ∃ k, (Value.slice A0 LS.length c0).ownBlock = some k ∧ k < wr.heap.size) := Lib.hid (by
                cases hh : (Value.slice A0 LS.length c0).ownBlock with
                | none => exact .inl rfl
                | some k => exact .inr ⟨k, rfl, by have := (hlS.out k hh).2; omega⟩)
              clear hL9 hgo hfg hgl hl8 hs8 hL8 hO8 hB8 hX8 hG8 hR58 hD8 hb08 hno hbj
              go_upto_region 23 with fail
              go_region_law (first
                | ((first | skip | rw [hswap.out])
                   refine step_pushL (by rfl) (.tmp 103) (.tmp 105) (by rfl) (by first | (simp [go_sem]; done) | rfl) (by first | (simp [go_sem]; done) | rfl) (by first | rfl | simp) hL9d (by omega) hszd hcg hrgd hfor ?_
                   intro v8 wA hLA hbA hgA hvA
                   have zA := (hbA.cell (p := ⟨g8, 0, none⟩) (Nat.lt_succ_self g8)).trans (show wr.drew.cell? ⟨g8, 0, none⟩ = some (.slice Ao no co) from z0)
                   have hOA := OI.kept (w := wr.drew) hO9 hgA hno'
                   have hrA := RI.kept0 (w := wr.drew) hrg hgA (fun ad e hp => (hfor ad e hp).1)
                   have hlA := RI.kept0 (w := wr.drew) hl9 hgA (fun ad e hp => (hlf8.out ad e).2.1)
                   have hsA := RI.kept0 (w := wr.drew) hs9 hgA (fun ad e hp => (hsf9.out ad e hp).2.1)
                   have hzA : wr.heap.size ≤ wA.heap.size := hbA.size)
                | (refine step_catb (by rfl) (.tmp 108) (.tmp 109) (by rfl) (by first | (simp [go_sem]; done) | rfl) (by first | (simp [go_sem]; done) | rfl) hOA hrA (by omega) (by omega) ?_
                   intro v10 wB hOB hbB hgB' hvB
                   have hlB := hlA.kept0 hgB' (fun ad e hp => (hlf8.out ad e).2.2.1)
                   have hsB := hsA.kept0 hgB' (fun ad e hp => (hsf9.out ad e hp).2.2.1)
                   have hrB := hrA.kept0 hgB' (fun ad e hp => (hfor ad e hp).2.1)
                   have zB := (hbB.cell (p := ⟨g8, 0, none⟩) (Nat.lt_succ_self g8)).trans zA
                   have hzB := hbB.size
                   obtain ⟨A10, n10, c10, rfl, hn10, hc10, -, -⟩ := hOB.form
                   replace hn10 := Lib.hid hn10
                   have kmi := Lib.hid (minus_any Al Ag j cl ng cg (bset LF) (bset M) wB hlB (by omega) hrB (by omega)))
                | (go_simp; go_at_call 54; with_reducible refine kmi.out.mono ?_; intro e wC hq; unfold RetI at hq; obtain ⟨AC, nC, cC, rfl, hcC, hrC, hbC, hfC⟩ := hq
                   have zC := (hbC.cell (p := ⟨g8, 0, none⟩) (by simp; omega)).trans zB
                   have fC : wC.frozen? ⟨g8, 0, none⟩ = false := (hbC.frozen (p := ⟨g8, 0, none⟩) (by simp; omega)).trans ((hbB.frozen (p := ⟨g8, 0, none⟩) (Nat.lt_succ_self g8)).trans ((hbA.frozen (p := ⟨g8, 0, none⟩) (Nat.lt_succ_self g8)).trans (show wr.drew.frozen? ⟨g8, 0, none⟩ = false from f0))))
                | fail)
              all_goals
                obtain ⟨p1, p2, p3⟩ := hpq.out
                have hno8 : v8.ownBlock = none ∨ v8.ownBlock ≠ (Value.slice Ao no co).ownBlock := by
                  rcases hvA with h | ⟨i, h, hi⟩
                  · rw [h]
                    rcases hrs.out with h2 | ⟨i, h2, hi⟩
                    · exact .inl h2
                    · rcases hno' with h3 | h3
                      · rw [h3, h2]; exact .inr (by simp)
                      · exact .inr (Ne.symm h3)
                  · refine .inr fun e => ?_
                    rw [h] at e
                    have h5 := (hlO.out i e.symm).2
                    have h6 : wr.heap.size ≤ i := hi
                    omega
                have hLB := OLL.step hLA hgB' hno8 hvB
                have hnoB : v8.ownBlock = none ∨ v8.ownBlock ≠ (Value.slice A10 n10 c10).ownBlock := by
                  rcases hvB with h | ⟨i, h, hi⟩
                  · rw [h]; exact hno8
                  · refine .inr fun e => ?_
                    rw [h] at e
                    have := (hLA.lt i e).2
                    omega
                have hgA8 : g8 < g8 + 1 := Nat.lt_succ_self g8
                have hB10 := Blk.below (Blk.below (Blk.below (w := wr.drew) hB9 hbA hgA8) hbB hgA8) hbC (by omega)
                have hX10 := Blk.below (Blk.below (Blk.below (w := wr.drew) hX9 hbA (by omega)) hbB (by omega)) hbC (by omega)
                have hG10 := Blk.below (Blk.below (Blk.below (w := wr.drew) hG9 hbA (by omega)) hbB (by omega)) hbC (by omega)
                have hR10 := Blk.below (Blk.below (Blk.below (w := wr.drew) hR59 hbA (by omega)) hbB (by omega)) hbC (by omega)
                have hL10 := OLL.below hLB hbC (Nat.le_refl _)
                have hO10 := OI.below hOB hbC (Nat.le_refl _)
                have hs10 := RI.below hsB hbC (Nat.le_refl _)
                have hbz0 : Below w.heap.size w wC := (((hb09.drew).trans (hbA.mono (by omega))).trans (hbB.mono (by omega))).trans (hbC.mono (by omega))
                have hBz := Blk.set hB10 0 (.slice A10 n10 c10)
                simp at hBz
                have hgz := grown_set (World.grownBy.refl wC (some g8)) 0 (.slice A10 n10 c10)
                have hLz := OLL.grown hL10 hgz hgA8
                have hOz := OI.set hO10 0 hgA8 (.slice A10 n10 c10)
                have hsz := RI.kept0 hs10 hgz (fun ad e hp => fun h => by have := (hsf9.out ad e hp).1; injection h with h; omega)
                have hlz := RI.kept0 hrC hgz (fun ad e hp => fun h => by have := hfC ad e; injection h with h; omega)
                have hXz := Blk.grown hX10 hgz (by intro e; injection e with e; omega)
                have hGz := Blk.grown hG10 hgz (by intro e; injection e with e; omega)
                have hRz := Blk.grown hR10 hgz (by intro e; injection e with e; omega)
                have hbz : Below w.heap.size w _ := hbz0.grown hgz hbz0.size (fun k hk => by injection hk with hk; omega)
                have hall8 : ∀ i, v8.ownBlock = some i → i < wC.heap.size := fun i h => by have := (hL10.lt i h).2; omega
                have hRR : RndR w g8 A m c n a d LF2 RC2 (LS ++ [bset M]) v8 (.slice AC nC cC) (wC.setCell ⟨g8, 0, none⟩ (.slice A10 n10 c10)) := by
                  refine ⟨.slice A10 n10 c10, AC, nC, cC, Ax, nx, cx, rfl, hcC, hcx, by rw [hp4.out]; exact hlz, fun ad e hp => ?_, hsz, fun ad e hp => ?_, hLz, ?_, hnoB, hBz, hXz, hGz, hRz, hbz⟩
                  · have h1 := hfC ad e
                    refine ⟨by omega, fun h => ?_, fun h => ?_⟩
                    · have := (hLB.lt _ h.symm).2; omega
                    · have := (hOB.block_lt _ h.symm).2; omega
                  · have h1 := hsf9.out ad e hp
                    have h2 : ad.block < wr.heap.size := RI.block_lt' hs9 hp ad e
                    refine ⟨h1.1, fun h => ?_, fun h => ?_⟩
                    · rcases hvA with h3 | ⟨i, h3, hi⟩
                      · rw [h3] at h; exact h1.2.1 h
                      · rw [h3] at h; injection h with h
                        have h4 : wr.heap.size ≤ i := hi
                        omega
                    · rcases hvB with h3 | ⟨i, h3, hi⟩
                      · rw [h3] at h; exact h1.2.2.1 h
                      · rw [h3] at h; injection h with h; omega
                  · simp only [List.flatten_append, List.flatten_cons, List.flatten_nil, List.append_nil]
                    exact hOz
                have hdc : nC < j := by
                  have h1 := hrC.len
                  have h2 := hlA.len
                  rw [← hp4.out] at h1
                  omega
                rw [p2] at hRR
                have hRR2 : RndR w g8 A m c n a d (rndK n es a d (k + 1)).1 (rndK n es a d (k + 1)).2.1 (rndK n es a d (k + 1)).2.2 v8 (.slice AC nC cC) (wC.setCell ⟨g8, 0, none⟩ (.slice A10 n10 c10)) := by rw [p1]; exact hRR
                replace hRR2 := Lib.hid hRR2
                clear hRR hBz hgz hLz hOz hsz hlz hXz hGz hRz hbz hbz0 hall8 hB10 hX10 hG10 hR10 hL10 hO10 hs10 hLB hnoB hno8 hLA hbA hgA hvA hOA hrA hlA hsA hOB hbB hgB' hvB hlB hsB hrB hrC hbC hfC zA zB zC fC hpq p1 p2 p3 hp4 hB9 hX9 hG9 hR59 hb09 hL9d hrgd hfor hlf8 hsf9 hlS hlO hl9 hs9 hrg z0 f0 z0a hrs hno' hO9 hno9 hng hn10 hswap hszd hNb hlen hfl hMl64 hMl hLl hI hD0 hD64
                simp [go_sem]
                go_wp2_with fail
                go_roundw
                case rel => exact ⟨k + 1, v8, rfl, by omega, hRR2.out⟩
                case measure => simp [lenS]; omega
            -- E4
    -- E1
    -- B2
    · have h0' : (rndK n es a d k).1 = 0 := by omega
      have hend : rndK n es a d k = rndK n es a d n := by
        have := rndK_stop h0' (n - k)
        rw [show k + (n - k) = n by omega] at this
        exact this.symm
      have hnl : nl = 0 := by have := hl.len; rw [h0', bset_zero] at this; exact this.symm
      rw [hend] at hl hs hL hO hB
      generalize rndK n es a d n = S1 at *
      obtain ⟨LF, ⟨rs', rN, rD⟩, LS⟩ := S1
      simp only at *
      obtain ⟨A6, n6, c6, rfl, hn6, hc6, -, hr6⟩ := hO.form
      replace hn6 := Lib.hid hn6
      have z0 := Blk.cell hB 0
      have z1 := Blk.cell hB 1
      have z2 := Blk.cell hB 2
      have z3 := Blk.cell hB 3
      have y0 := Blk.cell hR5 0
      have y1 := Blk.cell hR5 1
      have y2 := Blk.cell hR5 2
      have y3 := Blk.cell hR5 3
      have f0 := Blk.frozen hR5 0
      have f1 := Blk.frozen hR5 1
      have f2 := Blk.frozen hR5 2
      have f3 := Blk.frozen hR5 3
      simp at z0 z1 z2 z3 y0 y1 y2 y3
      have hzz := Blk.set (Blk.set (Blk.set (Blk.set hR5 0 (.slice A6 n6 c6)) 1 (.slice As ns cs)) 2 (.int .i64 rN)) 3 (.int .i64 (fixD rD))
      have e0 := Blk.cell hzz 0
      have e1 := Blk.cell hzz 1
      have e2 := Blk.cell hzz 2
      have e3 := Blk.cell hzz 3
      simp at e0 e1 e2 e3
      have hGz := grown_set (grown_set (grown_set (grown_set (World.grownBy.refl wr (some (w.heap.size + 1 + 1))) 0 (.slice A6 n6 c6)) 1 (.slice As ns cs)) 2 (.int .i64 rN)) 3 (.int .i64 (fixD rD))
      have hfr6 := OI.fresh hO hn6.out
      have hrA := RI.kept hr6 hGz (fun ad e h => by have := hfr6 ad e; injection h with h; omega)
      have hrB : RI ((((wr.setCell ⟨w.heap.size + 1 + 1, 0, none⟩ (.slice A6 n6 c6)).setCell ⟨w.heap.size + 1 + 1, 1, none⟩ (.slice As ns cs)).setCell ⟨w.heap.size + 1 + 1, 2, none⟩ (.int .i64 rN)).setCell ⟨w.heap.size + 1 + 1, 3, none⟩ (.int .i64 (fixD rD))) As ns (bset rs') := by
        by_cases hns : 0 < ns
        · exact RI.kept hs hGz (fun ad e h => by have := (hsf ad e hns).1; injection h with h; omega)
        · obtain rfl : ns = 0 := by omega
          exact ⟨hs.1, fun h => absurd h (Nat.lt_irrefl 0)⟩
      have hLz := OLL.grown hL hGz (by omega)
      have hbz : Below w.heap.size w _ := hb.grown hGz hb.size (fun k hk => by injection hk with hk; omega)
      obtain ⟨A0, c0, rfl, hc0, hR0, -⟩ := hLz.read
      have hne : g8 ≠ w.heap.size + 1 + 1 := by omega
      clear hL hR5 hzz hGz hLz hb hr6 hO hl hlf hs hsf hX hG hB hend hno
      subst hnl
      go_upto_region 24 with fail
      go_region
      go_wp2_with fail
      refine bodyPost_ret (v := .tuple #[.slice A0 LS.length c0, .agg #[.slice A6 n6 c6, .slice As ns cs, .int .i64 rN, .int .i64 (fixD rD)], .int .i64 0]) (by simp [results, Tryd.results21, go_sem, e0, e1, e2, e3]) rfl ?_
      exact ⟨A0, _, c0, A6, n6, c6, As, ns, cs, rfl, hc0, hc6, hcs, hR0, hrA, hrB, hbz.drew⟩
    -- E2
end Go.Proofs.YtdibfecejgjfmaaDoor
