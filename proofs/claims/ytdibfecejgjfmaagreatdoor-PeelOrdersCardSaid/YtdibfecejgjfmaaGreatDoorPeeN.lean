/- Package peel: few, walked. -/
import Derived.Test.YtdibfecejgjfmaaGreatDoorPeeI
import Derived.Test.YtdibfecejgjfmaaGreatDoorRCoB
import Derived.Test.YtdibfecejgjfmaaGreatDoorRatS
set_option linter.unusedVariables false
set_option linter.unusedSimpArgs false
namespace Go.Proofs.YtdibfecejgjfmaaGreatDoor
open Go.RowKit CoBit CoRat Rt

/-- Has a node few neighbours in a set? -/
def fewP (n : Nat) (es : List (Int × Int)) (x a d : Nat) (v : Nat) : Bool := decide (pop ((rowsL n es).getD v 0 &&& x) * pop x * d ≤ 2 * (d + a) * insE es (bset x))
def fewS (p : Nat → Bool) (y v : Nat) : Nat := if p v then y ||| bitN v else y
/-- The set of the nodes with few neighbours. -/
def fewM (n : Nat) (es : List (Int × Int)) (x a d : Nat) : Nat := (bl x).foldl (fewS (fewP n es x a d)) 0
theorem fewS_lt {p : Nat → Bool} {y v : Nat} (hy : y < 18446744073709551616) (hv : v < 64) : fewS p y v < 18446744073709551616 := by
  unfold fewS
  split
  · have h2 := two_pow_lt hv
    have := Nat.or_lt_two_pow (x := y) (y := bitN v) (n := 64) (by rw [show (2 : Nat) ^ 64 = 18446744073709551616 by decide +kernel]; exact hy) (by rw [show (2 : Nat) ^ 64 = 18446744073709551616 by decide +kernel]; exact h2)
    rw [show (2 : Nat) ^ 64 = 18446744073709551616 by decide +kernel] at this
    exact this
  · exact hy
theorem fewF_lt {p : Nat → Bool} : ∀ (l : List Nat) (y : Nat), y < 18446744073709551616 → (∀ v ∈ l, v < 64) → l.foldl (fewS p) y < 18446744073709551616
  | [], y, h, _ => h
  | v :: l, y, h, hl => fewF_lt l _ (fewS_lt h (hl v (by simp))) fun u hu => hl u (by simp [hu])
theorem fewF_bit {p : Nat → Bool} (i : Nat) : ∀ (l : List Nat) (y : Nat), (l.foldl (fewS p) y).testBit i = true ↔ y.testBit i = true ∨ (i ∈ l ∧ p i = true)
  | [], y => by simp
  | v :: l, y => by
    rw [List.foldl_cons, fewF_bit i l, List.mem_cons]
    unfold fewS
    by_cases hp : p v = true
    · rw [if_pos hp, Nat.testBit_or, Bool.or_eq_true]
      have hb : (bitN v).testBit i = true ↔ i = v := by
        unfold bitN
        rw [Nat.testBit_two_pow]
        simp [eq_comm]
      rw [hb]
      constructor
      · rintro ((h | h) | h)
        · exact .inl h
        · subst h; exact .inr ⟨.inl rfl, hp⟩
        · exact .inr ⟨.inr h.1, h.2⟩
      · rintro (h | ⟨h | h, h2⟩)
        · exact .inl (.inl h)
        · exact .inl (.inr h)
        · exact .inr ⟨h, h2⟩
    · rw [if_neg hp]
      constructor
      · rintro (h | h)
        · exact .inl h
        · exact .inr ⟨.inr h.1, h.2⟩
      · rintro (h | ⟨h | h, h2⟩)
        · exact .inl h
        · subst h; exact absurd h2 hp
        · exact .inr ⟨h, h2⟩
theorem fewM_lt (n : Nat) (es : List (Int × Int)) (x a d : Nat) : fewM n es x a d < 18446744073709551616 := fewF_lt _ _ (by omega) fun v hv => (mem_bl.1 hv).1
theorem fewM_bit (n : Nat) (es : List (Int × Int)) (x a d i : Nat) : (fewM n es x a d).testBit i = true ↔ (i < 64 ∧ x.testBit i = true) ∧ fewP n es x a d i = true := by
  unfold fewM
  rw [fewF_bit, mem_bl]; simp
theorem few_take {p : Nat → Bool} {l : List Nat} {k v : Nat} (h : l[k]? = some v) : (l.take (k + 1)).foldl (fewS p) 0 = fewS p ((l.take k).foldl (fewS p) 0) v := by
  obtain ⟨hk, rfl⟩ := List.getElem?_eq_some_iff.1 h
  rw [List.take_succ_eq_append_getElem hk, List.foldl_append]; rfl
theorem nts_get {l : List Nat} {k : Nat} {y : Int} (h : (nts l)[k]? = some y) : ∃ u : Nat, y = (u : Int) ∧ l[k]? = some u := by
  unfold nts at h
  rw [List.getElem?_map] at h
  cases hl : l[k]? with
  | none => rw [hl] at h; cases h
  | some u => rw [hl] at h; injection h with h; exact ⟨u, h.symm, rfl⟩

end Go.Proofs.YtdibfecejgjfmaaGreatDoor

namespace Go.Proofs.YtdibfecejgjfmaaGreatDoor
open Go.RowKit

theorem slice_info' : (Tryz.prog.info? 25).map (fun i => (i.zero, i.size, i.bytes)) = some (some (.slice none 0 0), 1, 24) := by kernel_rfl
theorem RI.kept0 {w w' : World} {n : Nat} {A : Option Addr} {xs : List Int} {row : Option Nat} (h : RI w A n xs) (hg : w.grownBy w' row) (hne : ∀ ad, A = some ad → 0 < n → some ad.block ≠ row) : RI w' A n xs :=
  ⟨h.1, fun hn => by
    obtain ⟨ad, e, hb, hc⟩ := (show Reads w w.heap.size 1 A n (ints xs) from h).2 hn
    exact ⟨ad, e, Nat.lt_of_lt_of_le hb hg.size, fun j u hu => (World.cell?_of_block (hg.block (ad.add j).block (by rw [block_of_add]; exact hb) (by rw [block_of_add]; exact hne ad e hn))).trans (hc j u hu)⟩⟩
/-- A row of a list of lists: a slice that reads as ys, in a block from B on, other than two given ones. -/
def RowV (w : World) (B : Nat) (own q : Option Nat) (u : Value) (ys : List Int) : Prop := ∃ A k c, u = .slice A k c ∧ k ≤ c ∧ RI w A k ys ∧ ∀ ad, A = some ad → 0 < k → some ad.block ≠ own ∧ some ad.block ≠ q ∧ B ≤ ad.block ∧ ad.block < w.heap.size
section
variable {w w' : World} {B b : Nat} {own q q' : Option Nat} {u v : Value} {ys : List Int} {L : List (List Int)}
theorem RowV.below (h : RowV w B own q u ys) (hb : Below b w w') (hB : w.heap.size ≤ b) : RowV w' B own q u ys := by
  obtain ⟨A, k, c, h1, h2, h3, h4⟩ := h
  exact ⟨A, k, c, h1, h2, h3.below hb hB, fun ad e hk => ⟨(h4 ad e hk).1, (h4 ad e hk).2.1, (h4 ad e hk).2.2.1, Nat.lt_of_lt_of_le (h4 ad e hk).2.2.2 hb.size⟩⟩
theorem RowV.grown {row : Option Nat} (h : RowV w B own q u ys) (hg : w.grownBy w' row) (hr : ∀ k, row = some k → k < B ∨ some k = own ∨ some k = q) : RowV w' B own q u ys := by
  obtain ⟨A, k, c, h1, h2, h3, h4⟩ := h
  refine ⟨A, k, c, h1, h2, h3.kept0 hg (fun ad e hk he => ?_), fun ad e hk => ⟨(h4 ad e hk).1, (h4 ad e hk).2.1, (h4 ad e hk).2.2.1, Nat.lt_of_lt_of_le (h4 ad e hk).2.2.2 hg.size⟩⟩
  rcases hr _ he.symm with h | h | h
  · have := (h4 ad e hk).2.2.1; omega
  · exact (h4 ad e hk).1 h
  · exact (h4 ad e hk).2.1 h
theorem RowV.turn {own' : Option Nat} (h : RowV w B own q u ys) (ho : own' = own ∨ ∃ k, own' = some k ∧ w.heap.size ≤ k) (hq : q' = q ∨ ∃ k, q' = some k ∧ w.heap.size ≤ k) : RowV w B own' q' u ys := by
  obtain ⟨A, k, c, h1, h2, h3, h4⟩ := h
  refine ⟨A, k, c, h1, h2, h3, fun ad e hk => ⟨?_, ?_, (h4 ad e hk).2.2⟩⟩
  · rcases ho with ho | ⟨j, ho, hj⟩
    · rw [ho]; exact (h4 ad e hk).1
    · rw [ho]; intro he; injection he with he; have := (h4 ad e hk).2.2.2; omega
  · rcases hq with hq | ⟨j, hq, hj⟩
    · rw [hq]; exact (h4 ad e hk).2.1
    · rw [hq]; intro he; injection he with he; have := (h4 ad e hk).2.2.2; omega
/-- The slice v is the call's own and holds the lists L, none of which lies in block q. -/
def OLL (w : World) (B : Nat) (v : Value) (q : Option Nat) (L : List (List Int)) : Prop := ∃ vs : List Value, w.ownsRow B 25 1 v L.length vs ∧ vs.length = L.length ∧ ∀ (i : Nat) (u : Value) (ys : List Int), vs[i]? = some u → L[i]? = some ys → RowV w B v.ownBlock q u ys
theorem OLL.nil_ : OLL w B (.slice none 0 0) q [] := ⟨[], World.ownsRow_nil _ _ _ _, rfl, fun i u ys h => by simp at h⟩
theorem OLL.lt (h : OLL w B v q L) : ∀ k, v.ownBlock = some k → B ≤ k ∧ k < w.heap.size := by obtain ⟨vs, h1, _⟩ := h; exact h1.lt
theorem OLL.below (h : OLL w B v q L) (hb : Below b w w') (hB : w.heap.size ≤ b) : OLL w' B v q L := by
  obtain ⟨vs, h1, h2, h3⟩ := h
  refine ⟨vs, ?_, h2, fun i u ys hu hy => (h3 i u ys hu hy).below hb hB⟩
  exact World.ownsRow.kept h1 (⟨hb.os, hb.tape, hb.output, hb.size, fun k hk _ => hb.block k (by omega)⟩ : w.grownBy w' none) (by cases v.ownBlock <;> simp)
theorem OLL.grown {g : Nat} (h : OLL w B v q L) (hg : w.grownBy w' (some g)) (hgB : g < B) : OLL w' B v q L := by
  obtain ⟨vs, h1, h2, h3⟩ := h
  refine ⟨vs, ?_, h2, fun i u ys hu hy => (h3 i u ys hu hy).grown hg (fun k hk => .inl (by injection hk with hk; omega))⟩
  refine World.ownsRow.kept h1 hg ?_
  cases hv : v.ownBlock with
  | none => exact .inl rfl
  | some k => exact .inr (fun e => by injection e with e; have := (h1.lt k hv).1; omega)
theorem OLL.step (h : OLL w B v q L) (hg : w.grownBy w' q) (hne : v.ownBlock = none ∨ v.ownBlock ≠ q) (hq : q' = q ∨ ∃ k, q' = some k ∧ w.heap.size ≤ k) : OLL w' B v q' L := by
  obtain ⟨vs, h1, h2, h3⟩ := h
  refine ⟨vs, World.ownsRow.kept h1 hg hne, h2, fun i u ys hu hy => ?_⟩
  have h4 := (h3 i u ys hu hy).turn (.inl rfl) hq
  obtain ⟨A, k, c, e1, e2, e3, e4⟩ := h3 i u ys hu hy
  obtain ⟨A', k', c', f1, f2, f3, f4⟩ := h4
  rw [e1] at f1
  injection f1 with f1 f1' f1''
  subst f1; subst f1'; subst f1''
  exact ⟨A, k, c, e1, e2, e3.kept0 hg (fun ad e hk => (e4 ad e hk).2.1), fun ad e hk => ⟨(f4 ad e hk).1, (f4 ad e hk).2.1, (f4 ad e hk).2.2.1, Nat.lt_of_lt_of_le (f4 ad e hk).2.2.2 hg.size⟩⟩
theorem OLL.drewN (h : OLL w B v q L) (n : Nat) : OLL (w.drewN n) B v q L := h
theorem OLL.alloc (h : OLL w B v q L) (o : Obj) : OLL (w.alloc o) B v q L := h.below ((Below.refl _ _).alloc (Nat.le_refl _) o) (Nat.le_refl _)
end
set_option maxRecDepth 100000 in
/-- append of one list. -/
theorem wpList_pushL {ops : Array Oper} {rest : List Oper} {o : Oper} {a : Act} {Q : Exit → Act → World → Prop} {w : World} {T B H : Nat} {v : Value} {q : Option Nat} {L : List (List Int)} {A : Option Addr} {k c : Nat} {ys : List Int}
    (hgd : o.guard = none) (s x : Operand) (ho : o.op = .call { callee := .builtin .append, args := #[s, x], argTypes := #[41, 41] })
    (hs : a.eval s = v) (hx : a.eval x = .slice (some ⟨H, 0, none⟩) 1 1) (hH : H = w.heap.size) (hown : OLL w B v q L) (hn : L.length ≤ 1099511627776) (hB : B ≤ w.heap.size)
    (hk : k ≤ c) (hr : RI w A k ys) (hA : ∀ ad, A = some ad → 0 < k → some ad.block ≠ v.ownBlock ∧ some ad.block ≠ q ∧ B ≤ ad.block ∧ ad.block < w.heap.size)
    (h : ∀ v' w', OLL w' B v' q (L ++ [ys]) → Below B w w' → w.grownBy w' v.ownBlock → (v'.ownBlock = v.ownBlock ∨ ∃ k, v'.ownBlock = some k ∧ w.heap.size ≤ k) → wpList Tryz.prog ops Q rest (a.put o.dst v') w') :
    wpList Tryz.prog ops Q (o :: rest) a (w.alloc (.cells #[.slice A k c] T)) := by
  obtain ⟨i0, hi0, hz0, hz1, hz2⟩ := info_parts slice_info'
  subst hH
  obtain ⟨vs, h1, h2, h3⟩ := hown
  have hrd : Reads (w.alloc (.cells #[.slice A k c] T)) (w.alloc (.cells #[.slice A k c] T)).heap.size 1 (some ⟨w.heap.size, 0, none⟩) 1 [.slice A k c] := by
    refine ⟨rfl, fun _ => ⟨_, rfl, by simp, fun j u hu => ?_⟩⟩
    cases j with
    | zero => injection hu with hu; subst hu; exact Blk.cell (Blk.new w T #[.slice A k c]) 0
    | succ j => simp at hu
  refine wpList_append_any _ hgd s x _ ho B 25 i0 _ 1 24 Tryz.underlying41 hi0 hz0 hz1 hz2 rfl (by omega) v L.length vs hs (World.ownsRow.alloc h1 _) _ _ 1 1 [.slice A k c] hx hrd (by intro u hu; rw [List.mem_singleton] at hu; subst hu; rfl) (by unfold maxLen; omega) (by omega) (by simp; omega) ?_
  intro v' w' h4 h5 h6
  have hbw : Below B w w' := below_own ((Below.refl _ _).alloc hB _) h5 (by simp; omega) (fun k hk => (h1.lt k hk).1)
  have hgw : w.grownBy w' v.ownBlock := ⟨h5.os, h5.tape, h5.output, Nat.le_trans (by simp) h5.size, fun k hk hne => (h5.block k (by simp; omega) hne).trans (Below.heap_alloc w _ k hk)⟩
  have h7 : v'.ownBlock = v.ownBlock ∨ ∃ k, v'.ownBlock = some k ∧ w.heap.size ≤ k := by
    rcases h6 with h6 | h6
    · exact .inl h6
    · exact .inr ⟨_, h6, by simp⟩
  refine h v' w' ⟨vs ++ [.slice A k c], by rw [List.length_append]; exact h4, by simp [h2], ?_⟩ hbw hgw h7
  intro i u zs hu hz
  have hrow : RowV w B v.ownBlock q u zs := by
    rcases Nat.lt_or_ge i L.length with hi | hi
    · rw [List.getElem?_append_left (by omega)] at hu hz
      exact h3 i u zs hu hz
    · rw [List.getElem?_append_right (by omega)] at hu hz
      rw [h2] at hu
      cases hd : i - L.length with
      | zero =>
        rw [hd] at hu hz
        injection hu with hu; injection hz with hz
        subst hu; subst hz
        exact ⟨A, k, c, rfl, hk, hr, hA⟩
      | succ j => rw [hd] at hu; simp at hu
  have h8 := hrow.turn h7 (.inl rfl)
  obtain ⟨A', k', c', e1, e2, e3, e4⟩ := hrow
  obtain ⟨A2, k2, c2, f1, f2, f3, f4⟩ := h8
  rw [e1] at f1
  injection f1 with f1 f1' f1''
  subst f1; subst f1'; subst f1''
  exact ⟨A', k', c', e1, e2, e3.kept0 hgw (fun ad e hk => (e4 ad e hk).1), fun ad e hk => ⟨(f4 ad e hk).1, (f4 ad e hk).2.1, (f4 ad e hk).2.2.1, Nat.lt_of_lt_of_le (f4 ad e hk).2.2.2 hgw.size⟩⟩
/-- append of a list, with its block. -/
theorem wpList_catb {ops : Array Oper} {rest : List Oper} {o : Oper} {a : Act} {Q : Exit → Act → World → Prop} {w : World} {B : Nat} {v : Value} {ys zs : List Int} {A : Option Addr} {m c : Nat}
    (hgd : o.guard = none) (s x : Operand) (ho : o.op = .call { callee := .builtin .append, args := #[s, x], argTypes := #[25, 25] })
    (hs : a.eval s = v) (hx : a.eval x = .slice A m c) (hown : OI w B v ys) (hr : RI w A m zs) (hn : ys.length + m ≤ 2199023255552) (hB : B ≤ w.heap.size)
    (h : ∀ v' w', OI w' B v' (ys ++ zs) → Below B w w' → w.grownBy w' v.ownBlock → (v'.ownBlock = v.ownBlock ∨ ∃ k, v'.ownBlock = some k ∧ w.heap.size ≤ k) → wpList Tryz.prog ops Q rest (a.put o.dst v') w') :
    wpList Tryz.prog ops Q (o :: rest) a w := by
  obtain ⟨i0, hi0, hz0, hz1, hz2⟩ := info_parts int_info
  refine wpList_append_any _ hgd s x _ ho B 3 i0 _ 1 8 Tryz.underlying25 hi0 hz0 hz1 hz2 rfl (by omega) v ys.length (ints ys) hs hown _ _ m c (ints zs) hx hr (ints_one _) (by unfold maxLen; omega) (by omega) hB ?_
  intro v' w' h1 h2 h3
  refine h v' w' ?_ (below_own (Below.refl _ _) h2 hB (own_block hown)) h2 ?_
  · unfold OI
    rw [List.length_append, ints_append, hr.len]; exact h1
  · rcases h3 with h3 | h3
    · exact .inl h3
    · exact .inr ⟨_, h3, Nat.le_refl _⟩
/-- The slice reads as the lists L. -/
def RLL (w : World) (A : Option Addr) (n : Nat) (L : List (List Int)) : Prop := ∃ vs : List Value, Reads w w.heap.size 1 A n vs ∧ L.length = n ∧ ∀ (i : Nat) (u : Value) (ys : List Int), vs[i]? = some u → L[i]? = some ys → ∃ A k c, u = .slice A k c ∧ k ≤ c ∧ RI w A k ys
theorem RLL.below {w w' : World} {b : Nat} {A : Option Addr} {n : Nat} {L : List (List Int)} (h : RLL w A n L) (hb : Below b w w') (hB : w.heap.size ≤ b) : RLL w' A n L := by
  obtain ⟨vs, h1, h2, h3⟩ := h
  refine ⟨vs, (Reads.below h1 hb hB).more hb.size, h2, fun i u ys hu hy => ?_⟩
  obtain ⟨A, k, c, e1, e2, e3⟩ := h3 i u ys hu hy
  exact ⟨A, k, c, e1, e2, e3.below hb hB⟩
theorem RLL.len {w : World} {A : Option Addr} {n : Nat} {L : List (List Int)} (h : RLL w A n L) : L.length = n := by obtain ⟨vs, h1, h2, _⟩ := h; exact h2
theorem RLL.get {w : World} {A : Option Addr} {n : Nat} {L : List (List Int)} (h : RLL w A n L) {i : Nat} (hi : i < n) : ∃ ad A' k c ys, A = some ad ∧ w.cell? (ad.add i) = some (.slice A' k c) ∧ Hid (L[i]? = some ys) ∧ k ≤ c ∧ RI w A' k ys := by
  obtain ⟨vs, h1, h2, h3⟩ := h
  obtain ⟨ad, u, e, hlt, hu, hc⟩ := Reads.at_ h1 hi
  have hy : L[i]? = some (L[i]'(by omega)) := List.getElem?_eq_getElem (by omega)
  obtain ⟨A', k, c, rfl, e2, e3⟩ := h3 i u _ hu hy
  exact ⟨ad, A', k, c, _, e, hc, Lib.hid hy, e2, e3⟩
theorem OLL.read {w : World} {B : Nat} {v : Value} {q : Option Nat} {L : List (List Int)} (h : OLL w B v q L) : ∃ A c, v = .slice A L.length c ∧ L.length ≤ c ∧ RLL w A L.length L ∧ Fr B A := by
  obtain ⟨vs, h1, h2, h3⟩ := h
  obtain ⟨A, c, rfl, h4, h5⟩ := own_form h1
  refine ⟨A, c, rfl, h4, ⟨vs, Reads.of_own h1, rfl, fun i u ys hu hy => ?_⟩, own_fresh h1⟩
  obtain ⟨A', k, c', e1, e2, e3, _⟩ := h3 i u ys hu hy
  exact ⟨A', k, c', e1, e2, e3⟩
end Go.Proofs.YtdibfecejgjfmaaGreatDoor

namespace Go.Proofs.YtdibfecejgjfmaaGreatDoor
open Go.RowKit CoBit CoRat Rt

/-- A set without another. -/
def mns (x m : Nat) : Nat := x &&& (18446744073709551615 - m)
theorem mns_lt {x m : Nat} (h : x < 18446744073709551616) : mns x m < 18446744073709551616 := and_lt' h
theorem mns_bit {x m : Nat} (hx : x < 18446744073709551616) (hm : m < 18446744073709551616) (i : Nat) : (mns x m).testBit i = (x.testBit i && !m.testBit i) := by
  unfold mns
  rw [Nat.testBit_and]
  by_cases hi : i < 64
  · rw [show (18446744073709551615 - m : Nat) = 2 ^ 64 - (m + 1) by rw [show (2 : Nat) ^ 64 = 18446744073709551616 by decide +kernel]; omega, Nat.testBit_two_pow_sub_succ (by rw [show (2 : Nat) ^ 64 = 18446744073709551616 by decide +kernel]; exact hm)]
    simp [hi]
  · have h1 : x.testBit i = false := by
      refine Nat.testBit_lt_two_pow (Nat.lt_of_lt_of_le hx ?_)
      rw [show (18446744073709551616 : Nat) = 2 ^ 64 by decide +kernel]
      exact Nat.pow_le_pow_right (by omega) (by omega)
    rw [h1]; simp
/-- What is left, the record and the rounds before round k. -/
def rndK (n : Nat) (es : List (Int × Int)) (a d : Nat) : Nat → Nat × (Nat × Int × Int) × List (List Int)
  | 0 => (2 ^ n - 1, (0, 0, 0), [])
  | k + 1 => if (rndK n es a d k).1 = 0 then rndK n es a d k else
      (mns (rndK n es a d k).1 (fewM n es (rndK n es a d k).1 a d), offV es (rndK n es a d k).1 (rndK n es a d k).2.1, (rndK n es a d k).2.2 ++ [bset (fewM n es (rndK n es a d k).1 a d)])
section
variable {n : Nat} {es : List (Int × Int)} {a d : Nat}
theorem rndK_stop {k : Nat} (h : (rndK n es a d k).1 = 0) (j : Nat) : rndK n es a d (k + j) = rndK n es a d k := by
  induction j with
  | zero => rfl
  | succ j ih =>
    show (if (rndK n es a d (k + j)).1 = 0 then rndK n es a d (k + j) else _) = _
    rw [ih, if_pos h]
theorem rndK_next {k : Nat} (h : (rndK n es a d k).1 ≠ 0) : rndK n es a d (k + 1) = (mns (rndK n es a d k).1 (fewM n es (rndK n es a d k).1 a d), offV es (rndK n es a d k).1 (rndK n es a d k).2.1, (rndK n es a d k).2.2 ++ [bset (fewM n es (rndK n es a d k).1 a d)]) := if_neg h
theorem rndK_lt (hn : n ≤ 64) (k : Nat) : (rndK n es a d k).1 < 18446744073709551616 := by
  induction k with
  | zero => exact two_lt hn
  | succ k ih =>
    by_cases h : (rndK n es a d k).1 = 0
    · rw [rndK_stop h 1]; exact ih
    · rw [rndK_next h]; exact mns_lt ih
theorem rndK_in (hn : n ≤ 64) (k i : Nat) (hi : (rndK n es a d k).1.testBit i = true) : i < n := by
  induction k with
  | zero =>
    have := all_bit n i
    rw [show (rndK n es a d 0).1 = 2 ^ n - 1 from rfl, this] at hi
    simpa using hi
  | succ k ih =>
    by_cases h : (rndK n es a d k).1 = 0
    · rw [rndK_stop h 1] at hi; exact ih hi
    · rw [rndK_next h] at hi
      simp only at hi
      rw [mns_bit (rndK_lt hn k) (fewM_lt _ _ _ _ _), Bool.and_eq_true] at hi
      exact ih hi.1
theorem rndK_len (k : Nat) : (rndK n es a d k).2.2.length ≤ k := by
  induction k with
  | zero => exact Nat.le_refl _
  | succ k ih =>
    by_cases h : (rndK n es a d k).1 = 0
    · rw [rndK_stop h 1]; omega
    · rw [rndK_next h]; simp; omega
theorem rndK_flat (k : Nat) : (rndK n es a d k).2.2.flatten.length ≤ 64 * k := by
  induction k with
  | zero => exact Nat.le_refl _
  | succ k ih =>
    by_cases h : (rndK n es a d k).1 = 0
    · rw [rndK_stop h 1]; omega
    · rw [rndK_next h]
      simp only [List.flatten_append, List.length_append, List.flatten_cons, List.flatten_nil, List.append_nil]
      have := bset_length (fewM n es (rndK n es a d k).1 a d)
      omega
theorem rndK_rec (hn : n ≤ 64) (k : Nat) : (rndK n es a d k).2.1.1 < 18446744073709551616 := by
  induction k with
  | zero => show (0 : Nat) < _; omega
  | succ k ih =>
    by_cases h : (rndK n es a d k).1 = 0
    · rw [rndK_stop h 1]; exact ih
    · rw [rndK_next h]
      simp only
      unfold offV
      split
      · exact rndK_lt hn k
      · split
        · exact rndK_lt hn k
        · exact ih
end
end Go.Proofs.YtdibfecejgjfmaaGreatDoor

namespace Go.Proofs.YtdibfecejgjfmaaGreatDoor
open Go.RowKit CoBit CoRat Rt

/-- Rounds, a peeling and an error are returned. -/
def RetRnd (w : World) (Ls : List (List Int)) (o S : List Int) (N D err : Int) (e : Ending) (w' : World) : Prop := ∃ A0 n0 c0 A1 n1 c1 A2 n2 c2, e = .returned (.tuple #[.slice A0 n0 c0, .agg #[.slice A1 n1 c1, .slice A2 n2 c2, .int .i64 N, .int .i64 D], .int .i64 err]) ∧ n0 ≤ c0 ∧ n1 ≤ c1 ∧ n2 ≤ c2 ∧ RLL w' A0 n0 Ls ∧ RI w' A1 n1 o ∧ RI w' A2 n2 S ∧ Below w.heap.size w w'
theorem RLL.kept {w w' : World} {B : Nat} {v : Value} {q : Option Nat} {L : List (List Int)} {g : Nat} {A : Option Addr} {c : Nat} (h : OLL w B v q L) (hg : w.grownBy w' (some g)) (hgB : g < B) (hv : v = .slice A L.length c) : RLL w' A L.length L := by
  obtain ⟨A', c', e, _, h2, _⟩ := (h.grown hg hgB).read
  rw [hv] at e
  injection e with e
  rw [e]; exact h2
theorem bset_nts (x : Nat) : nts (bl x) = bset x := rfl

end Go.Proofs.YtdibfecejgjfmaaGreatDoor
