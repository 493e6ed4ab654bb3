/- Words for slices of slices, whatever the inner elements are. -/
import Derived.Test.YtfefginhlliccaaDoorGen
set_option linter.unusedVariables false
namespace Go.Proofs.YtfefginhlliccaaDoor
open Go.RowKit
variable {α : Type}

/-- The value u is a slice that reads as ys; it lies among the blocks from B on, and not in block own. -/
def RV (E : El α) (w : World) (B : Nat) (own : Option Nat) (u : Value) (ys : List α) : Prop :=
  ∃ A k c, u = .slice A k c ∧ k ≤ c ∧ RS E w A k ys ∧ ∀ ad, A = some ad → 0 < k → some ad.block ≠ own ∧ B ≤ ad.block ∧ ad.block < w.heap.size
theorem RS.kept0 {E : El α} {w w' : World} {n : Nat} {A : Option Addr} {xs : List α} {row : Option Nat} (h : RS E w A n xs) (hg : w.grownBy w' row) (hne : ∀ ad, A = some ad → 0 < n → some ad.block ≠ row) : RS E w' A n xs :=
  ⟨h.1, fun hn => by
    obtain ⟨ad, e, hb, hc⟩ := (show Reads w w.heap.size E.size A n (E.all xs) from h).2 hn
    exact ⟨ad, e, Nat.lt_of_lt_of_le hb hg.size, fun j u hu => (World.cell?_of_block (hg.block (ad.add j).block (by rw [block_of_add]; exact hb) (by rw [block_of_add]; exact hne ad e hn))).trans (hc j u hu)⟩⟩
section
variable {E : El α} {t : TypeId} {w w' : World} {B b : Nat} {own : Option Nat} {u v : Value} {ys : List α} {L : List (List α)}
theorem RV.below (h : RV E w B own u ys) (hb : Below b w w') (hB : w.heap.size ≤ b) : RV E w' B own u ys := by
  obtain ⟨A, k, c, h1, h2, h3, h4⟩ := h
  exact ⟨A, k, c, h1, h2, h3.below hb hB, fun ad e hk => ⟨(h4 ad e hk).1, (h4 ad e hk).2.1, Nat.lt_of_lt_of_le (h4 ad e hk).2.2 hb.size⟩⟩
theorem RV.grown {row : Option Nat} (h : RV E w B own u ys) (hg : w.grownBy w' row) (hr : ∀ k, row = some k → k < B ∨ some k = own) : RV E w' B own u ys := by
  obtain ⟨A, k, c, h1, h2, h3, h4⟩ := h
  refine ⟨A, k, c, h1, h2, h3.kept0 hg (fun ad e hk he => ?_), fun ad e hk => ⟨(h4 ad e hk).1, (h4 ad e hk).2.1, Nat.lt_of_lt_of_le (h4 ad e hk).2.2 hg.size⟩⟩
  rcases hr _ he.symm with h | h
  · have := (h4 ad e hk).2.1; omega
  · exact (h4 ad e hk).1 h
theorem RV.turn {own' : Option Nat} (h : RV E w B own u ys) (ho : own' = own ∨ ∃ k, own' = some k ∧ w.heap.size ≤ k) : RV E w B own' u ys := by
  obtain ⟨A, k, c, h1, h2, h3, h4⟩ := h
  refine ⟨A, k, c, h1, h2, h3, fun ad e hk => ⟨?_, (h4 ad e hk).2⟩⟩
  rcases ho with ho | ⟨j, ho, hj⟩
  · rw [ho]; exact (h4 ad e hk).1
  · rw [ho]; intro he; injection he with he; have := (h4 ad e hk).2.2; omega
/-- The slice v (of slices; its elements' type is t) is the call's own and holds the lists L. -/
def OL (E : El α) (t : TypeId) (w : World) (B : Nat) (v : Value) (L : List (List α)) : Prop := ∃ vs : List Value, w.ownsRow B t 1 v L.length vs ∧ vs.length = L.length ∧ ∀ (i : Nat) (u : Value) (ys : List α), vs[i]? = some u → L[i]? = some ys → RV E w B v.ownBlock u ys
theorem OL.nil_ : OL E t w B (.slice none 0 0) [] := ⟨[], World.ownsRow_nil _ _ _ _, rfl, fun i u ys h => by simp at h⟩
theorem OL.lt (h : OL E t w B v L) : ∀ k, v.ownBlock = some k → B ≤ k ∧ k < w.heap.size := by obtain ⟨vs, h1, _⟩ := h; exact h1.lt
theorem OL.below (h : OL E t w B v L) (hb : Below b w w') (hB : w.heap.size ≤ b) : OL E t w' B v L := by
  obtain ⟨vs, h1, h2, h3⟩ := h
  refine ⟨vs, ?_, h2, fun i u ys hu hy => (h3 i u ys hu hy).below hb hB⟩
  exact World.ownsRow.kept h1 (⟨hb.os, hb.tape, hb.output, hb.size, fun k hk _ => hb.block k (by omega)⟩ : w.grownBy w' none) (by cases v.ownBlock <;> simp)
theorem OL.grown {g : Nat} (h : OL E t w B v L) (hg : w.grownBy w' (some g)) (hgB : g < B) : OL E t w' B v L := by
  obtain ⟨vs, h1, h2, h3⟩ := h
  refine ⟨vs, ?_, h2, fun i u ys hu hy => (h3 i u ys hu hy).grown hg (fun k hk => .inl (by injection hk with hk; omega))⟩
  refine World.ownsRow.kept h1 hg ?_
  cases hv : v.ownBlock with
  | none => exact .inl rfl
  | some k => exact .inr (fun e => by injection e with e; have := (h1.lt k hv).1; omega)
theorem OL.drew (h : OL E t w B v L) : OL E t w.drew B v L := h
theorem OL.drewN (h : OL E t w B v L) (n : Nat) : OL E t (w.drewN n) B v L := h
theorem OL.alloc (h : OL E t w B v L) (o : Obj) : OL E t (w.alloc o) B v L := h.below ((Below.refl _ _).alloc (Nat.le_refl _) o) (Nat.le_refl _)
end

set_option maxRecDepth 100000 in
/-- append of one list. -/
theorem wpList_pushLG {E : El α} {st t : TypeId} (hst : Tryd.prog.underlying st = some (.slice t)) (hti : (Tryd.prog.info? t).map (fun i => (i.zero, i.size, i.bytes)) = some (some (.slice none 0 0), 1, 24))
    {ops : Array Oper} {rest : List Oper} {o : Oper} {a : Act} {Q : Exit → Act → World → Prop} {w : World} {T B H : Nat} {v : Value} {L : List (List α)} {A : Option Addr} {k c : Nat} {ys : List α}
    (hgd : o.guard = none) (s x : Operand) (ho : o.op = .call { callee := .builtin .append, args := #[s, x], argTypes := #[st, st] })
    (hs : a.eval s = v) (hx : a.eval x = .slice (some ⟨H, 0, none⟩) 1 1) (hH : H = w.heap.size) (hown : OL E t w B v L) (hn : L.length ≤ 1099511627776) (hB : B ≤ w.heap.size)
    (hk : k ≤ c) (hr : RS E w A k ys) (hA : ∀ ad, A = some ad → 0 < k → some ad.block ≠ v.ownBlock ∧ B ≤ ad.block ∧ ad.block < w.heap.size)
    (h : ∀ v' w', OL E t w' B v' (L ++ [ys]) → Below B w w' → w.grownBy w' v.ownBlock → (v'.ownBlock = v.ownBlock ∨ ∃ k, v'.ownBlock = some k ∧ w.heap.size ≤ k) → wpList Tryd.prog ops Q rest (a.put o.dst v') w') :
    wpList Tryd.prog ops Q (o :: rest) a (w.alloc (.cells #[.slice A k c] T)) := by
  obtain ⟨i0, hi0, hz0, hz1, hz2⟩ := info_parts hti
  subst hH
  obtain ⟨vs, h1, h2, h3⟩ := hown
  have hrd : Reads (w.alloc (.cells #[.slice A k c] T)) (w.alloc (.cells #[.slice A k c] T)).heap.size 1 (some ⟨w.heap.size, 0, none⟩) 1 [.slice A k c] := by
    refine ⟨rfl, fun _ => ⟨_, rfl, by simp, fun j u hu => ?_⟩⟩
    cases j with
    | zero => injection hu with hu; subst hu; exact Blk.cell (Blk.new w T #[.slice A k c]) 0
    | succ j => simp at hu
  refine wpList_append_any _ hgd s x _ ho B t i0 _ 1 24 hst hi0 hz0 hz1 hz2 rfl (by omega) v L.length vs hs (World.ownsRow.alloc h1 _) _ _ 1 1 [.slice A k c] hx hrd (by intro u hu; rw [List.mem_singleton] at hu; subst hu; rfl) (by unfold maxLen; omega) (by omega) (by simp; omega) ?_
  intro v' w' h4 h5 h6
  have hbw : Below B w w' := below_own ((Below.refl _ _).alloc hB _) h5 (by simp; omega) (fun k hk => (h1.lt k hk).1)
  have hgw : w.grownBy w' v.ownBlock := ⟨h5.os, h5.tape, h5.output, Nat.le_trans (by simp) h5.size, fun k hk hne => (h5.block k (by simp; omega) hne).trans (Below.heap_alloc w _ k hk)⟩
  have h7 : v'.ownBlock = v.ownBlock ∨ ∃ k, v'.ownBlock = some k ∧ w.heap.size ≤ k := by
    rcases h6 with h6 | h6
    · exact .inl h6
    · exact .inr ⟨_, h6, by simp⟩
  refine h v' w' ⟨vs ++ [.slice A k c], by rw [List.length_append]; exact h4, by simp [h2], ?_⟩ hbw hgw h7
  intro i u zs hu hz
  have hrow : RV E w B v.ownBlock u zs := by
    rcases Nat.lt_or_ge i L.length with hi | hi
    · rw [List.getElem?_append_left (by omega)] at hu hz
      exact h3 i u zs hu hz
    · rw [List.getElem?_append_right (by omega)] at hu hz
      rw [h2] at hu
      cases hd : i - L.length with
      | zero =>
        rw [hd] at hu hz
        injection hu with hu; injection hz with hz
        subst hu; subst hz
        exact ⟨A, k, c, rfl, hk, hr, hA⟩
      | succ j => rw [hd] at hu; simp at hu
  have h8 := hrow.turn h7
  obtain ⟨A', k', c', e1, e2, e3, e4⟩ := hrow
  obtain ⟨A2, k2, c2, f1, f2, f3, f4⟩ := h8
  rw [e1] at f1
  injection f1 with f1 f1' f1''
  subst f1; subst f1'; subst f1''
  exact ⟨A', k', c', e1, e2, e3.kept0 hgw (fun ad e hk => (e4 ad e hk).1), fun ad e hk => ⟨(f4 ad e hk).1, (f4 ad e hk).2.1, Nat.lt_of_lt_of_le (f4 ad e hk).2.2 hgw.size⟩⟩

/-- The slice reads as the lists L. -/
def RL (E : El α) (w : World) (A : Option Addr) (n : Nat) (L : List (List α)) : Prop := ∃ vs : List Value, Reads w w.heap.size 1 A n vs ∧ L.length = n ∧ ∀ (i : Nat) (u : Value) (ys : List α), vs[i]? = some u → L[i]? = some ys → ∃ A k c, u = .slice A k c ∧ k ≤ c ∧ RS E w A k ys
section
variable {E : El α} {t : TypeId} {w w' : World} {B b n : Nat} {A : Option Addr} {v : Value} {L : List (List α)}
theorem RL.below (h : RL E w A n L) (hb : Below b w w') (hB : w.heap.size ≤ b) : RL E w' A n L := by
  obtain ⟨vs, h1, h2, h3⟩ := h
  refine ⟨vs, (Reads.below h1 hb hB).more hb.size, h2, fun i u ys hu hy => ?_⟩
  obtain ⟨A, k, c, e1, e2, e3⟩ := h3 i u ys hu hy
  exact ⟨A, k, c, e1, e2, e3.below hb hB⟩
theorem RL.drewN (h : RL E w A n L) (k : Nat) : RL E (w.drewN k) A n L := h
theorem RL.none_ : RL E w A 0 [] := ⟨[], Reads.none_, rfl, fun i u ys h => by simp at h⟩
theorem RL.len (h : RL E w A n L) : L.length = n := by obtain ⟨vs, h1, h2, _⟩ := h; exact h2
theorem RL.get (h : RL E w A n L) {i : Nat} (hi : i < n) : ∃ ad A' k c ys, A = some ad ∧ w.cell? (ad.add i) = some (.slice A' k c) ∧ Hid (L[i]? = some ys) ∧ k ≤ c ∧ RS E w A' k ys ∧ ad.block < w.heap.size := by
  obtain ⟨vs, h1, h2, h3⟩ := h
  obtain ⟨ad, u, e, hlt, hu, hc⟩ := Reads.at_ h1 hi
  have hy : L[i]? = some (L[i]'(by omega)) := List.getElem?_eq_getElem (by omega)
  obtain ⟨A', k, c, rfl, e2, e3⟩ := h3 i u _ hu hy
  exact ⟨ad, A', k, c, _, e, hc, Lib.hid hy, e2, e3, hlt⟩
theorem RL.head (h : RL E w A n L) {k : Nat} (hk : k ≤ n) : RL E w A k (L.take k) := by
  obtain ⟨vs, h1, h2, h3⟩ := h
  have := Reads.head h1 hk
  rw [Nat.mul_one] at this
  refine ⟨vs.take k, this, by rw [List.length_take]; omega, fun i u ys hu hy => ?_⟩
  rw [List.getElem?_take] at hu hy
  split at hu
  · rename_i hi
    rw [if_pos hi] at hy
    exact h3 i u ys hu hy
  · cases hu
theorem OL.read (h : OL E t w B v L) : ∃ A c, v = .slice A L.length c ∧ L.length ≤ c ∧ RL E w A L.length L ∧ Fr B A := by
  obtain ⟨vs, h1, h2, h3⟩ := h
  obtain ⟨A, c, rfl, h4, h5⟩ := own_form h1
  refine ⟨A, c, rfl, h4, ⟨vs, Reads.of_own h1, rfl, fun i u ys hu hy => ?_⟩, own_fresh h1⟩
  obtain ⟨A', k, c', e1, e2, e3, _⟩ := h3 i u ys hu hy
  exact ⟨A', k, c', e1, e2, e3⟩
end
end Go.Proofs.YtfefginhlliccaaDoor
