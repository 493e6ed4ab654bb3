/- motifs.each: what its closures hold, and what they leave as it was. -/
import Derived.Test.YtkcmbpokoijglaaMotE
set_option linter.unusedVariables false
set_option linter.unusedSimpArgs false
namespace Go.Proofs.Ytkcmbpokoijglaa
open Go.RowKit CoMot

/-- Steps of small numbers. -/
def Stp (m : List Step) : Prop := ∀ s ∈ m, (0 ≤ s.1 ∧ s.1 < 100) ∧ (0 ≤ s.2 ∧ s.2 < 100)
theorem Stp.nil : Stp [] := by intro s hs; cases hs
theorem Stp.push {m : List Step} (h : Stp m) {ns ns2 : List Int} {u v : Int} {s : Step} (ha : add ns u v = some (ns2, s)) (hn : ns.length ≤ 50) : Stp (m ++ [s]) := by
  intro x hx
  rcases List.mem_append.1 hx with hx | hx
  · exact h x hx
  · rw [List.mem_singleton] at hx
    subst hx
    have h1 := idx_le ns u
    have h2 := idx_le ns v
    unfold add at ha
    split at ha
    · split at ha
      · injection ha with ha; injection ha with _ ha; rw [← ha]; decide
      · cases ha
    · split at ha
      · cases ha
      · injection ha with ha; injection ha with _ ha
        rw [← ha]
        simp only
        omega
/-- What is fixed while each runs: the ticks, the number of steps, the width, the two functions, the eight boxes, and the world in which it began, with the blocks that the second function may write. -/
structure EC where
  l : List Tick
  A : Option Addr
  n : Nat
  c : Nat
  K : Nat
  wd : Int
  F : Nat
  cF : Array Value
  T : Nat
  cT : Array Value
  b : Nat
  W0 : World
  ow0 : Nat → Prop
/-- What changes. -/
structure ES where
  ow : Nat → Prop
  av : Value
  mv : Value
  W : World
/-- Two worlds that are the same but for some blocks. -/
structure Same (ex : Nat → Prop) (W W' : World) : Prop where
  os : W'.os = W.os
  tape : W'.tape = W.tape
  output : W'.output = W.output
  size : W.heap.size ≤ W'.heap.size
  block : ∀ k, k < W.heap.size → ¬ ex k → W'.heap[k]? = W.heap[k]?
theorem Same.refl (ex : Nat → Prop) (W : World) : Same ex W W := ⟨rfl, rfl, rfl, Nat.le_refl _, fun _ _ _ => rfl⟩
theorem Same.trans {ex ex' : Nat → Prop} {A B C : World} (h : Same ex A B) (h' : Same ex' B C) (hx : ∀ k, k < A.heap.size → ex' k → ex k) : Same ex A C :=
  ⟨h'.os.trans h.os, h'.tape.trans h.tape, h'.output.trans h.output, Nat.le_trans h.size h'.size, fun k hk hn => (h'.block k (Nat.lt_of_lt_of_le hk h.size) (fun e => hn (hx k hk e))).trans (h.block k hk hn)⟩
theorem Same.of_below {b : Nat} {W W' : World} (h : Below b W W') (hb : W.heap.size ≤ b) (ex : Nat → Prop) : Same ex W W' := ⟨h.os, h.tape, h.output, h.size, fun k hk _ => h.block k (Nat.lt_of_lt_of_le hk hb)⟩
theorem Same.of_grown {W W' : World} {row : Option Nat} (h : W.grownBy W' row) : Same (fun k => row = some k) W W' := ⟨h.os, h.tape, h.output, h.size, fun k hk hn => h.block k hk (fun e => hn e.symm)⟩
theorem Same.mono {ex ex' : Nat → Prop} {W W' : World} (h : Same ex W W') (hx : ∀ k, k < W.heap.size → ex k → ex' k) : Same ex' W W' := ⟨h.os, h.tape, h.output, h.size, fun k hk hn => h.block k hk (fun e => hn (hx k hk e))⟩
theorem Same.drew {ex : Nat → Prop} {W W' : World} (h : Same ex W W') : Same ex W W'.drew := ⟨h.os, h.tape, h.output, h.size, h.block⟩
theorem Same.drewN {ex : Nat → Prop} {W W' : World} (h : Same ex W W') (n : Nat) : Same ex W (W'.drewN n) := ⟨h.os, h.tape, h.output, h.size, h.block⟩
theorem Same.alloc {ex : Nat → Prop} {W W' : World} (h : Same ex W W') (o : Obj) : Same ex W (W'.alloc o) := h.trans (Same.of_below ((Below.refl W'.heap.size W').alloc (Nat.le_refl _) o) (Nat.le_refl _) (fun _ => False)) (fun _ _ h => h.elim)
theorem Same.cell {ex : Nat → Prop} {W W' : World} (h : Same ex W W') {p : Addr} (hp : p.block < W.heap.size) (hx : ¬ ex p.block) {v : Value} (hv : W.cell? p = some v) : W'.cell? p = some v := (World.cell?_of_block (h.block p.block hp hx)).trans hv
theorem Same.below {ex : Nat → Prop} {b : Nat} {W W' : World} (h : Same ex W W') (hb : b ≤ W.heap.size) (hx : ∀ k, k < b → ¬ ex k) : Below b W W' := ⟨h.os, h.tape, h.output, h.size, fun k hk => h.block k (Nat.lt_of_lt_of_le hk hb) (hx k hk)⟩
theorem Same.blk {ex : Nat → Prop} {W W' : World} {g : Nat} {t : TypeId} {cs : Array Value} (h : Same ex W W') (hB : Blk W g t cs) (hg : ¬ ex g) : Blk W' g t cs := (h.block g hB.lt hg).trans hB
theorem Same.os_ {α : Type} {E : El α} {t : TypeId} {B : Nat} {v : Value} {xs : List α} {ex : Nat → Prop} {W W' : World} (h : Same ex W W') (ho : OS E t W B v xs) (hg : ∀ k, v.ownBlock = some k → ¬ ex k) : OS E t W' B v xs := by
  rcases ho.2 with ⟨rfl, h0⟩ | ⟨g, cap, cur, rfl, h1, h2, h3⟩
  · exact ⟨ho.1, .inl ⟨rfl, h0⟩⟩
  · have hlt : g < W.heap.size := by
      rcases Nat.lt_or_ge g W.heap.size with hlt | hge
      · exact hlt
      · rw [Array.getElem?_eq_none hge] at h2; cases h2
    exact ⟨ho.1, .inr ⟨g, cap, cur, rfl, h1, (h.block g hlt (hg g rfl)).trans h2, h3⟩⟩
/-- What holds between two steps of each: at holds the indices, m the steps. -/
structure Inv (e : EC) (at' : List Nat) (m : List Step) (s : ES) : Prop where
  bl : Blk s.W e.b 27 #[.slice e.A e.n e.c]
  bs : Blk s.W (e.b + 1) 3 #[.int .i64 e.K]
  bw : Blk s.W (e.b + 2) 3 #[.int .i64 e.wd]
  bf : Blk s.W (e.b + 3) 31 #[.func (.func e.F) #[] e.cF]
  bt : Blk s.W (e.b + 4) 75 #[.func (.func e.T) #[] e.cT]
  ba : Blk s.W (e.b + 5) 22 #[s.av]
  bm : Blk s.W (e.b + 6) 29 #[s.mv]
  bi : Blk s.W (e.b + 7) 94 #[.func (.func 64) #[] #[.pointer (some ⟨e.b + 5, 0, none⟩), .pointer (some ⟨e.b + 1, 0, none⟩), .pointer (some ⟨e.b + 4, 0, none⟩), .pointer (some ⟨e.b + 6, 0, none⟩), .pointer (some ⟨e.b, 0, none⟩), .pointer (some ⟨e.b + 2, 0, none⟩), .pointer (some ⟨e.b + 3, 0, none⟩), .pointer (some ⟨e.b + 7, 0, none⟩)]]
  oa : OS NE 3 s.W (e.b + 8) s.av at'
  om : OS SE 34 s.W (e.b + 8) s.mv m
  ne : ∀ k, s.av.ownBlock = some k → s.mv.ownBlock ≠ some k
  na : ∀ k, s.av.ownBlock = some k → ¬ s.ow k
  nm : ∀ k, s.mv.ownBlock = some k → ¬ s.ow k
  lt : ∀ k, s.ow k → k < s.W.heap.size ∧ (k < e.b + 8 → e.ow0 k)
  lt0 : ∀ k, e.ow0 k → k < e.b
  kp : Same e.ow0 e.W0 s.W
  eb : e.W0.heap.size = e.b
/-- From one state to another: what may have changed. -/
structure Tr (e : EC) (s s' : ES) : Prop where
  same : Same (fun k => s.ow k ∨ k = e.b + 5 ∨ k = e.b + 6 ∨ s.av.ownBlock = some k ∨ s.mv.ownBlock = some k) s.W s'.W
  ow : ∀ k, s'.ow k → s.ow k ∨ s.W.heap.size ≤ k
  av : ∀ k, s'.av.ownBlock = some k → s.av.ownBlock = some k ∨ s.W.heap.size ≤ k
  mv : ∀ k, s'.mv.ownBlock = some k → s.mv.ownBlock = some k ∨ s.W.heap.size ≤ k
theorem Tr.refl (e : EC) (s : ES) : Tr e s s := ⟨Same.refl _ _, fun _ h => .inl h, fun _ h => .inl h, fun _ h => .inl h⟩
theorem Tr.trans {e : EC} {a b c : ES} (h : Tr e a b) (h' : Tr e b c) : Tr e a c := by
  refine ⟨h.same.trans h'.same (fun k hk hx => ?_), fun k hk => ?_, fun k hk => ?_, fun k hk => ?_⟩
  · rcases hx with hx | hx | hx | hx | hx
    · rcases h.ow k hx with h1 | h1
      · exact .inl h1
      · omega
    · exact .inr (.inl hx)
    · exact .inr (.inr (.inl hx))
    · rcases h.av k hx with h1 | h1
      · exact .inr (.inr (.inr (.inl h1)))
      · omega
    · rcases h.mv k hx with h1 | h1
      · exact .inr (.inr (.inr (.inr h1)))
      · omega
  · rcases h'.ow k hk with h1 | h1
    · exact h.ow k h1
    · exact .inr (Nat.le_trans h.same.size h1)
  · rcases h'.av k hk with h1 | h1
    · exact h.av k h1
    · exact .inr (Nat.le_trans h.same.size h1)
  · rcases h'.mv k hk with h1 | h1
    · exact h.mv k h1
    · exact .inr (Nat.le_trans h.same.size h1)
section
variable {e : EC} {at' : List Nat} {m : List Step} {s : ES}
theorem Inv.big (h : Inv e at' m s) : e.b + 8 ≤ s.W.heap.size := by have := h.bi.lt; omega
theorem Inv.alt (h : Inv e at' m s) {k : Nat} (hk : s.av.ownBlock = some k) : e.b + 8 ≤ k ∧ k < s.W.heap.size := h.oa.block_lt k hk
theorem Inv.mlt (h : Inv e at' m s) {k : Nat} (hk : s.mv.ownBlock = some k) : e.b + 8 ≤ k ∧ k < s.W.heap.size := h.om.block_lt k hk
/-- A box of each is no block of the second function. -/
theorem Inv.box (h : Inv e at' m s) {k : Nat} (h1 : e.b ≤ k) (h2 : k < e.b + 8) : ¬ s.ow k := fun hk => by
  have := h.lt0 k ((h.lt k hk).2 h2); omega
/-- The world goes on, and nothing of what is held here is touched, but for the row of the steps behind its end. -/
theorem Inv.go (h : Inv e at' m s) {W' : World} (hs : Same (fun k => s.mv.ownBlock = some k) s.W W') (hm : OS SE 34 W' (e.b + 8) s.mv m) : Inv e at' m ⟨s.ow, s.av, s.mv, W'⟩ ∧ Tr e s ⟨s.ow, s.av, s.mv, W'⟩ := by
  have hx : ∀ k, k < e.b + 8 → ¬ s.mv.ownBlock = some k := fun k hk he => by have := h.mlt he; omega
  refine ⟨⟨hs.blk h.bl (hx _ (by omega)), hs.blk h.bs (hx _ (by omega)), hs.blk h.bw (hx _ (by omega)), hs.blk h.bf (hx _ (by omega)), hs.blk h.bt (hx _ (by omega)), hs.blk h.ba (hx _ (by omega)), hs.blk h.bm (hx _ (by omega)), hs.blk h.bi (hx _ (by omega)),
    hs.os_ h.oa (fun k hk => h.ne k hk), hm, h.ne, h.na, h.nm, fun k hk => ⟨Nat.lt_of_lt_of_le (h.lt k hk).1 hs.size, (h.lt k hk).2⟩, h.lt0, h.kp.trans hs (fun k hk he => absurd he (hx k (by have := h.eb; omega))), h.eb⟩,
    ⟨hs.mono (fun k _ he => .inr (.inr (.inr (.inr he)))), fun _ hk => .inl hk, fun _ hk => .inl hk, fun _ hk => .inl hk⟩⟩
theorem Inv.below (h : Inv e at' m s) {W' : World} {b : Nat} (hb : Below b s.W W') (hs : s.W.heap.size ≤ b) : Inv e at' m ⟨s.ow, s.av, s.mv, W'⟩ ∧ Tr e s ⟨s.ow, s.av, s.mv, W'⟩ :=
  h.go (Same.of_below hb hs _) (h.om.below hb hs)
/-- The second function has run. -/
theorem Inv.took (h : Inv e at' m s) {W' : World} {ow' : Nat → Prop} (hs : Same s.ow s.W W') (ho : ∀ k, ow' k → s.ow k ∨ s.W.heap.size ≤ k) (hl : ∀ k, ow' k → k < W'.heap.size) : Inv e at' m ⟨ow', s.av, s.mv, W'⟩ ∧ Tr e s ⟨ow', s.av, s.mv, W'⟩ := by
  have hx : ∀ k, e.b ≤ k → k < e.b + 8 → ¬ s.ow k := fun k h1 h2 => h.box h1 h2
  have hbig := h.big
  refine ⟨⟨hs.blk h.bl (hx _ (by omega) (by omega)), hs.blk h.bs (hx _ (by omega) (by omega)), hs.blk h.bw (hx _ (by omega) (by omega)), hs.blk h.bf (hx _ (by omega) (by omega)), hs.blk h.bt (hx _ (by omega) (by omega)), hs.blk h.ba (hx _ (by omega) (by omega)), hs.blk h.bm (hx _ (by omega) (by omega)), hs.blk h.bi (hx _ (by omega) (by omega)),
    hs.os_ h.oa h.na, hs.os_ h.om h.nm, h.ne, fun k hk he => ?_, fun k hk he => ?_, fun k hk => ⟨hl k hk, fun hk2 => ?_⟩, h.lt0, h.kp.trans hs (fun k hk he => (h.lt k he).2 (by have := h.eb; omega)), h.eb⟩,
    ⟨hs.mono (fun k _ he => .inl he), ho, fun _ hk => .inl hk, fun _ hk => .inl hk⟩⟩
  · rcases ho k he with h1 | h1
    · exact h.na k hk h1
    · have := h.alt hk; omega
  · rcases ho k he with h1 | h1
    · exact h.nm k hk h1
    · have := h.mlt hk; omega
  · rcases ho k hk with h1 | h1
    · exact (h.lt k h1).2 hk2
    · omega
/-- Both slices were written anew. -/
theorem Inv.put (h : Inv e at' m s) {W' : World} {av' mv' : Value} {at2 : List Nat} {m2 : List Step} (hs : Same (fun k => k = e.b + 5 ∨ k = e.b + 6 ∨ s.av.ownBlock = some k ∨ s.mv.ownBlock = some k) s.W W')
    (ba : Blk W' (e.b + 5) 22 #[av']) (bm : Blk W' (e.b + 6) 29 #[mv']) (oa : OS NE 3 W' (e.b + 8) av' at2) (om : OS SE 34 W' (e.b + 8) mv' m2)
    (xa : ∀ k, av'.ownBlock = some k → s.av.ownBlock = some k ∨ s.W.heap.size ≤ k) (xm : ∀ k, mv'.ownBlock = some k → s.mv.ownBlock = some k ∨ s.W.heap.size ≤ k) (ne : ∀ k, av'.ownBlock = some k → mv'.ownBlock ≠ some k) :
    Inv e at2 m2 ⟨s.ow, av', mv', W'⟩ ∧ Tr e s ⟨s.ow, av', mv', W'⟩ := by
  have hbig := h.big
  have hx : ∀ k, k < e.b + 8 → k ≠ e.b + 5 → k ≠ e.b + 6 → ¬ (k = e.b + 5 ∨ k = e.b + 6 ∨ s.av.ownBlock = some k ∨ s.mv.ownBlock = some k) := fun k hk h5 h6 he => by
    rcases he with he | he | he | he
    · exact h5 he
    · exact h6 he
    · have := h.alt he; omega
    · have := h.mlt he; omega
  refine ⟨⟨hs.blk h.bl (hx _ (by omega) (by omega) (by omega)), hs.blk h.bs (hx _ (by omega) (by omega) (by omega)), hs.blk h.bw (hx _ (by omega) (by omega) (by omega)), hs.blk h.bf (hx _ (by omega) (by omega) (by omega)), hs.blk h.bt (hx _ (by omega) (by omega) (by omega)), ba, bm, hs.blk h.bi (hx _ (by omega) (by omega) (by omega)),
    oa, om, ne, fun k hk he => ?_, fun k hk he => ?_, fun k hk => ⟨Nat.lt_of_lt_of_le (h.lt k hk).1 hs.size, (h.lt k hk).2⟩, h.lt0, h.kp.trans hs (fun k hk he => absurd he (hx k (by have := h.eb; omega) (by have := h.eb; omega) (by have := h.eb; omega))), h.eb⟩,
    ⟨hs.mono (fun k _ he => .inr he), fun _ hk => .inl hk, xa, xm⟩⟩
  · rcases xa k hk with h1 | h1
    · exact h.na k h1 he
    · have := (h.lt k he).1; omega
  · rcases xm k hk with h1 | h1
    · exact h.nm k h1 he
    · have := (h.lt k he).1; omega
end
theorem Same.set (W : World) (g i : Nat) (u : Value) : Same (fun k => k = g) W (W.setCell ⟨g, i, none⟩ u) :=
  ⟨rfl, rfl, rfl, by simp, fun k _ hk => by
    simp only [World.setCell, Array.getElem?_modify]
    rw [if_neg (fun e => hk e.symm)]⟩
/-- Rows are turned, and the boxes written. -/
theorem Inv.push {e : EC} {at' at2 : List Nat} {m m2 : List Step} {s : ES} (h : Inv e at' m s) {w7 : World} {va vm : Value} (BX : Same (fun k => s.av.ownBlock = some k ∨ s.mv.ownBlock = some k) s.W w7)
    (hoa : OS NE 3 w7 (e.b + 8) va at2) (hom : OS SE 34 w7 (e.b + 8) vm m2)
    (xa : ∀ k, va.ownBlock = some k → s.av.ownBlock = some k ∨ s.W.heap.size ≤ k) (xm : ∀ k, vm.ownBlock = some k → s.mv.ownBlock = some k ∨ s.W.heap.size ≤ k) (ne : ∀ k, va.ownBlock = some k → vm.ownBlock ≠ some k) :
    Inv e at2 m2 ⟨s.ow, va, vm, (w7.setCell ⟨e.b + 5, 0, none⟩ va).setCell ⟨e.b + 6, 0, none⟩ vm⟩ ∧ Tr e s ⟨s.ow, va, vm, (w7.setCell ⟨e.b + 5, 0, none⟩ va).setCell ⟨e.b + 6, 0, none⟩ vm⟩ ∧
      Same (fun k => k = e.b + 5 ∨ k = e.b + 6 ∨ s.av.ownBlock = some k ∨ s.mv.ownBlock = some k) s.W ((w7.setCell ⟨e.b + 5, 0, none⟩ va).setCell ⟨e.b + 6, 0, none⟩ vm) := by
  have hbox : ∀ k, k < e.b + 8 → ¬ (s.av.ownBlock = some k ∨ s.mv.ownBlock = some k) := fun k hk he => by
    rcases he with he | he
    · have := h.alt he; omega
    · have := h.mlt he; omega
  have s5 := Same.set w7 (e.b + 5) 0 va
  have s6 := Same.set (w7.setCell ⟨e.b + 5, 0, none⟩ va) (e.b + 6) 0 vm
  have hs : Same (fun k => k = e.b + 5 ∨ k = e.b + 6 ∨ s.av.ownBlock = some k ∨ s.mv.ownBlock = some k) s.W ((w7.setCell ⟨e.b + 5, 0, none⟩ va).setCell ⟨e.b + 6, 0, none⟩ vm) :=
    ((BX.mono (fun k _ h => .inr (.inr h))).trans s5 (fun k _ h => .inl h)).trans s6 (fun k _ h => .inr (.inl h))
  have hA : Blk w7 (e.b + 5) 22 #[s.av] := BX.blk h.ba (hbox _ (by omega))
  have hM : Blk w7 (e.b + 6) 29 #[s.mv] := BX.blk h.bm (hbox _ (by omega))
  have hA' : Blk ((w7.setCell ⟨e.b + 5, 0, none⟩ va).setCell ⟨e.b + 6, 0, none⟩ vm) (e.b + 5) 22 #[va] := s6.blk (Blk.set hA 0 va) (by omega)
  have hM' : Blk ((w7.setCell ⟨e.b + 5, 0, none⟩ va).setCell ⟨e.b + 6, 0, none⟩ vm) (e.b + 6) 29 #[vm] := Blk.set (s5.blk hM (by omega)) 0 vm
  have l1 : ∀ k, va.ownBlock = some k → e.b + 8 ≤ k := fun k hk => (hoa.block_lt k hk).1
  have l2 : ∀ k, vm.ownBlock = some k → e.b + 8 ≤ k := fun k hk => (hom.block_lt k hk).1
  have oa' := s6.os_ (s5.os_ hoa (fun k hk => by have := l1 k hk; omega)) (fun k hk => by have := l1 k hk; omega)
  have om' := s6.os_ (s5.os_ hom (fun k hk => by have := l2 k hk; omega)) (fun k hk => by have := l2 k hk; omega)
  obtain ⟨i1, i2⟩ := h.put hs hA' hM' oa' om' xa xm ne
  exact ⟨i1, i2, hs⟩
/-- A row of the call's own, one element shorter. -/
theorem OS.trunc {α : Type} {E : El α} {t : TypeId} {w : World} {B n c : Nat} {A : Option Addr} {xs : List α} {y : α} (h : OS E t w B (.slice A n c) (xs ++ [y])) : OS E t w B (.slice A (n - 1) c) xs := by
  rcases h.2 with ⟨_, h0⟩ | ⟨g, cap, cur, hv, h1, h2, h3, h4, h5, h6⟩
  · simp at h0
  · simp only [Value.slice.injEq] at hv
    obtain ⟨rfl, rfl, rfl⟩ := hv
    have hl : (xs ++ [y]).length = xs.length + 1 := by simp
    refine ⟨El.all_length E xs, .inr ⟨g, c, cur, by rw [hl]; rfl, h1, h2, by omega, h4, h5, ?_⟩⟩
    have h7 := congrArg (List.take (xs.length * E.size)) h6
    rw [List.take_take, Nat.min_eq_left (Nat.mul_le_mul_right _ (by omega)), E.all_append, List.take_left' (El.all_length E xs)] at h7
    exact h7
/-- What the two functions do. -/
structure TK (e : EC) (fit : List Step → Bool) (J Jx : List (List Nat × List Step) → World → (Nat → Prop) → Prop) : Prop where
  keep : ∀ pre W W' ow, J pre W ow → Same (fun k => ¬ ow k) W W' → J pre W' ow
  keepx : ∀ pre W W' ow, Jx pre W ow → Same (fun k => ¬ ow k) W W' → Jx pre W' ow
  call : ∀ at' m s pre, Inv e at' m s → at'.length = e.K → (Stp m ∧ m.length = at'.length) → J pre s.W s.ow → Calls Try.prog e.T (#[s.av, s.mv] ++ e.cT) s.W fun r W' => ∃ ow', Same s.ow s.W W' ∧ (∀ k, ow' k → s.ow k ∨ s.W.heap.size ≤ k) ∧ (∀ k, ow' k → k < W'.heap.size) ∧
    ((r = .returned (.bool true) ∧ J (pre ++ [(at', m)]) W' ow') ∨ (r = .returned (.bool false) ∧ Jx (pre ++ [(at', m)]) W' ow'))
  fits : ∀ at' m s A n c ms, Inv e at' m s → RS SE s.W A n ms → n ≤ c → n ≤ e.K → Calls Try.prog e.F (#[.slice A n c] ++ e.cF) s.W fun r W' => r = .returned (.bool (fit ms)) ∧ Below s.W.heap.size s.W W'
  enterT : ∀ (args : Array Value) (w : World), Sem.run Try.prog (callFunc e.T args) w = .ok (.enter e.T args) w
  enterF : ∀ (args : Array Value) (w : World), Sem.run Try.prog (callFunc e.F args) w = .ok (.enter e.F args) w
  four : e.K ≤ 4
  tick : RS TE e.W0 e.A e.n e.l
  cap : e.n ≤ e.c
  lim : e.n ≤ 4096
  far : ∀ ad, e.A = some ad → 0 < e.n → ¬ e.ow0 ad.block
  time : ∀ x ∈ e.l, 0 ≤ x.t ∧ x.t ≤ 1048576
  asc : ∀ i j, i ≤ j → j < e.n → tim e.l i ≤ tim e.l j
  wide : 0 ≤ e.wd ∧ e.wd ≤ 1048576
def IPost (e : EC) (J Jx : List (List Nat × List Step) → World → (Nat → Prop) → Prop) (at' : List Nat) (m : List Step) (s : ES) (pre L : List (List Nat × List Step)) (r : Ending) (W' : World) : Prop :=
  ∃ ow' av' mv', Inv e at' m ⟨ow', av', mv', W'⟩ ∧ Tr e s ⟨ow', av', mv', W'⟩ ∧ ((r = .returned (.bool true) ∧ J (pre ++ L) W' ow') ∨ (r = .returned (.bool false) ∧ ∃ q t, L = q ++ t ∧ Jx (pre ++ q) W' ow'))
end Go.Proofs.Ytkcmbpokoijglaa
