/- Ranges over a function whose iterator keeps state of its own in cells: the law; what stays but for some blocks. -/
import Derived.RangeFuncNested
import Derived.RangeFuncBound
import Derived.RangeFuncCalls
import Derived.RangeFuncLeaves
import Derived.RangeFuncBox
import Derived.RangeFuncFrom
import Derived.RangeFuncWrites
import Derived.Shelf.Abstract
import Derived.Shelf.RegionOpen
import Derived.WalkKit
import Derived.OwnWalkIn
import Derived.TacticsInMore
import Derived.LoopNIn
import Derived.LoopIn
import Derived.Test.YtknlmgcbdcepnaaDoorMem
set_option linter.unusedVariables false
set_option linter.unusedSimpArgs false
namespace Go.Proofs.YtknlmgcbdcepnaaDoor.Pl
open Go.RowKit Go.Shelf

/-- All blocks but those of ex lie as they lay. -/
structure Same (ex : Nat → Prop) (W W' : World) : Prop where
  os : W'.os = W.os
  tape : W'.tape = W.tape
  output : W'.output = W.output
  size : W.heap.size ≤ W'.heap.size
  block : ∀ k, k < W.heap.size → ¬ ex k → W'.heap[k]? = W.heap[k]?
theorem Same.refl (ex : Nat → Prop) (W : World) : Same ex W W := ⟨rfl, rfl, rfl, Nat.le_refl _, fun _ _ _ => rfl⟩
theorem Same.trans {ex ex' : Nat → Prop} {A B C : World} (h : Same ex A B) (h' : Same ex' B C) (hx : ∀ k, k < A.heap.size → ex' k → ex k) : Same ex A C :=
  ⟨h'.os.trans h.os, h'.tape.trans h.tape, h'.output.trans h.output, Nat.le_trans h.size h'.size, fun k hk hn => (h'.block k (Nat.lt_of_lt_of_le hk h.size) (fun e => hn (hx k hk e))).trans (h.block k hk hn)⟩
theorem Same.of_below {b : Nat} {W W' : World} (h : Below b W W') (hb : W.heap.size ≤ b) (ex : Nat → Prop) : Same ex W W' := ⟨h.os, h.tape, h.output, h.size, fun k hk _ => h.block k (Nat.lt_of_lt_of_le hk hb)⟩
theorem Same.of_grown {W W' : World} {row : Option Nat} (h : W.grownBy W' row) : Same (fun k => row = some k) W W' := ⟨h.os, h.tape, h.output, h.size, fun k hk hn => h.block k hk (fun e => hn e.symm)⟩
theorem Same.mono {ex ex' : Nat → Prop} {W W' : World} (h : Same ex W W') (hx : ∀ k, k < W.heap.size → ex k → ex' k) : Same ex' W W' := ⟨h.os, h.tape, h.output, h.size, fun k hk hn => h.block k hk (fun e => hn (hx k hk e))⟩
theorem Same.drew {ex : Nat → Prop} {W W' : World} (h : Same ex W W') : Same ex W W'.drew := ⟨h.os, h.tape, h.output, h.size, h.block⟩
theorem Same.drewN {ex : Nat → Prop} {W W' : World} (h : Same ex W W') (n : Nat) : Same ex W (W'.drewN n) := ⟨h.os, h.tape, h.output, h.size, h.block⟩
theorem Same.alloc {ex : Nat → Prop} {W W' : World} (h : Same ex W W') (o : Obj) : Same ex W (W'.alloc o) := h.trans (Same.of_below ((Below.refl W'.heap.size W').alloc (Nat.le_refl _) o) (Nat.le_refl _) (fun _ => False)) (fun _ _ h => h.elim)
theorem Same.cell {ex : Nat → Prop} {W W' : World} (h : Same ex W W') {p : Addr} (hp : p.block < W.heap.size) (hx : ¬ ex p.block) {v : Value} (hv : W.cell? p = some v) : W'.cell? p = some v := (World.cell?_of_block (h.block p.block hp hx)).trans hv
theorem Same.below {ex : Nat → Prop} {b : Nat} {W W' : World} (h : Same ex W W') (hb : b ≤ W.heap.size) (hx : ∀ k, k < b → ¬ ex k) : Below b W W' := ⟨h.os, h.tape, h.output, h.size, fun k hk => h.block k (Nat.lt_of_lt_of_le hk hb) (hx k hk)⟩
theorem Same.blk {ex : Nat → Prop} {W W' : World} {g : Nat} {t : TypeId} {cs : Array Value} (h : Same ex W W') (hB : Blk W g t cs) (hg : ¬ ex g) : Blk W' g t cs := (h.block g hB.lt hg).trans hB
theorem Same.boxed {ex : Nat → Prop} {W W' : World} {g : Nat} {t : TypeId} {v : Value} (h : Same ex W W') (hB : Boxed W g t v) (hg : ¬ ex g) : Boxed W' g t v := (h.block g hB.lt hg).trans hB
theorem Same.set (W : World) (g i : Nat) (u : Value) : Same (fun k => k = g) W (W.setCell ⟨g, i, none⟩ u) :=
  ⟨rfl, rfl, rfl, by simp, fun k _ hk => Below.heap_setCell W ⟨g, i, none⟩ u k hk⟩
theorem Same.put (W : World) (l : Nat) (o : Obj) : Same (fun k => k = l) W (W.putObj l o) := (Same.of_grown (grownBy_putObj' W l o)).mono fun k _ h => by injection h with h; exact h.symm
theorem Same.oi {B : Nat} {v : Value} {xs : List Int} {ex : Nat → Prop} {W W' : World} (h : Same ex W W') (ho : OI W B v xs) (hg : ∀ k, v.ownBlock = some k → ¬ ex k) : OI W' B v xs := by
  obtain ⟨h1, h2 | ⟨g, cap, cur, e1, e2, e3, e4⟩⟩ := ho
  · exact ⟨h1, .inl h2⟩
  · have hlt : g < W.heap.size := by
      rcases Nat.lt_or_ge g W.heap.size with hlt | hge
      · exact hlt
      · rw [Array.getElem?_eq_none hge] at e3; cases e3
    subst e1
    exact ⟨h1, .inr ⟨g, cap, cur, rfl, e2, (h.block g hlt (hg g rfl)).trans e3, e4⟩⟩
theorem Same.ri {A : Option Addr} {n : Nat} {xs : List Int} {ex : Nat → Prop} {W W' : World} (h : Same ex W W') (hr : RI W A n xs) (hx : ∀ ad, A = some ad → 0 < n → ¬ ex ad.block) : RI W' A n xs :=
  ⟨hr.1, fun hp => by
    obtain ⟨ad, he, hb, hc⟩ := hr.2 hp
    exact ⟨ad, he, Nat.lt_of_lt_of_le hb h.size, fun j u hu => (World.cell?_of_block (h.block (ad.add j).block (by rw [block_of_add]; exact hb) (by rw [block_of_add]; exact hx ad he hp))).trans (hc j u hu)⟩⟩

/-- A slice of ints that is handed out. -/
structure Lst where
  A : Option Addr
  n : Nat
  c : Nat
  xs : List Int
/-- It reads, and lies in no block of O, nor below B. -/
def RO (B : Nat) (O : Nat → Prop) (x : Lst) (W : World) : Prop := RI W x.A x.n x.xs ∧ x.n ≤ x.c ∧ ∀ ad, x.A = some ad → 0 < x.n → ¬ O ad.block ∧ B ≤ ad.block ∧ ad.block < W.heap.size
/-- J abides what the iterator does in blocks of its own. -/
def AbO {β : Type} (B : Nat) (J : (Nat → Prop) → β → World → Prop) : Prop :=
  ∀ O O' s W W', J O s W → (∀ k, O k → B ≤ k) → Same O W W' → (∀ k, O' k → O k ∨ W.heap.size ≤ k) → J O' s W'
/-- The contract of an iterator's value. -/
def SeqO (m n0 : Nat) (g : Nat) (lb : Array Value) (S Sp : List Lst → Prop) (w : World) : Prop :=
  ∀ (l : Nat) (J Jx : (Nat → Prop) → List Lst → World → Prop) (W : World), Below w.heap.size w W → AbO W.heap.size J → AbO W.heap.size Jx →
    (∀ O pre x W0 W1, J O pre W0 → Same (fun _ => False) W0 W1 → (∀ k, O k → W.heap.size ≤ k ∧ k < W0.heap.size) → W.heap.size ≤ W0.heap.size → RO W.heap.size O x W1 → (∀ ad, x.A = some ad → 0 < x.n → W0.heap.size ≤ ad.block) → YieldAt Fence.wide (m - 1) Tryd.prog l #[.slice x.A x.n x.c] W1 fun e W' =>
      (e = .returned (.bool true) ∧ J O (pre ++ [x]) W' ∧ Same (fun k => ¬ (O k ∨ k < n0)) W1 W') ∨ (e = .returned (.bool false) ∧ Jx O (pre ++ [x]) W' ∧ Same (fun k => ¬ (O k ∨ k < n0)) W1 W')) →
    J (fun _ => False) [] W →
    CallsIn Fence.wide m Tryd.prog g (#[.func (.yield l) #[] #[]] ++ lb) W fun e W' => (∃ v, e = .returned v) ∧ ((∃ O xs, (∀ k, O k → W.heap.size ≤ k) ∧ S xs ∧ J O xs W') ∨ (∃ O pre, (∀ k, O k → W.heap.size ≤ k) ∧ Sp pre ∧ Jx O pre W'))

/-- How the body of a round may be left. -/
def postO (n0 : Nat) (O : Nat → Prop) (I : (Nat → Prop) → List Lst → World → Prop) (Ix : Code → (Nat → Prop) → List Lst → World → Prop) (xs : List Lst) (W : World) : Exit → Act → World → Prop
  | .normal, _, W' => Same (fun k => ¬ (O k ∨ k < n0)) W W' ∧ I O xs W'
  | .ret, _, W' => Same (fun k => ¬ (O k ∨ k < n0)) W W' ∧ Ix .ret O xs W'
  | .exit id, _, W' => Same (fun k => ¬ (O k ∨ k < n0)) W W' ∧ Ix (.exit id) O xs W'
  | .goto t, _, W' => Same (fun k => ¬ (O k ∨ k < n0)) W W' ∧ Ix (.goto t) O xs W'
  | .panic _, _, _ => False
  | .outgrown, _, _ => False

set_option maxHeartbeats 1000000 in
/-- The statement 'for x := range seq { .. }' over such an iterator. -/
theorem wpIn_rangeFunc_O {n : Nat} {g : Operand} {ps : Array Tmp} {assign body : Code} {Q : Exit → Act → World → Prop} {a : Act} {w : World}
    {gf : Nat} {lb : Array Value} (hg : a.eval g = .func (.func gf) #[] lb) (eg : ∀ args w, (callFunc gf args).run Tryd.prog w = .ok (.enter gf args) w)
    {n0 : Nat} {S Sp : List Lst → Prop} {w0 : World} (hseq : SeqO (n - 1) n0 gf lb S Sp w0) (hb0 : Below w0.heap.size w0 w) (hn0 : n0 ≤ w.heap.size) (hps : 1 = ps.size)
    (I : (Nat → Prop) → List Lst → World → Prop) (Ix : Code → (Nat → Prop) → List Lst → World → Prop) (hI : AbO w.heap.size I) (hIx : ∀ c, AbO w.heap.size (Ix c)) (h0 : I (fun _ => False) [] w) (a₁ : Lst → Act)
    (hassign : ∀ (l : Nat) (x : Lst) (W : World) (K : Act → World → Prop), K (a₁ x) W →
      assign.wpIn (Fence.wide.inRound l) (n - 1 - 1) Tryd.prog (Exit.then K (fun _ _ _ => False)) { tmps := (ps.zip #[.slice x.A x.n x.c]).foldl (fun t (p, v) => t.setIfInBounds p v) a.tmps, defers := [] } W)
    (hbody : ∀ (l : Nat) (O : Nat → Prop) (pre : List Lst) (x : Lst) (W0 W : World), I O pre W0 → Same O W0 W → (∀ k, O k → w.heap.size ≤ k ∧ k < W0.heap.size) → w.heap.size ≤ W0.heap.size → RO w.heap.size O x W → (∀ ad, x.A = some ad → 0 < x.n → W0.heap.size ≤ ad.block) → body.wpIn (Fence.wide.inRound l) (n - 1 - 1) Tryd.prog (postO n0 O I Ix (pre ++ [x]) W) (a₁ x) W)
    (hdone : ∀ (D : Nat) (O : Nat → Prop) (xs : List Lst) (W : World), O D → (∀ k, O k → w.heap.size ≤ k) → S xs → I O xs W → W.heap[D]? = some (.deferred (some [])) → Q .normal { a with defers := { target := .collected D, args := #[] } :: a.defers } W)
    (hstop : ∀ (D : Nat) (c : Code) (O : Nat → Prop) (pre : List Lst) (W : World), O D → (∀ k, O k → w.heap.size ≤ k) → Sp pre → Ix c O pre W → W.heap[D]? = some (.deferred (some [])) → c.wpIn Fence.wide n Tryd.prog Q { a with defers := { target := .collected D, args := #[] } :: a.defers } W) :
    (Code.rangeFunc g ps assign body).wpIn Fence.wide n Tryd.prog Q a w := by
  refine wpIn_rangeFunc ?_
  intro fn hfn
  rw [show Fence.wide.round = none from rfl]
  obtain ⟨rec, hrec⟩ : ∃ rec : LoopState → Option Code → Loop, rec = fun st pe => { state := st, pending := pe, fn, tmps := a.tmps, params := ps, assign, body, defers := w.heap.size } := ⟨_, rfl⟩
  obtain ⟨W1, hW1⟩ : ∃ W1, (w.alloc (.deferred (some []))).alloc (.loop (rec .ready none)) = W1 := ⟨_, rfl⟩
  have hL1 : W1.heap[w.heap.size + 1]? = some (.loop (rec .ready none)) := by
    rw [← hW1]; have := World.alloc_heap_new (w.alloc (.deferred (some []))) (.loop (rec .ready none)); rwa [World.size_alloc] at this
  have hK1 : W1.heap[w.heap.size]? = some (.deferred (some [])) := by
    rw [← hW1]; exact (Below.heap_alloc _ _ _ (by simp)).trans (World.alloc_heap_new w _)
  have hS1 : Same (fun _ => False) w W1 := by rw [← hW1]; exact ((Same.refl _ w).alloc _).alloc _
  have hz1 : W1.heap.size = w.heap.size + 1 + 1 := by rw [← hW1]; simp
  have hI1 : I (fun k => False ∨ k = w.heap.size ∨ k = w.heap.size + 1) [] W1 := hI _ _ _ _ _ h0 (fun _ h => h.elim) hS1 (fun k h => .inr (by rcases h with h | h | h <;> first | exact h.elim | omega))
  have hb1 : Below w0.heap.size w0 W1 := hb0.trans (hS1.below hb0.size (fun _ _ h => h))
  refine ⟨w.heap.size + 1, [{ target := .collected w.heap.size, args := #[] }], W1, { target := .fn (.func gf) lb, args := #[.func (.yield (w.heap.size + 1)) #[] #[]] }, W1, gf,
    #[.func (.yield (w.heap.size + 1)) #[] #[]] ++ lb, W1, ?_, ?_, ?_, ?_, fun h => (by cases h), ?_⟩
  · rw [← hW1, hrec]; exact run_enterLoop_outer _ _ _ _ _
  · simp only [resolve, hg]
    simp [go_sem]
  · intro f' hf'; trivial
  · simp [invoke, go_sem, eg]
  · have hput : ∀ (J : (Nat → Prop) → List Lst → World → Prop), AbO w.heap.size J → ∀ (O : Nat → Prop) s W o, (∀ k, O k → w.heap.size ≤ k) → O (w.heap.size + 1) → J O s W → J O s (W.putObj (w.heap.size + 1) o) :=
      fun J hJ O s W o hO h1 h => hJ O O s _ _ h hO ((Same.put W _ o).mono (fun k _ e => by rw [e]; exact h1)) (fun k hk => .inl hk)
    refine (hseq (w.heap.size + 1)
      (fun O pre W => I (fun k => O k ∨ k = w.heap.size ∨ k = w.heap.size + 1) pre W ∧ W.heap[w.heap.size + 1]? = some (.loop (rec .ready none)) ∧ W.heap[w.heap.size]? = some (.deferred (some [])))
      (fun O pre W => ∃ c, Ix c (fun k => O k ∨ k = w.heap.size ∨ k = w.heap.size + 1) pre W ∧ W.heap[w.heap.size + 1]? = some (.loop (rec .done (some c))) ∧ W.heap[w.heap.size]? = some (.deferred (some [])))
      W1 hb1 ?_ ?_ ?_ ⟨hI1, hL1, hK1⟩).mono ?_
    · rintro O O' s A B ⟨hs, hl, hk⟩ hO hsame hO'
      have hlt : w.heap.size + 1 < A.heap.size := (Array.getElem?_eq_some_iff.1 hl).1
      refine ⟨hI _ _ _ _ _ hs (fun k hk => ?_) (hsame.mono (fun _ _ h => .inl h)) (fun k hk => ?_), (hsame.block _ hlt (fun h => ?_)).trans hl, (hsame.block _ (by omega) (fun h => ?_)).trans hk⟩
      · rcases hk with hk | hk | hk
        · have := hO k hk; omega
        · omega
        · omega
      · rcases hk with hk | hk
        · rcases hO' k hk with h | h
          · exact .inl (.inl h)
          · exact .inr h
        · exact .inl (.inr hk)
      · have := hO _ h; omega
      · have := hO _ h; omega
    · rintro O O' s A B ⟨c, hs, hl, hk⟩ hO hsame hO'
      have hlt : w.heap.size + 1 < A.heap.size := (Array.getElem?_eq_some_iff.1 hl).1
      refine ⟨c, hIx c _ _ _ _ _ hs (fun k hk => ?_) (hsame.mono (fun _ _ h => .inl h)) (fun k hk => ?_), (hsame.block _ hlt (fun h => ?_)).trans hl, (hsame.block _ (by omega) (fun h => ?_)).trans hk⟩
      · rcases hk with hk | hk | hk
        · have := hO k hk; omega
        · omega
        · omega
      · rcases hk with hk | hk
        · rcases hO' k hk with h | h
          · exact .inl (.inl h)
          · exact .inr h
        · exact .inl (.inr hk)
      · have := hO _ h; omega
      · have := hO _ h; omega
    · rintro O pre x W0 W ⟨hi, hl0, hk0⟩ hs0 hO0 hsz hx hfr
      have hlt0 : w.heap.size + 1 < W0.heap.size := (Array.getElem?_eq_some_iff.1 hl0).1
      have hl := (hs0.block _ hlt0 (fun h => h)).trans hl0
      have hk := (hs0.block w.heap.size (Nat.lt_of_succ_lt hlt0) (fun h => h)).trans hk0
      have hO : ∀ k, O k → W1.heap.size ≤ k ∧ k < W.heap.size := fun k hk => ⟨(hO0 k hk).1, Nat.lt_of_lt_of_le (hO0 k hk).2 hs0.size⟩
      have hlt : w.heap.size + 1 < W.heap.size := (Array.getElem?_eq_some_iff.1 hl).1
      have hy := run_yield (P := Tryd.prog) (args := #[.slice x.A x.n x.c]) hl (by rw [hrec]; exact hps)
      rw [hrec] at hy
      refine ⟨fn, _, assign, body, hy, roundIn_of_wpIn hfn (hassign _ x W _ ⟨_, run_beginRound hl (by rw [hrec]), ?_⟩)⟩
      have hl2 : (W.putObj (w.heap.size + 1) (.loop { rec .ready none with state := .busy })).heap[w.heap.size + 1]? = some (.loop { rec .ready none with state := .busy }) := World.putObj_heap_same hlt
      have hk2 : (W.putObj (w.heap.size + 1) (.loop { rec .ready none with state := .busy })).heap[w.heap.size]? = some (.deferred (some [])) := (World.putObj_heap_other (by omega)).trans hk
      have hO2 : ∀ k, (O k ∨ k = w.heap.size ∨ k = w.heap.size + 1) → w.heap.size ≤ k ∧ k < W.heap.size := fun k hk => by
        rcases hk with hk | hk | hk
        · have := hO k hk; omega
        · omega
        · omega
      have hsp := Same.put W (w.heap.size + 1) (.loop { rec .ready none with state := .busy })
      have hx2 : RO w.heap.size (fun k => O k ∨ k = w.heap.size ∨ k = w.heap.size + 1) x (W.putObj (w.heap.size + 1) (.loop { rec .ready none with state := .busy })) := by
        refine ⟨hsp.ri hx.1 (fun ad e hp h => ?_), hx.2.1, fun ad e hp => ⟨fun h => ?_, ?_, ?_⟩⟩
        · have := (hx.2.2 ad e hp).2.1; omega
        · have h1 := (hx.2.2 ad e hp).2.1
          rcases h with h | h | h
          · exact (hx.2.2 ad e hp).1 h
          · omega
          · omega
        · have := (hx.2.2 ad e hp).2.1; omega
        · exact Nat.lt_of_lt_of_le (hx.2.2 ad e hp).2.2 hsp.size
      refine wpIn_mono (hbody _ _ pre x W0 _ hi ((hs0.mono (fun _ _ h => h.elim)).trans hsp (fun k _ e => .inr (.inr e))) (fun k hk => ⟨(hO2 k hk).1, by rcases hk with hk | hk | hk; exact (hO0 k hk).2; omega; omega⟩) (by omega) hx2 hfr) ?_
      have fin : ∀ (jump : Option Code) (W3 : World), Same (fun k => ¬ ((O k ∨ k = w.heap.size ∨ k = w.heap.size + 1) ∨ k < n0)) (W.putObj (w.heap.size + 1) (.loop { rec .ready none with state := .busy })) W3 →
          (Instr.endRound (w.heap.size + 1) jump).run Tryd.prog W3 = .ok (.bool jump.isNone) (W3.putObj (w.heap.size + 1) (.loop (rec (if jump.isNone then .ready else .done) jump))) ∧
          W3.heap[w.heap.size + 1]? = some (.loop { rec .ready none with state := .busy }) ∧
          (W3.putObj (w.heap.size + 1) (.loop (rec (if jump.isNone then .ready else .done) jump))).heap[w.heap.size + 1]? = some (.loop (rec (if jump.isNone then .ready else .done) jump)) ∧
          (W3.putObj (w.heap.size + 1) (.loop (rec (if jump.isNone then .ready else .done) jump))).heap[w.heap.size]? = some (.deferred (some [])) := fun jump W3 hk3 => by
        have hl3 := (hk3.block _ (Nat.lt_of_lt_of_le hlt hsp.size) (fun h => h (.inl (.inr (.inr rfl))))).trans hl2
        have hk4 := (hk3.block w.heap.size (Nat.lt_of_lt_of_le (by omega) hsp.size) (fun h => h (.inl (.inr (.inl rfl))))).trans hk2
        have := run_endRound (P := Tryd.prog) jump hl3
        rw [hrec] at this ⊢
        exact ⟨this, by rw [hrec] at hl3; exact hl3, World.putObj_heap_same (Array.getElem?_eq_some_iff.1 hl3).1, (World.putObj_heap_other (by omega)).trans hk4⟩
      have back : ∀ (W3 : World) (o : Obj), Same (fun k => ¬ ((O k ∨ k = w.heap.size ∨ k = w.heap.size + 1) ∨ k < n0)) (W.putObj (w.heap.size + 1) (.loop { rec .ready none with state := .busy })) W3 → Same (fun k => ¬ (O k ∨ k < n0)) W (W3.putObj (w.heap.size + 1) o) := fun W3 o hk3 => by
        have hq : ∀ k, k = w.heap.size + 1 → ¬ (O k ∨ k < n0) := fun k e h => by
          rcases h with h | h
          · have := (hO k h).1; omega
          · omega
        exact ((hsp.mono (fun k _ e => hq k e)).trans hk3 (fun k _ h h' => h (h'.elim (fun h1 => .inl (.inl h1)) .inr))).trans (Same.put W3 _ o) (fun k _ e => hq k e)
      rintro e a3 W3 hp
      cases e with
      | normal =>
        obtain ⟨hk3, hi3⟩ := hp
        obtain ⟨hr, hl3, hl4, hk4⟩ := fin none W3 hk3
        exact ⟨_, _, hr, .inl ⟨rfl, ⟨hput I hI _ _ _ _ (fun k hk => (hO2 k hk).1) (.inr (.inr rfl)) hi3, hl4, hk4⟩, back _ _ hk3⟩⟩
      | ret =>
        obtain ⟨hk3, hi3⟩ := hp
        obtain ⟨hr, hl3, hl4, hk4⟩ := fin (some .ret) W3 hk3
        exact ⟨_, _, hr, .inr ⟨rfl, ⟨.ret, hput (Ix .ret) (hIx _) _ _ _ _ (fun k hk => (hO2 k hk).1) (.inr (.inr rfl)) hi3, hl4, hk4⟩, back _ _ hk3⟩⟩
      | exit id =>
        obtain ⟨hk3, hi3⟩ := hp
        obtain ⟨hr, hl3, hl4, hk4⟩ := fin (some (.exit id)) W3 hk3
        exact ⟨_, _, hr, .inr ⟨rfl, ⟨.exit id, hput (Ix (.exit id)) (hIx _) _ _ _ _ (fun k hk => (hO2 k hk).1) (.inr (.inr rfl)) hi3, hl4, hk4⟩, back _ _ hk3⟩⟩
      | goto t =>
        obtain ⟨hk3, hi3⟩ := hp
        obtain ⟨hr, hl3, hl4, hk4⟩ := fin (some (.goto t)) W3 hk3
        exact ⟨_, _, hr, .inr ⟨rfl, ⟨.goto t, hput (Ix (.goto t)) (hIx _) _ _ _ _ (fun k hk => (hO2 k hk).1) (.inr (.inr rfl)) hi3, hl4, hk4⟩, back _ _ hk3⟩⟩
      | panic ch => exact hp.elim
      | outgrown => exact hp.elim
    · have hOO : ∀ (O : Nat → Prop), (∀ k, O k → W1.heap.size ≤ k) → ∀ k, (O k ∨ k = w.heap.size ∨ k = w.heap.size + 1) → w.heap.size ≤ k := fun O hO k hk => by
        rcases hk with hk | hk | hk
        · have := hO k hk; omega
        · omega
        · omega
      rintro e W2 ⟨⟨v, rfl⟩, (⟨O, xs, hO, hS, hi, hl, hk⟩ | ⟨O, pre, hO, hSp, c, hi, hl, hk⟩)⟩
      · exact ⟨none, _, by have := run_endLoop (P := Tryd.prog) hl (by rw [hrec]; simp); rw [hrec] at this; exact this, hdone _ _ xs _ (.inr (.inl rfl)) (hOO O hO) hS (hput I hI _ _ _ _ (hOO O hO) (.inr (.inr rfl)) hi) ((World.putObj_heap_other (by omega)).trans hk)⟩
      · exact ⟨some c, _, by have := run_endLoop (P := Tryd.prog) hl (by rw [hrec]; simp); rw [hrec] at this; exact this, hstop _ c _ pre _ (.inr (.inl rfl)) (hOO O hO) hSp (hput (Ix c) (hIx c) _ _ _ _ (hOO O hO) (.inr (.inr rfl)) hi) ((World.putObj_heap_other (by omega)).trans hk)⟩
end Go.Proofs.YtknlmgcbdcepnaaDoor.Pl
