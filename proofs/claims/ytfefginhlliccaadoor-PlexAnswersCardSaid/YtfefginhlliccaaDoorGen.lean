/- Words for slices of elements of any fixed form: reading, rows of the call's own, appending. -/
import Derived.Test.YtfefginhlliccaaDoorMem
set_option linter.unusedVariables false
namespace Go.Proofs.YtfefginhlliccaaDoor
open Go.RowKit

/-- How an element lies in memory: so many cells. -/
structure El (α : Type) where
  size : Nat
  cells : α → List Value
  len : ∀ x, (cells x).length = size
  one : ∀ x, ∀ u ∈ cells x, u.oneCell' = true
  pos : 0 < size
variable {α : Type}
def El.all (E : El α) (xs : List α) : List Value := xs.flatMap E.cells
theorem El.all_nil (E : El α) : E.all [] = [] := rfl
theorem El.all_cons (E : El α) (x : α) (xs : List α) : E.all (x :: xs) = E.cells x ++ E.all xs := rfl
theorem El.all_append (E : El α) (xs ys : List α) : E.all (xs ++ ys) = E.all xs ++ E.all ys := by simp [El.all]
theorem El.all_length (E : El α) (xs : List α) : (E.all xs).length = xs.length * E.size := by
  induction xs with
  | nil => simp [El.all]
  | cons x xs ih => rw [E.all_cons, List.length_append, ih, E.len, List.length_cons, Nat.add_mul]; omega
theorem El.all_one (E : El α) (xs : List α) : ∀ u ∈ E.all xs, u.oneCell' = true := by
  intro u hu
  simp only [El.all, List.mem_flatMap] at hu
  obtain ⟨x, _, hu⟩ := hu
  exact E.one x u hu
theorem El.all_at (E : El α) {xs : List α} {k i : Nat} {x : α} {u : Value} (h : xs[k]? = some x) (hu : (E.cells x)[i]? = some u) : (E.all xs)[k * E.size + i]? = some u := by
  induction xs generalizing k with
  | nil => simp at h
  | cons y ys ih =>
    have hi : i < E.size := by
      have := (List.getElem?_eq_some_iff.1 hu).1
      rw [E.len] at this; exact this
    rw [E.all_cons]
    cases k with
    | zero =>
      simp at h; subst h
      rw [Nat.zero_mul, Nat.zero_add, List.getElem?_append_left (by rw [E.len]; exact hi)]; exact hu
    | succ k =>
      rw [List.getElem?_append_right (by rw [E.len, Nat.succ_mul]; omega), E.len, show (k + 1) * E.size + i - E.size = k * E.size + i by rw [Nat.succ_mul]; omega]
      exact ih (by simpa using h)
theorem El.all_take (E : El α) (xs : List α) (k : Nat) : (E.all xs).take (k * E.size) = E.all (xs.take k) := by
  induction xs generalizing k with
  | nil => simp [El.all]
  | cons x xs ih =>
    cases k with
    | zero => simp [El.all]
    | succ k => rw [List.take_succ_cons, E.all_cons, E.all_cons, ← ih, List.take_append, E.len, List.take_of_length_le (by rw [E.len, Nat.succ_mul]; omega), show (k + 1) * E.size - E.size = k * E.size by rw [Nat.succ_mul]; omega]
theorem El.all_drop (E : El α) (xs : List α) (k : Nat) : (E.all xs).drop (k * E.size) = E.all (xs.drop k) := by
  induction xs generalizing k with
  | nil => simp [El.all]
  | cons x xs ih =>
    cases k with
    | zero => simp [El.all]
    | succ k => rw [List.drop_succ_cons, E.all_cons, ← ih, List.drop_append, E.len, List.drop_of_length_le (by rw [E.len, Nat.succ_mul]; omega), show (k + 1) * E.size - E.size = k * E.size by rw [Nat.succ_mul]; omega, List.nil_append]

/-- The slice reads as the elements xs. -/
def RS (E : El α) (w : World) (A : Option Addr) (n : Nat) (xs : List α) : Prop := Reads w w.heap.size E.size A n (E.all xs)
section
variable {E : El α} {w w' : World} {n : Nat} {A : Option Addr} {xs : List α}
theorem RS.len (h : RS E w A n xs) : xs.length = n := by
  have := h.1; rw [E.all_length] at this
  exact Nat.eq_of_mul_eq_mul_right E.pos this
theorem RS.get {k : Nat} (h : RS E w A n xs) (hk : k < n) : ∃ ad x, A = some ad ∧ ad.block < w.heap.size ∧ Hid (xs[k]? = some x) ∧ ∀ i u, (E.cells x)[i]? = some u → w.cell? ((ad.add (k * E.size)).add i) = some u := by
  obtain ⟨ad, e, hb, hc⟩ := h.2 (by omega)
  have hl := h.len
  have hx : xs[k]? = some xs[k] := List.getElem?_eq_getElem (by omega)
  exact ⟨ad, _, e, hb, Lib.hid hx, fun i u hu => by rw [add_of_add]; exact hc _ _ (E.all_at hx hu)⟩
theorem RS.below {b : Nat} (h : RS E w A n xs) (hb : Below b w w') (hB : w.heap.size ≤ b) : RS E w' A n xs := (Reads.below h hb hB).more hb.size
theorem RS.drew (h : RS E w A n xs) : RS E w.drew A n xs := h
theorem RS.drewN (h : RS E w A n xs) (k : Nat) : RS E (w.drewN k) A n xs := h
theorem RS.alloc (h : RS E w A n xs) (o : Obj) : RS E (w.alloc o) A n xs := (Reads.alloc h (Nat.le_refl _) o).more (by simp)
theorem RS.none_ : RS E w A 0 [] := Reads.none_
theorem RS.head (h : RS E w A n xs) {k : Nat} (hk : k ≤ n) : RS E w A k (xs.take k) := by
  have := Reads.head h hk
  rwa [E.all_take] at this
theorem RS.cut (h : RS E w A n xs) {k cap : Nat} (hk : k ≤ n) (hc : n ≤ cap) : RS E w (if cap = k then A else A.map (·.add (k * E.size))) (n - k) (xs.drop k) := by
  have := Reads.cut h hk hc
  rwa [E.all_drop] at this
theorem RS.kept {row : Option Nat} (h : RS E w A n xs) (hg : w.grownBy w' row) (hne : ∀ ad, A = some ad → some ad.block ≠ row) : RS E w' A n xs :=
  ⟨h.1, fun hn => by
    obtain ⟨ad, e, hb, hc⟩ := (show Reads w w.heap.size E.size A n (E.all xs) from h).2 hn
    exact ⟨ad, e, Nat.lt_of_lt_of_le hb hg.size, fun j u hu => (World.cell?_of_block (hg.block (ad.add j).block (by rw [block_of_add]; exact hb) (by rw [block_of_add]; exact hne ad e))).trans (hc j u hu)⟩⟩
theorem RS.far (h : RS E w A n xs) {p : Addr} (hne : ∀ ad, A = some ad → ad.block ≠ p.block) (u : Value) : RS E (w.setCell p u) A n xs :=
  ⟨h.1, fun hn => by
    obtain ⟨ad, e, hb, hc⟩ := (show Reads w w.heap.size E.size A n (E.all xs) from h).2 hn
    exact ⟨ad, e, by simpa using hb, fun j v hv => (World.cell?_setCell_other w p _ u (fun e' => by have h1 := hne ad e; have h2 := block_of_add ad j; rw [e'] at h1; exact h1 h2.symm)).trans (hc j v hv)⟩⟩
theorem RS.block_lt (h : RS E w A n xs) (hn : 0 < n) : ∃ ad, A = some ad ∧ ad.block < w.heap.size := by
  obtain ⟨ad, e, hb, _⟩ := h.2 hn
  exact ⟨ad, e, hb⟩
/-- A block that holds just these elements. -/
theorem RS.blk {g : Nat} {t : TypeId} {cs : Array Value} (h : Blk w g t cs) (hcs : cs = (E.all xs).toArray) (hn : n = xs.length) : RS E w (some ⟨g, 0, none⟩) n xs := by
  refine ⟨by rw [E.all_length, hn], fun _ => ⟨_, rfl, h.lt, fun j u hu => ?_⟩⟩
  have hadd : (⟨g, 0, none⟩ : Addr).add j = ⟨g, j, none⟩ := by unfold Addr.add; split <;> simp_all
  rw [hadd, Blk.cell h, hcs]
  simpa using hu
end

/-- The slice v is the call's own (a row among the blocks from B on, of elements of type t), and holds the elements xs. -/
def OS (E : El α) (t : TypeId) (w : World) (B : Nat) (v : Value) (xs : List α) : Prop := w.ownsRow B t E.size v xs.length (E.all xs)
section
variable {E : El α} {t : TypeId} {w w' : World} {B : Nat} {v : Value} {xs : List α}
theorem OS.nil_ : OS E t w B (.slice none 0 0) [] := World.ownsRow_nil _ _ _ _
theorem OS.alloc (h : OS E t w B v xs) (o : Obj) : OS E t (w.alloc o) B v xs := World.ownsRow.alloc h o
theorem OS.drew (h : OS E t w B v xs) : OS E t w.drew B v xs := h
theorem OS.drewN (h : OS E t w B v xs) (n : Nat) : OS E t (w.drewN n) B v xs := h
theorem OS.kept {row : Option Nat} (h : OS E t w B v xs) (hg : w.grownBy w' row) (hne : v.ownBlock = none ∨ v.ownBlock ≠ row) : OS E t w' B v xs := World.ownsRow.kept h hg hne
theorem OS.block_lt (h : OS E t w B v xs) : ∀ k, v.ownBlock = some k → B ≤ k ∧ k < w.heap.size := World.ownsRow.lt h
theorem OS.below {b : Nat} (h : OS E t w B v xs) (hb : Below b w w') (hB : w.heap.size ≤ b) : OS E t w' B v xs := by
  rcases h.2 with ⟨rfl, h0⟩ | ⟨g, cap, cur, rfl, h1, h2, h3⟩
  · exact ⟨h.1, .inl ⟨rfl, h0⟩⟩
  · have hlt : g < w.heap.size := by
      rcases Nat.lt_or_ge g w.heap.size with hlt | hge
      · exact hlt
      · rw [Array.getElem?_eq_none hge] at h2; cases h2
    exact ⟨h.1, .inr ⟨g, cap, cur, rfl, h1, (hb.block g (by omega)).trans h2, h3⟩⟩
theorem OS.mono {B' : Nat} (h : OS E t w B v xs) (hB : B' ≤ B) : OS E t w B' v xs := by
  rcases h.2 with ⟨rfl, h0⟩ | ⟨g, cap, cur, rfl, h1, h2⟩
  · exact ⟨h.1, .inl ⟨rfl, h0⟩⟩
  · exact ⟨h.1, .inr ⟨g, cap, cur, rfl, Nat.le_trans hB h1, h2⟩⟩
theorem OS.set_far (h : OS E t w B v xs) {p : Addr} (hp : p.block < B) (u : Value) : OS E t (w.setCell p u) B v xs := ownsRow_setCell_below h hp u
theorem OS.form (h : OS E t w B v xs) : ∃ A n c, v = .slice A n c ∧ n = xs.length ∧ n ≤ c ∧ c ≤ maxLen ∧ RS E w A n xs ∧ Fr B A := by
  obtain ⟨A, c, rfl, h1, h2⟩ := own_form h
  exact ⟨A, _, c, rfl, rfl, h1, h2, Reads.of_own h, own_fresh h⟩
theorem OS.rs {A : Option Addr} {n c : Nat} (h : OS E t w B (.slice A n c) xs) (hn : n = xs.length) : RS E w A n xs ∧ n ≤ c ∧ Fr B A := by
  subst hn
  obtain ⟨A', c', hv, h1, _⟩ := own_form h
  injection hv with _ _ hc
  exact ⟨Reads.of_own h, by rw [hc]; exact h1, own_fresh h⟩
theorem OS.ne_new (h : OS E t w B v xs) : some w.heap.size ≠ v.ownBlock := fun e => by have := (h.block_lt _ e.symm).2; omega
end

/-- What the walk of an append of elements of one type wants to know of the program. -/
structure Ty (E : El α) (st t : TypeId) (bytes : Nat) : Prop where
  und : Tryd.prog.underlying st = some (.slice t)
  info : ∃ z, (Tryd.prog.info? t).map (fun i => (i.zero, i.size, i.bytes)) = some (some z, E.size, bytes) ∧ z.cells.size = E.size

section
variable {E : El α} {st t : TypeId} {bytes : Nat}
/-- append of a list that reads. -/
theorem wpList_catG (T : Ty E st t bytes) {ops : Array Oper} {rest : List Oper} {o : Oper} {a : Act} {Q : Exit → Act → World → Prop} {w : World} {B : Nat} {v : Value} {xs zs : List α} {A : Option Addr} {m c : Nat}
    (hgd : o.guard = none) (s x : Operand) (ho : o.op = .call { callee := .builtin .append, args := #[s, x], argTypes := #[st, st] })
    (hs : a.eval s = v) (hx : a.eval x = .slice A m c) (hown : OS E t w B v xs) (hr : RS E w A m zs) (hm : xs.length + m ≤ maxLen) (hn : (xs.length + m) * bytes ≤ 140737488355328) (hB : B ≤ w.heap.size)
    (h : ∀ v' w', OS E t w' B v' (xs ++ zs) → Below B w w' → w.grownBy w' v.ownBlock → wpList Tryd.prog ops Q rest (a.put o.dst v') w') :
    wpList Tryd.prog ops Q (o :: rest) a w := by
  obtain ⟨z, hi, hzs⟩ := T.info
  obtain ⟨i0, hi0, hz0, hz1, hz2⟩ := info_parts hi
  refine wpList_append_any _ hgd s x _ ho B t i0 _ E.size bytes T.und hi0 hz0 hz1 hz2 hzs E.pos v xs.length (E.all xs) hs hown _ _ m c (E.all zs) hx hr (E.all_one _) hm hn hB ?_
  intro v' w' h1 h2 _
  refine h v' w' ?_ (below_own (Below.refl _ _) h2 hB (own_block hown)) h2
  unfold OS
  rw [List.length_append, E.all_append, hr.len]; exact h1
/-- append of elements that were laid in a new block. -/
theorem wpList_pushG (T : Ty E st t bytes) {ops : Array Oper} {rest : List Oper} {o : Oper} {a : Act} {Q : Exit → Act → World → Prop} {w : World} {T0 : TypeId} {B H : Nat} {v : Value} {xs zs : List α} {m c : Nat} {cs : Array Value}
    (hcs : cs = (E.all zs).toArray) (hmz : m = zs.length)
    (hgd : o.guard = none) (s x : Operand) (ho : o.op = .call { callee := .builtin .append, args := #[s, x], argTypes := #[st, st] })
    (hs : a.eval s = v) (hx : a.eval x = .slice (some ⟨H, 0, none⟩) m c) (hH : H = w.heap.size) (hown : OS E t w B v xs) (hm : xs.length + m ≤ maxLen) (hn : (xs.length + m) * bytes ≤ 140737488355328) (hB : B ≤ w.heap.size)
    (h : ∀ v' w', OS E t w' B v' (xs ++ zs) → Below B w w' → w.grownBy w' v.ownBlock → wpList Tryd.prog ops Q rest (a.put o.dst v') w') :
    wpList Tryd.prog ops Q (o :: rest) a (w.alloc (.cells cs T0)) := by
  subst hH
  refine wpList_catG T hgd s x ho hs hx (hown.alloc _) (RS.blk (Blk.new w T0 cs) hcs hmz) hm hn (by simp; omega) ?_
  intro v' w' h1 h2 h3
  refine h v' w' h1 (below_own ((Below.refl _ _).alloc hB _) h3 (by simp; omega) (own_block hown)) ?_
  exact ⟨h3.os, h3.tape, h3.output, Nat.le_trans (by simp) h3.size, fun k hk hne => (h3.block k (by simp; omega) hne).trans (Below.heap_alloc w _ k hk)⟩
/-- append of one element. -/
theorem wpList_push1G (T : Ty E st t bytes) {ops : Array Oper} {rest : List Oper} {o : Oper} {a : Act} {Q : Exit → Act → World → Prop} {w : World} {T0 : TypeId} {B H : Nat} {v : Value} {xs : List α} {y : α} {cs : Array Value}
    (hcs : cs = (E.cells y).toArray) (hgd : o.guard = none) (s x : Operand) (ho : o.op = .call { callee := .builtin .append, args := #[s, x], argTypes := #[st, st] })
    (hs : a.eval s = v) (hx : a.eval x = .slice (some ⟨H, 0, none⟩) 1 1) (hH : H = w.heap.size) (hown : OS E t w B v xs) (hm : xs.length ≤ 1099511627776) (hn : (xs.length + 1) * bytes ≤ 140737488355328) (hB : B ≤ w.heap.size)
    (h : ∀ v' w', OS E t w' B v' (xs ++ [y]) → Below B w w' → w.grownBy w' v.ownBlock → wpList Tryd.prog ops Q rest (a.put o.dst v') w') :
    wpList Tryd.prog ops Q (o :: rest) a (w.alloc (.cells cs T0)) :=
  wpList_pushG T (zs := [y]) (by rw [hcs, E.all_cons, E.all_nil, List.append_nil]) rfl hgd s x ho hs hx hH hown (show xs.length + 1 ≤ maxLen by unfold maxLen; omega) hn hB h
/-- append where the operation is guarded, and its guard is met. -/
theorem wpList_catH (T : Ty E st t bytes) {ops : Array Oper} {rest : List Oper} {o : Oper} {a : Act} {Q : Exit → Act → World → Prop} {w : World} {B : Nat} {v : Value} {xs zs : List α} {A : Option Addr} {m c : Nat}
    (hw : Region.wanted o (yielded ops a.tmps) = true) (s x : Operand) (ho : o.op = .call { callee := .builtin .append, args := #[s, x], argTypes := #[st, st] })
    (hs : a.eval s = v) (hx : a.eval x = .slice A m c) (hown : OS E t w B v xs) (hr : RS E w A m zs) (hm : xs.length + m ≤ maxLen) (hn : (xs.length + m) * bytes ≤ 140737488355328) (hB : B ≤ w.heap.size)
    (h : ∀ v' w', OS E t w' B v' (xs ++ zs) → Below B w w' → w.grownBy w' v.ownBlock → wpList Tryd.prog ops Q rest (a.put o.dst v') w') :
    wpList Tryd.prog ops Q (o :: rest) a w := by
  obtain ⟨z, hi, hzs⟩ := T.info
  obtain ⟨i0, hi0, hz0, hz1, hz2⟩ := info_parts hi
  refine wpList_step fun K hK => ?_
  rw [if_pos hw]
  refine wp_append_any w s x st ho B t i0 _ E.size bytes T.und hi0 hz0 hz1 hz2 hzs E.pos v xs.length (E.all xs) hs hown _ _ m c (E.all zs) hx hr (E.all_one _) hm hn hB ?_
  intro v' w' h1 h2 _
  refine hK _ _ (h v' w' ?_ (below_own (Below.refl _ _) h2 hB (own_block hown)) h2)
  unfold OS
  rw [List.length_append, E.all_append, hr.len]; exact h1
theorem wpList_push1H (T : Ty E st t bytes) {ops : Array Oper} {rest : List Oper} {o : Oper} {a : Act} {Q : Exit → Act → World → Prop} {w : World} {T0 : TypeId} {B H : Nat} {v : Value} {xs : List α} {y : α} {cs : Array Value}
    (hcs : cs = (E.cells y).toArray) (hw : Region.wanted o (yielded ops a.tmps) = true) (s x : Operand) (ho : o.op = .call { callee := .builtin .append, args := #[s, x], argTypes := #[st, st] })
    (hs : a.eval s = v) (hx : a.eval x = .slice (some ⟨H, 0, none⟩) 1 1) (hH : H = w.heap.size) (hown : OS E t w B v xs) (hm : xs.length ≤ 1099511627776) (hn : (xs.length + 1) * bytes ≤ 140737488355328) (hB : B ≤ w.heap.size)
    (h : ∀ v' w', OS E t w' B v' (xs ++ [y]) → Below B w w' → w.grownBy w' v.ownBlock → wpList Tryd.prog ops Q rest (a.put o.dst v') w') :
    wpList Tryd.prog ops Q (o :: rest) a (w.alloc (.cells cs T0)) := by
  subst hH
  refine wpList_catH T hw s x ho hs hx (hown.alloc _) (RS.blk (Blk.new w T0 cs) (by rw [hcs, E.all_cons, E.all_nil, List.append_nil]) rfl) (show xs.length + 1 ≤ maxLen by unfold maxLen; omega) hn (by simp; omega) ?_
  intro v' w' h1 h2 h3
  refine h v' w' h1 (below_own ((Below.refl _ _).alloc hB _) h3 (by simp; omega) (own_block hown)) ?_
  exact ⟨h3.os, h3.tape, h3.output, Nat.le_trans (by simp) h3.size, fun k hk hne => (h3.block k (by simp; omega) hne).trans (Below.heap_alloc w _ k hk)⟩
theorem step_catG (T : Ty E st t bytes) {ops : Array Oper} {o : Oper} {a : Act} {K : Act → World → Prop} {Q : Exit → Act → World → Prop} {F : Prop} {w : World} {B : Nat} {v : Value} {xs zs : List α} {A : Option Addr} {m c : Nat}
    (hgd : o.guard = none) (s x : Operand) (ho : o.op = .call { callee := .builtin .append, args := #[s, x], argTypes := #[st, st] })
    (hs : a.eval s = v) (hx : a.eval x = .slice A m c) (hown : OS E t w B v xs) (hr : RS E w A m zs) (hm : xs.length + m ≤ maxLen) (hn : (xs.length + m) * bytes ≤ 140737488355328) (hB : B ≤ w.heap.size)
    (h : ∀ v' w', OS E t w' B v' (xs ++ zs) → Below B w w' → w.grownBy w' v.ownBlock → K (a.put o.dst v') w') :
    if Region.wanted o (yielded ops a.tmps) = true then Oper.wp Tryd.prog o a w K Q else F := by
  obtain ⟨z, hi, hzs⟩ := T.info
  obtain ⟨i0, hi0, hz0, hz1, hz2⟩ := info_parts hi
  refine step_append_any _ hgd s x _ ho B t i0 _ E.size bytes T.und hi0 hz0 hz1 hz2 hzs E.pos v xs.length (E.all xs) hs hown _ _ m c (E.all zs) hx hr (E.all_one _) hm hn hB ?_
  intro v' w' h1 h2 _
  refine h v' w' ?_ (below_own (Below.refl _ _) h2 hB (own_block hown)) h2
  unfold OS
  rw [List.length_append, E.all_append, hr.len]; exact h1
end

/-- The call returns a new slice that reads as the elements ys, and nothing that was there has changed. -/
def RetG (E : El α) (w : World) (ys : List α) (e : Ending) (w' : World) : Prop := ∃ A n c, e = .returned (.slice A n c) ∧ n ≤ c ∧ RS E w' A n ys ∧ Below w.heap.size w w' ∧ Fr w.heap.size A
/-- The same, beside an error. -/
def RetGE (E : El α) (w : World) (ys : List α) (err : Int) (e : Ending) (w' : World) : Prop := ∃ A n c, e = .returned (.tuple #[.slice A n c, .int .i64 err]) ∧ n ≤ c ∧ RS E w' A n ys ∧ Below w.heap.size w w' ∧ Fr w.heap.size A
section
variable {E : El α} {t : TypeId} {w w' : World} {B : Nat} {v : Value} {ys : List α} {err : Int}
theorem RetG.own (h : OS E t w' B v ys) (hb : Below w.heap.size w w') (hB : w.heap.size ≤ B) : RetG E w ys (.returned v) w' := by
  obtain ⟨A, n, c, rfl, _, h1, _, h3, h4⟩ := h.form
  exact ⟨A, n, c, rfl, h1, h3, hb, h4.mono hB⟩
theorem RetGE.own (h : OS E t w' B v ys) (hb : Below w.heap.size w w') (hB : w.heap.size ≤ B) : RetGE E w ys err (.returned (.tuple #[v, .int .i64 err])) w' := by
  obtain ⟨A, n, c, rfl, _, h1, _, h3, h4⟩ := h.form
  exact ⟨A, n, c, rfl, h1, h3, hb, h4.mono hB⟩
theorem RetGE.nil_ (hb : Below w.heap.size w w') : RetGE E w [] err (.returned (.tuple #[.slice none 0 0, .int .i64 err])) w' := ⟨none, 0, 0, rfl, Nat.le_refl _, RS.none_, hb, Fr.none_⟩
end
/-- Bytes. -/
def BE : El Nat := ⟨1, fun x => [.int .u8 x], fun _ => rfl, fun _ u hu => by simp at hu; subst hu; rfl, by omega⟩
/-- Numbers. -/
def IE : El Int := ⟨1, fun x => [.int .i64 x], fun _ => rfl, fun _ u hu => by simp at hu; subst hu; rfl, by omega⟩
abbrev RB (w : World) (A : Option Addr) (n : Nat) (xs : List Nat) : Prop := RS BE w A n xs
theorem RS.byte {w : World} {A : Option Addr} {n : Nat} {xs : List Nat} {k : Nat} (h : RS BE w A n xs) (hk : k < n) : ∃ ad x, A = some ad ∧ ad.block < w.heap.size ∧ Hid (xs[k]? = some x) ∧ w.cell? (ad.add k) = some (.int .u8 (x : Int)) := by
  obtain ⟨ad, x, h1, h2, h3, h4⟩ := h.get hk
  refine ⟨ad, x, h1, h2, h3, ?_⟩
  have := h4 0 (.int .u8 (x : Int)) rfl
  rw [add_of_add] at this
  simpa [BE] using this
end Go.Proofs.YtfefginhlliccaaDoor
