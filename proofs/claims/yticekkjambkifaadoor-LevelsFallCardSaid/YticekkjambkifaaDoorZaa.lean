/- Printed by merge.py from Aux, Mem, BitA, MskM, MemE, RatM. -/
import Derived.Test.YticekkjambkifaaDoorRows
import Derived.WalkKit
import Derived.WalkSpells
import Derived.WalkLawsBesides
import Derived.Handy
import Derived.PlainAid
import Derived.Lib.Hide
import Derived.Deep.QuietTactic
import Derived.BigQuiet
import Derived.Deep.RegionHeld3
import Derived.Deep.DrawnRows
import Derived.Laws.OwnMore
import Derived.Deep.Draws
import Derived.Deep.AppendLies
import Derived.Deep.DeepCutAuto
import Derived.Deep.LoopGhost
import Derived.Deep.CutBlock
import Derived.Maps.AppendAt
import Derived.RegionTactic
import Derived.OwnWalk
import Derived.Lib.TrailingZeros
import Derived.Laws.Bits64b
import Derived.Laws.BitsAllLaws
import Derived.Shelf.Spec.TrailingZeros
/- Small lemmas on worlds: a block that is known whole, cells behind a call that only makes new blocks, and equal endings. -/
set_option linter.unusedVariables false
namespace Go.Proofs.YticekkjambkifaaDoor
open Go.RowKit

theorem retInt {k : IntKind} {a b : Int} (h : a = b) : Ending.returned (.int k a) = .returned (.int k b) := by rw [h]
theorem retBool {a b : Bool} (h : a = b) : Ending.returned (.bool a) = .returned (.bool b) := by rw [h]
theorem retVal {a b : Value} (h : a = b) : Ending.returned a = .returned b := by rw [h]

theorem bcell {W w1 : World} (hb : Below W.heap.size W w1) : (∀ b o, b < W.heap.size → w1.cell? ⟨b, o, none⟩ = W.cell? ⟨b, o, none⟩) ∧ (∀ b o, b < W.heap.size → w1.frozen? ⟨b, o, none⟩ = W.frozen? ⟨b, o, none⟩) :=
  ⟨fun b o h => hb.cell (p := ⟨b, o, none⟩) h, fun b o h => hb.frozen (p := ⟨b, o, none⟩) h⟩

theorem bat {W w1 : World} {n : Nat} (hb : Below n W w1) (k : Nat) (hk : k ≤ n) : (∀ b o, b < k → w1.cell? ⟨b, o, none⟩ = W.cell? ⟨b, o, none⟩) ∧ (∀ b o, b < k → w1.frozen? ⟨b, o, none⟩ = W.frozen? ⟨b, o, none⟩) :=
  ⟨fun b o h => hb.cell (p := ⟨b, o, none⟩) (by simp; omega), fun b o h => hb.frozen (p := ⟨b, o, none⟩) (by simp; omega)⟩

theorem below_drewN {b : Nat} {a w : World} (h : Below b a w) (n : Nat) : Below b a (w.drewN n) := ⟨h.os, h.tape, h.output, h.size, h.block⟩

theorem heapA (w : World) (o : Obj) (i : Nat) : (w.alloc o).heap[i]? = if i = w.heap.size then some o else w.heap[i]? := by
  split
  · rename_i h; subst h; exact heap_alloc_new w o
  · rename_i h
    rcases Nat.lt_or_ge i w.heap.size with hlt | hge
    · exact Below.heap_alloc w o i hlt
    · rw [Array.getElem?_eq_none (by simp; omega), Array.getElem?_eq_none hge]
theorem heapS (w : World) (b off : Nat) (v : Value) (i : Nat) : (w.setCell ⟨b, off, none⟩ v).heap[i]? = if b = i then (w.heap[i]?).map (fun o => match o with | .cells cs t f => .cells (cs.setIfInBounds off v) t f | o => o) else w.heap[i]? := by
  simp only [World.setCell, Array.getElem?_modify]
  split <;> rfl

/-- Block g is just the cells cs. -/
def Blk (w : World) (g : Nat) (t : TypeId) (cs : Array Value) : Prop := w.heap[g]? = some (.cells cs t (0, 0))
section
variable {w w' : World} {g : Nat} {t : TypeId} {cs : Array Value}
theorem Blk.lt (h : Blk w g t cs) : g < w.heap.size := by
  rcases Nat.lt_or_ge g w.heap.size with hlt | hge
  · exact hlt
  · unfold Blk at h; rw [Array.getElem?_eq_none hge] at h; cases h
theorem Blk.cell (h : Blk w g t cs) (i : Nat) : w.cell? ⟨g, i, none⟩ = cs[i]? := cell_of_row w g i cs t (0, 0) h
theorem Blk.frozen (h : Blk w g t cs) (i : Nat) : w.frozen? ⟨g, i, none⟩ = false := by
  unfold Blk at h
  simp [World.frozen?, h]
theorem Blk.new (w : World) (t : TypeId) (cs : Array Value) : Blk (w.alloc (.cells cs t)) w.heap.size t cs := heap_alloc_new w _
theorem Blk.new' (w : World) (t : TypeId) (cs : Array Value) {n : Nat} (hn : n = w.heap.size) : Blk (w.alloc (.cells cs t)) n t cs := hn ▸ heap_alloc_new w _
theorem Blk.drew (h : Blk w g t cs) : Blk w.drew g t cs := h
theorem Blk.drewN (h : Blk w g t cs) (n : Nat) : Blk (w.drewN n) g t cs := h
theorem Blk.alloc (h : Blk w g t cs) (o : Obj) : Blk (w.alloc o) g t cs := (Below.heap_alloc w o g h.lt).trans h
theorem Blk.set (h : Blk w g t cs) (i : Nat) (u : Value) : Blk (w.setCell ⟨g, i, none⟩ u) g t (cs.setIfInBounds i u) := by
  unfold Blk at h ⊢
  simp [World.setCell, Array.getElem?_modify, h]
theorem Blk.far (h : Blk w g t cs) {p : Addr} (hp : g ≠ p.block) (u : Value) : Blk (w.setCell p u) g t cs := (Below.heap_setCell w p u g hp).trans h
theorem Blk.below {B : Nat} (h : Blk w g t cs) (hb : Below B w w') (hg : g < B) : Blk w' g t cs := (hb.block g hg).trans h
end
end Go.Proofs.YticekkjambkifaaDoor

/- Words for slices in memory: a slice that reads as a list, a row of the call's own, an append to it. -/
set_option linter.unusedVariables false
namespace Go.Proofs.YticekkjambkifaaDoor
open Go.RowKit

theorem block_of_add (a : Addr) (n : Nat) : (a.add n).block = a.block := by unfold Addr.add; split <;> rfl
theorem add_of_add (a : Addr) (i j : Nat) : (a.add i).add j = a.add (i + j) := by
  unfold Addr.add
  by_cases hi : i = 0 <;> by_cases hj : j = 0 <;> simp [hi, hj, Nat.add_assoc]

/-- The slice value with address A and n elements of 'size' cells reads as the cells xs, below block B. -/
def Reads (w : World) (B size : Nat) (A : Option Addr) (n : Nat) (xs : List Value) : Prop :=
  xs.length = n * size ∧ (0 < n → ∃ ad, A = some ad ∧ ad.block < B ∧ ∀ j u, xs[j]? = some u → w.cell? (ad.add j) = some u)

section
variable {w w' : World} {B B' size n : Nat} {A : Option Addr} {xs : List Value}
theorem Reads.none_ : Reads w B size A 0 [] := ⟨by simp, fun h => absurd h (by omega)⟩
theorem Reads.at_ {k : Nat} (h : Reads w B 1 A n xs) (hk : k < n) : ∃ ad u, A = some ad ∧ ad.block < B ∧ xs[k]? = some u ∧ w.cell? (ad.add k) = some u := by
  obtain ⟨ad, e, hb, hc⟩ := h.2 (by omega)
  have hl : k < xs.length := by have := h.1; omega
  exact ⟨ad, xs[k], e, hb, List.getElem?_eq_getElem hl, hc k _ (List.getElem?_eq_getElem hl)⟩
theorem Reads.keep (h : Reads w B size A n xs) (hk : ∀ p : Addr, p.block < B → w'.cell? p = w.cell? p) : Reads w' B size A n xs :=
  ⟨h.1, fun hn => by
    obtain ⟨ad, e, hb, hc⟩ := h.2 hn
    exact ⟨ad, e, hb, fun j u hu => (hk _ (by rw [block_of_add]; exact hb)).trans (hc j u hu)⟩⟩
theorem Reads.more (h : Reads w B size A n xs) (hB : B ≤ B') : Reads w B' size A n xs :=
  ⟨h.1, fun hn => by
    obtain ⟨ad, e, hb, hc⟩ := h.2 hn
    exact ⟨ad, e, by omega, hc⟩⟩
theorem Reads.below {b : Nat} (h : Reads w B size A n xs) (hb : Below b w w') (hB : B ≤ b) : Reads w' B size A n xs := h.keep fun _ hp => hb.cell (by omega)
theorem Reads.drew (h : Reads w B size A n xs) : Reads w.drew B size A n xs := h
theorem Reads.drewN (h : Reads w B size A n xs) (k : Nat) : Reads (w.drewN k) B size A n xs := h
theorem Reads.alloc (h : Reads w B size A n xs) (hB : B ≤ w.heap.size) (o : Obj) : Reads (w.alloc o) B size A n xs := h.keep fun p hp => World.cell?_alloc_lt w o p (by omega)
theorem Reads.setCell (h : Reads w B size A n xs) {p : Addr} (hB : B ≤ p.block) (u : Value) : Reads (w.setCell p u) B size A n xs :=
  h.keep fun q hq => World.cell?_setCell_other w p q u (fun e => by subst e; omega)
theorem Reads.grown (h : Reads w B size A n xs) {row : Option Nat} (hg : w.grownBy w' row) (hB : B ≤ w.heap.size) (hr : ∀ g, row = some g → B ≤ g) : Reads w' B size A n xs :=
  h.keep fun p hp => World.cell?_of_block (hg.block p.block (by omega) (fun e => by have := hr _ e.symm; omega))
theorem Reads.cut (h : Reads w B size A n xs) {k cap : Nat} (hk : k ≤ n) (hc : n ≤ cap) :
    Reads w B size (if cap = k then A else A.map (·.add (k * size))) (n - k) (xs.drop (k * size)) := by
  refine ⟨by rw [List.length_drop, h.1, Nat.sub_mul], fun hn => ?_⟩
  obtain ⟨ad, rfl, hb, hcell⟩ := h.2 (by omega)
  rw [if_neg (by omega)]
  refine ⟨ad.add (k * size), rfl, by rw [block_of_add]; exact hb, fun j u hu => ?_⟩
  rw [add_of_add]
  exact hcell _ u (by rw [← hu, List.getElem?_drop])
theorem Reads.head (h : Reads w B size A n xs) {k : Nat} (hk : k ≤ n) : Reads w B size A k (xs.take (k * size)) := by
  refine ⟨by rw [List.length_take, h.1]; exact Nat.min_eq_left (Nat.mul_le_mul_right _ hk), fun hn => ?_⟩
  obtain ⟨ad, e, hb, hcell⟩ := h.2 (by omega)
  refine ⟨ad, e, hb, fun j u hu => hcell j u ?_⟩
  rw [List.getElem?_take] at hu
  split at hu
  · exact hu
  · cases hu
theorem Reads.of_own {base : Nat} {e : TypeId} {c : Nat} (h : w.ownsRow base e size (.slice A n c) n xs) : Reads w w.heap.size size A n xs := by
  refine ⟨h.1, fun hn => ?_⟩
  obtain ⟨g, cap, hv, _, hlt⟩ := h.form hn
  have hA : A = some ⟨g, 0, none⟩ := by injection hv
  subst hA
  exact ⟨_, rfl, hlt, h.cells (g := g) rfl⟩
end

section
variable {P : Program} (w : World)
theorem run_append_of_nil (base : Nat) (t ty e : TypeId) (i : TypeInfo) (size : Nat) (ht : P.underlying t = some (.slice e)) (hi : P.info? e = some i)
    (v : Value) (n : Nat) (xs : List Value) (hown : w.ownsRow base e size v n xs) (c : Nat) : (Builtin.append_ #[t, t] ty #[v, .slice none 0 c]).run P w = .ok v w := by
  rcases hown.2 with ⟨rfl, rfl⟩ | ⟨g, cap, cur, rfl, _, _, hnc, _⟩
  · simp [Builtin.append_, run_underlying ht, sizeOf, typeInfo, hi, Builtin.lenOf, Builtin.firstCells]
  · simp [Builtin.append_, run_underlying ht, sizeOf, typeInfo, hi, Builtin.lenOf, Builtin.firstCells, hnc, storeCells]

/-- append to a row of the call's own, from a slice that reads. -/
theorem run_append_any (base : Nat) (t ty e : TypeId) (i : TypeInfo) (z : Value) (size bytes : Nat) (ht : P.underlying t = some (.slice e)) (hi : P.info? e = some i) (hz : i.zero = some z)
    (hsize : i.size = size) (hby : i.bytes = bytes) (hzs : z.cells.size = size) (hsz : 0 < size)
    (v : Value) (n : Nat) (xs : List Value) (hown : w.ownsRow base e size v n xs)
    (B : Nat) (A : Option Addr) (m c : Nat) (news : List Value) (hr : Reads w B size A m news) (h1 : ∀ u ∈ news, u.oneCell' = true)
    (h63 : n + m ≤ maxLen) (hbytes : (n + m) * bytes ≤ 140737488355328) (hbase : base ≤ w.heap.size) :
    ∃ v' w', (Builtin.append_ #[t, t] ty #[v, .slice A m c]).run P w = .ok v' w' ∧ w'.ownsRow base e size v' (n + m) (xs ++ news) ∧ w.grownBy w' v.ownBlock ∧
      (v'.ownBlock = v.ownBlock ∨ v'.ownBlock = some w.heap.size) := by
  rcases A with _ | ad
  · have hm : m = 0 := by
      rcases Nat.eq_zero_or_pos m with h0 | h0
      · exact h0
      · obtain ⟨ad, h, _⟩ := hr.2 h0
        cases h
    subst hm
    have hn : news = [] := List.eq_nil_of_length_eq_zero (by simpa using hr.1)
    subst hn
    exact ⟨v, w, run_append_of_nil w base t ty e i size ht hi v n xs hown c, by simpa using hown, World.grownBy.refl w _, .inl rfl⟩
  · have hcells : ∀ j u, news[j]? = some u → w.cell? (ad.add j) = some u := by
      intro j u hu
      rcases Nat.eq_zero_or_pos m with h0 | h0
      · subst h0
        have hn : news = [] := List.eq_nil_of_length_eq_zero (by simpa using hr.1)
        subst hn
        simp at hu
      · obtain ⟨ad', h, _, hc⟩ := hr.2 h0
        injection h with h
        subst h
        exact hc j u hu
    obtain ⟨v', w', hrun, h2, h3, _, h5⟩ := run_append_own_at (P := P) w base t ty e i z size bytes ht hi hz hsize hby hzs hsz v n xs hown ad m c news hr.1 hcells h1 h63 hbytes hbase
    exact ⟨v', w', hrun, h2, h3, h5⟩

theorem wp_append_any {o : Oper} {a : Act} {K : Act → World → Prop} {Q : Exit → Act → World → Prop} (s x : Operand) (t : TypeId)
    (ho : o.op = .call { callee := .builtin .append, args := #[s, x], argTypes := #[t, t] })
    (base : Nat) (e : TypeId) (i : TypeInfo) (z : Value) (size bytes : Nat) (ht : P.underlying t = some (.slice e)) (hi : P.info? e = some i) (hz : i.zero = some z)
    (hsize : i.size = size) (hby : i.bytes = bytes) (hzs : z.cells.size = size) (hsz : 0 < size)
    (v : Value) (n : Nat) (xs : List Value) (hs : a.eval s = v) (hown : w.ownsRow base e size v n xs)
    (B : Nat) (A : Option Addr) (m c : Nat) (news : List Value) (hx : a.eval x = .slice A m c) (hr : Reads w B size A m news) (h1 : ∀ u ∈ news, u.oneCell' = true)
    (h63 : n + m ≤ maxLen) (hbytes : (n + m) * bytes ≤ 140737488355328) (hbase : base ≤ w.heap.size)
    (h : ∀ v' w', w'.ownsRow base e size v' (n + m) (xs ++ news) → w.grownBy w' v.ownBlock → (v'.ownBlock = v.ownBlock ∨ v'.ownBlock = some w.heap.size) → K (a.put o.dst v') w') : o.wp P a w K Q := by
  obtain ⟨v', w', hrun, h2, h3, h4⟩ := run_append_any (P := P) w base t o.type e i z size bytes ht hi hz hsize hby hzs hsz v n xs hown B A m c news hr h1 h63 hbytes hbase
  unfold Oper.wp execOp
  simp only [ho, resolve, invoke, builtin, Sem.run_bind, Sem.run_pure, Result.andThen_ok, List.map_toArray, List.map_cons, List.map_nil, hs, hx, hrun]
  exact h v' w' h2 h3 h4

theorem wpList_append_any {ops : Array Oper} {rest : List Oper} {o : Oper} {a : Act} {Q : Exit → Act → World → Prop} (hgd : o.guard = none) (s x : Operand) (t : TypeId)
    (ho : o.op = .call { callee := .builtin .append, args := #[s, x], argTypes := #[t, t] })
    (base : Nat) (e : TypeId) (i : TypeInfo) (z : Value) (size bytes : Nat) (ht : P.underlying t = some (.slice e)) (hi : P.info? e = some i) (hz : i.zero = some z)
    (hsize : i.size = size) (hby : i.bytes = bytes) (hzs : z.cells.size = size) (hsz : 0 < size)
    (v : Value) (n : Nat) (xs : List Value) (hs : a.eval s = v) (hown : w.ownsRow base e size v n xs)
    (B : Nat) (A : Option Addr) (m c : Nat) (news : List Value) (hx : a.eval x = .slice A m c) (hr : Reads w B size A m news) (h1 : ∀ u ∈ news, u.oneCell' = true)
    (h63 : n + m ≤ maxLen) (hbytes : (n + m) * bytes ≤ 140737488355328) (hbase : base ≤ w.heap.size)
    (h : ∀ v' w', w'.ownsRow base e size v' (n + m) (xs ++ news) → w.grownBy w' v.ownBlock → (v'.ownBlock = v.ownBlock ∨ v'.ownBlock = some w.heap.size) → wpList P ops Q rest (a.put o.dst v') w') : wpList P ops Q (o :: rest) a w :=
  wpList_plain hgd fun _ hK => wp_append_any w s x t ho base e i z size bytes ht hi hz hsize hby hzs hsz v n xs hs hown B A m c news hx hr h1 h63 hbytes hbase fun v' w' h2 h3 h4 => hK _ _ (h v' w' h2 h3 h4)

theorem step_append_any {ops : Array Oper} {o : Oper} {a : Act} {K : Act → World → Prop} {Q : Exit → Act → World → Prop} {E : Prop} (hgd : o.guard = none) (s x : Operand) (t : TypeId)
    (ho : o.op = .call { callee := .builtin .append, args := #[s, x], argTypes := #[t, t] })
    (base : Nat) (e : TypeId) (i : TypeInfo) (z : Value) (size bytes : Nat) (ht : P.underlying t = some (.slice e)) (hi : P.info? e = some i) (hz : i.zero = some z)
    (hsize : i.size = size) (hby : i.bytes = bytes) (hzs : z.cells.size = size) (hsz : 0 < size)
    (v : Value) (n : Nat) (xs : List Value) (hs : a.eval s = v) (hown : w.ownsRow base e size v n xs)
    (B : Nat) (A : Option Addr) (m c : Nat) (news : List Value) (hx : a.eval x = .slice A m c) (hr : Reads w B size A m news) (h1 : ∀ u ∈ news, u.oneCell' = true)
    (h63 : n + m ≤ maxLen) (hbytes : (n + m) * bytes ≤ 140737488355328) (hbase : base ≤ w.heap.size)
    (h : ∀ v' w', w'.ownsRow base e size v' (n + m) (xs ++ news) → w.grownBy w' v.ownBlock → (v'.ownBlock = v.ownBlock ∨ v'.ownBlock = some w.heap.size) → K (a.put o.dst v') w') :
    if Region.wanted o (yielded ops a.tmps) = true then Oper.wp P o a w K Q else E := by
  have hw : Region.wanted o (yielded ops a.tmps) = true := by simp [Region.wanted, hgd]
  rw [if_pos hw]
  exact wp_append_any w s x t ho base e i z size bytes ht hi hz hsize hby hzs hsz v n xs hs hown B A m c news hx hr h1 h63 hbytes hbase h
end

/-- The cells of numbers. -/
def ints (xs : List Int) : List Value := xs.map (Value.int .i64)
theorem ints_length (xs : List Int) : (ints xs).length = xs.length := List.length_map _
theorem ints_append (xs ys : List Int) : ints (xs ++ ys) = ints xs ++ ints ys := List.map_append
theorem ints_take (xs : List Int) (k : Nat) : ints (xs.take k) = (ints xs).take k := List.map_take
theorem ints_drop (xs : List Int) (k : Nat) : ints (xs.drop k) = (ints xs).drop k := List.map_drop
theorem ints_one (xs : List Int) : ∀ u ∈ ints xs, u.oneCell' = true := ints_oneCell _ _
theorem ints_nil : ints [] = [] := rfl
theorem ints_cons (x : Int) (xs : List Int) : ints (x :: xs) = .int .i64 x :: ints xs := rfl

/-- The slice reads as the numbers xs. -/
def RI (w : World) (A : Option Addr) (n : Nat) (xs : List Int) : Prop := Reads w w.heap.size 1 A n (ints xs)
section
variable {w w' : World} {n : Nat} {A : Option Addr} {xs : List Int}
theorem RI.len (h : RI w A n xs) : xs.length = n := by have := h.1; rw [ints_length] at this; omega
theorem RI.at_ {k : Nat} (h : RI w A n xs) (hk : k < n) : ∃ ad, A = some ad ∧ w.cell? (ad.add k) = some (.int .i64 (xs.getD k 0)) := by
  obtain ⟨ad, u, hA, _, hu, hc⟩ := Reads.at_ h hk
  refine ⟨ad, hA, ?_⟩
  rw [hc, ← hu]
  have := h.len
  simp [ints, List.getD_eq_getElem?_getD, List.getElem?_eq_getElem (show k < xs.length by omega)]
theorem RI.get {k : Nat} (h : RI w A n xs) (hk : k < n) : ∃ ad y, A = some ad ∧ Hid (xs[k]? = some y) ∧ w.cell? (ad.add k) = some (.int .i64 y) := by
  obtain ⟨ad, hA, hc⟩ := h.at_ hk
  have := h.len
  exact ⟨ad, _, hA, Lib.hid (by simp [List.getD_eq_getElem?_getD, List.getElem?_eq_getElem (show k < xs.length by omega)]), hc⟩
theorem RI.below {b : Nat} (h : RI w A n xs) (hb : Below b w w') (hB : w.heap.size ≤ b) : RI w' A n xs := (Reads.below h hb hB).more hb.size
theorem RI.kept {row : Option Nat} (h : RI w A n xs) (hg : w.grownBy w' row) (hne : ∀ ad, A = some ad → some ad.block ≠ row) : RI w' A n xs :=
  ⟨h.1, fun hn => by
    obtain ⟨ad, e, hb, hc⟩ := (show Reads w w.heap.size 1 A n (ints xs) from h).2 hn
    exact ⟨ad, e, Nat.lt_of_lt_of_le hb hg.size, fun j u hu => (World.cell?_of_block (hg.block (ad.add j).block (by rw [block_of_add]; exact hb) (by rw [block_of_add]; exact hne ad e))).trans (hc j u hu)⟩⟩
theorem RI.drew (h : RI w A n xs) : RI w.drew A n xs := h
theorem RI.drewN (h : RI w A n xs) (k : Nat) : RI (w.drewN k) A n xs := h
theorem RI.alloc (h : RI w A n xs) (o : Obj) : RI (w.alloc o) A n xs := (Reads.alloc h (Nat.le_refl _) o).more (by simp)
theorem RI.none_ : RI w A 0 [] := Reads.none_
theorem RI.head (h : RI w A n xs) {k : Nat} (hk : k ≤ n) : RI w A k (xs.take k) := by
  have := Reads.head h hk
  rwa [Nat.mul_one, ← ints_take] at this
theorem RI.cut (h : RI w A n xs) {k cap : Nat} (hk : k ≤ n) (hc : n ≤ cap) : RI w (if cap = k then A else A.map (·.add k)) (n - k) (xs.drop k) := by
  have := Reads.cut h hk hc
  rwa [Nat.mul_one, ← ints_drop] at this
end
theorem RI.one {w : World} {t : TypeId} (x : Int) : RI (w.alloc (.cells #[.int .i64 x] t)) (some ⟨w.heap.size, 0, none⟩) 1 [x] :=
  ⟨rfl, fun _ => ⟨_, rfl, by simp, cell_one_new w _ t⟩⟩
theorem RI.own {w : World} {B : Nat} {e : TypeId} {A : Option Addr} {n c : Nat} {xs : List Int} (h : w.ownsRow B e 1 (.slice A n c) n (ints xs)) : RI w A n xs := Reads.of_own h
/-- A value that is owned is a slice. -/
theorem own_form {w : World} {B : Nat} {e : TypeId} {size : Nat} {v : Value} {n : Nat} {xs : List Value} (h : w.ownsRow B e size v n xs) : ∃ A c, v = .slice A n c ∧ n ≤ c ∧ c ≤ maxLen := by
  rcases h.2 with ⟨rfl, rfl⟩ | ⟨g, cap, cur, rfl, _, _, hnc, hm, _⟩
  · exact ⟨none, 0, rfl, Nat.le_refl _, Nat.zero_le _⟩
  · exact ⟨_, cap, rfl, hnc, hm⟩
/-- The address lies among the blocks from B on. -/
def Fr (B : Nat) (A : Option Addr) : Prop := ∀ ad, A = some ad → B ≤ ad.block
theorem Fr.none_ {B : Nat} : Fr B none := fun _ h => by cases h
theorem Fr.mono {B B' : Nat} {A : Option Addr} (h : Fr B A) (hB : B' ≤ B) : Fr B' A := fun ad e => Nat.le_trans hB (h ad e)
theorem own_fresh {w : World} {B : Nat} {e : TypeId} {size : Nat} {A : Option Addr} {n c : Nat} {xs : List Value} (h : w.ownsRow B e size (.slice A n c) n xs) : Fr B A := by
  intro ad hA
  rcases h.2 with ⟨hv, _⟩ | ⟨g, cap, cur, hv, hB, _⟩
  · injection hv with h1; rw [h1] at hA; cases hA
  · injection hv with h1; rw [h1] at hA; injection hA with hA; subst hA; exact hB
/-- The call returns a new slice that reads as the numbers ys, and nothing that was there has changed. -/
def RetI (w : World) (ys : List Int) (e : Ending) (w' : World) : Prop := ∃ A n c, e = .returned (.slice A n c) ∧ n ≤ c ∧ RI w' A n ys ∧ Below w.heap.size w w' ∧ Fr w.heap.size A
theorem RetI.mk_ {w w' : World} {A : Option Addr} {n c : Nat} {ys : List Int} (hc : n ≤ c) (h : RI w' A n ys) (hb : Below w.heap.size w w') (hf : Fr w.heap.size A) : RetI w ys (.returned (.slice A n c)) w' := ⟨A, n, c, rfl, hc, h, hb, hf⟩
theorem RetI.own {w w' : World} {B n : Nat} {e : TypeId} {v : Value} {ys : List Int} (h : w'.ownsRow B e 1 v n (ints ys)) (hb : Below w.heap.size w w') (hB : w.heap.size ≤ B) : RetI w ys (.returned v) w' := by
  obtain ⟨A, c, rfl, hc, _⟩ := own_form h
  exact ⟨A, n, c, rfl, hc, RI.own h, hb, (own_fresh h).mono hB⟩
theorem below_own {B : Nat} {w0 w w' : World} {v : Value} (h : Below B w0 w) (hg : w.grownBy w' v.ownBlock) (hB : B ≤ w.heap.size) (hv : ∀ k, v.ownBlock = some k → B ≤ k) : Below B w0 w' := h.grown hg hB hv
theorem nil_block : ∀ k, (Value.slice none 0 0).ownBlock = some k → (0 : Nat) = 1 := by intro k h; simp [Value.ownBlock] at h
theorem own_block {w : World} {B : Nat} {e : TypeId} {size : Nat} {v : Value} {n : Nat} {xs : List Value} (h : w.ownsRow B e size v n xs) : ∀ k, v.ownBlock = some k → B ≤ k := fun k hk => (h.lt k hk).1
theorem int_info : (Tryd.prog.info? 3).map (fun i => (i.zero, i.size, i.bytes)) = some (some (.int .i64 0), 1, 8) := by kernel_rfl
/-- The slice v is the call's own (a row among the blocks from B on), and holds the numbers ys. -/
def OI (w : World) (B : Nat) (v : Value) (ys : List Int) : Prop := w.ownsRow B 3 1 v ys.length (ints ys)
section
variable {w w' : World} {B : Nat} {v : Value} {ys : List Int}
theorem OI.nil_ : OI w B (.slice none 0 0) [] := World.ownsRow_nil _ _ _ _
theorem OI.alloc (h : OI w B v ys) (o : Obj) : OI (w.alloc o) B v ys := World.ownsRow.alloc h o
theorem OI.drew (h : OI w B v ys) : OI w.drew B v ys := h
theorem OI.drewN (h : OI w B v ys) (n : Nat) : OI (w.drewN n) B v ys := h
theorem OI.kept {row : Option Nat} (h : OI w B v ys) (hg : w.grownBy w' row) (hne : v.ownBlock = none ∨ v.ownBlock ≠ row) : OI w' B v ys := World.ownsRow.kept h hg hne
theorem OI.block_lt (h : OI w B v ys) : ∀ k, v.ownBlock = some k → B ≤ k ∧ k < w.heap.size := World.ownsRow.lt h
theorem OI.below {b : Nat} (h : OI w B v ys) (hb : Below b w w') (hB : w.heap.size ≤ b) : OI w' B v ys := by
  rcases h.2 with ⟨rfl, h0⟩ | ⟨g, cap, cur, rfl, h1, h2, h3⟩
  · exact ⟨h.1, .inl ⟨rfl, h0⟩⟩
  · have hlt : g < w.heap.size := by
      rcases Nat.lt_or_ge g w.heap.size with hlt | hge
      · exact hlt
      · rw [Array.getElem?_eq_none hge] at h2; cases h2
    exact ⟨h.1, .inr ⟨g, cap, cur, rfl, h1, (hb.block g (by omega)).trans h2, h3⟩⟩
theorem OI.form (h : OI w B v ys) : ∃ A n c, v = .slice A n c ∧ n = ys.length ∧ n ≤ c ∧ c ≤ maxLen ∧ RI w A n ys := by
  obtain ⟨A, c, rfl, h1, h2⟩ := own_form h
  exact ⟨A, _, c, rfl, rfl, h1, h2, RI.own h⟩
theorem OI.ret {w0 : World} (h : OI w B v ys) (hb : Below w0.heap.size w0 w) (hB : w0.heap.size ≤ B) : RetI w0 ys (.returned v) w := RetI.own h hb hB
theorem OI.fresh {A : Option Addr} {n c : Nat} (h : OI w B (.slice A n c) ys) (hn : n = ys.length) : Fr B A := by subst hn; exact own_fresh h
end
/-- append of one number. -/
theorem wpList_push {ops : Array Oper} {rest : List Oper} {o : Oper} {a : Act} {Q : Exit → Act → World → Prop} {w : World} {T B H : Nat} {v : Value} {ys : List Int} {y : Int}
    (hgd : o.guard = none) (s x : Operand) (ho : o.op = .call { callee := .builtin .append, args := #[s, x], argTypes := #[22, 22] })
    (hs : a.eval s = v) (hx : a.eval x = .slice (some ⟨H, 0, none⟩) 1 1) (hH : H = w.heap.size) (hown : OI w B v ys) (hn : ys.length ≤ 2199023255552) (hB : B ≤ w.heap.size)
    (h : ∀ v' w', OI w' B v' (ys ++ [y]) → Below B w w' → w.grownBy w' v.ownBlock → wpList Tryd.prog ops Q rest (a.put o.dst v') w') :
    wpList Tryd.prog ops Q (o :: rest) a (w.alloc (.cells #[.int .i64 y] T)) := by
  obtain ⟨i0, hi0, hz0, hz1, hz2⟩ := info_parts int_info
  subst hH
  refine wpList_append_any _ hgd s x _ ho B 3 i0 _ 1 8 Tryd.underlying22 hi0 hz0 hz1 hz2 rfl (by omega) v ys.length (ints ys) hs (hown.alloc _) _ _ 1 1 (ints [y]) hx (RI.one y) (ints_one _) (by unfold maxLen; omega) (by omega) (by simp; omega) ?_
  intro v' w' h1 h2 _
  refine h v' w' ?_ (below_own ((Below.refl _ _).alloc hB _) h2 (by simp; omega) (own_block hown)) ?_
  · unfold OI
    rw [List.length_append, ints_append]; exact h1
  · refine ⟨h2.os, h2.tape, h2.output, Nat.le_trans (by simp) h2.size, fun k hk hne => (h2.block k (by simp; omega) hne).trans (Below.heap_alloc w _ k hk)⟩
/-- append of a list. -/
theorem wpList_cat {ops : Array Oper} {rest : List Oper} {o : Oper} {a : Act} {Q : Exit → Act → World → Prop} {w : World} {B : Nat} {v : Value} {ys zs : List Int} {A : Option Addr} {m c : Nat}
    (hgd : o.guard = none) (s x : Operand) (ho : o.op = .call { callee := .builtin .append, args := #[s, x], argTypes := #[22, 22] })
    (hs : a.eval s = v) (hx : a.eval x = .slice A m c) (hown : OI w B v ys) (hr : RI w A m zs) (hn : ys.length + m ≤ 2199023255552) (hB : B ≤ w.heap.size)
    (h : ∀ v' w', OI w' B v' (ys ++ zs) → Below B w w' → w.grownBy w' v.ownBlock → wpList Tryd.prog ops Q rest (a.put o.dst v') w') :
    wpList Tryd.prog ops Q (o :: rest) a w := by
  obtain ⟨i0, hi0, hz0, hz1, hz2⟩ := info_parts int_info
  refine wpList_append_any _ hgd s x _ ho B 3 i0 _ 1 8 Tryd.underlying22 hi0 hz0 hz1 hz2 rfl (by omega) v ys.length (ints ys) hs hown _ _ m c (ints zs) hx hr (ints_one _) (by unfold maxLen; omega) (by omega) hB ?_
  intro v' w' h1 h2 _
  refine h v' w' ?_ (below_own (Below.refl _ _) h2 hB (own_block hown)) h2
  unfold OI
  rw [List.length_append, ints_append, hr.len]; exact h1
theorem Blk.grown {w w' : World} {g : Nat} {t : TypeId} {cs : Array Value} {row : Option Nat} (h : Blk w g t cs) (hb : w.grownBy w' row) (hg : some g ≠ row) : Blk w' g t cs := (hb.block g h.lt hg).trans h
theorem OI.ne_new {w : World} {B : Nat} {v : Value} {ys : List Int} (h : OI w B v ys) : some w.heap.size ≠ v.ownBlock := fun e => by have := (h.block_lt _ e.symm).2; omega
end Go.Proofs.YticekkjambkifaaDoor

/- Plain maths on bits of numbers: how many bits are set, by adding fields side by side. -/
set_option linter.unusedVariables false
namespace CoBit

/-- How many of the first k bits are set. -/
def bsum : Nat → Nat → Nat
  | 0, _ => 0
  | k + 1, x => x % 2 + bsum k (x / 2)
/-- How many bits of a number of 64 bits are set. -/
def pop (x : Nat) : Nat := bsum 64 x
theorem bsum_add (a b x : Nat) : bsum (a + b) x = bsum a x + bsum b (x / 2 ^ a) := by
  induction a generalizing x with
  | zero => simp [bsum]
  | succ a ih =>
    rw [show a + 1 + b = (a + b) + 1 by omega, bsum, bsum, ih, Nat.div_div_eq_div_mul, show 2 * 2 ^ a = 2 ^ (a + 1) by rw [Nat.pow_succ]; omega]
    omega
theorem bsum_mod (a x : Nat) : bsum a (x % 2 ^ a) = bsum a x := by
  induction a generalizing x with
  | zero => simp [bsum]
  | succ a ih =>
    rw [bsum, bsum, ← ih (x / 2)]
    have h1 : x % 2 ^ (a + 1) % 2 = x % 2 := by rw [Nat.pow_succ, Nat.mul_comm]; exact Nat.mod_mul_right_mod x 2 _
    have h2 : x % 2 ^ (a + 1) / 2 = x / 2 % 2 ^ a := by rw [Nat.pow_succ, Nat.mul_comm, Nat.mod_mul_right_div_self]
    rw [h1, h2]
theorem and_split (x m : Nat) : x &&& m = (x % 256 &&& m % 256) + 256 * (x / 256 &&& m / 256) := by
  have h1 : (x &&& m) % 2 ^ 8 = (x % 2 ^ 8) &&& (m % 2 ^ 8) := Nat.and_mod_two_pow
  have h2 : (x &&& m) / 2 ^ 8 = (x / 2 ^ 8) &&& (m / 2 ^ 8) := Nat.and_div_two_pow
  have h3 := Nat.mod_add_div (x &&& m) 256
  rw [show (2 : Nat) ^ 8 = 256 from rfl] at h1 h2
  rw [← h1, ← h2]
  omega
/-- A mask of k bytes c. -/
def mk (c : Nat) : Nat → Nat
  | 0 => 0
  | k + 1 => c + 256 * mk c k
theorem mk_mod (c k : Nat) (h : c < 256) : mk c (k + 1) % 256 = c := by rw [mk]; omega
theorem mk_div (c k : Nat) (h : c < 256) : mk c (k + 1) / 256 = mk c k := by rw [mk]; omega
def g1 (b : Nat) : Nat := (b / 2 &&& 85) + (b &&& 85)
def g2 (b : Nat) : Nat := (b / 4 &&& 51) + (b &&& 51)
def g3 (b : Nat) : Nat := (b / 16 + b) % 16
def s1 (k x : Nat) : Nat := (x / 2 &&& mk 85 k) + (x &&& mk 85 k)
def s2 (k x : Nat) : Nat := (x / 4 &&& mk 51 k) + (x &&& mk 51 k)
def s3 (k x : Nat) : Nat := (x / 16 + x) &&& mk 15 k
theorem low1 : ∀ c : Fin 128, ∀ d : Fin 2, (c.val + 128 * d.val) &&& 85 = c.val &&& 85 := by decide +kernel
theorem low2 : ∀ c : Fin 64, ∀ d : Fin 4, (c.val + 64 * d.val) &&& 51 = c.val &&& 51 := by decide +kernel
theorem s1_succ (k x : Nat) : s1 (k + 1) x = g1 (x % 256) + 256 * s1 k (x / 256) := by
  unfold s1 g1
  rw [and_split (x / 2), and_split x, mk_mod 85 k (by omega), mk_div 85 k (by omega)]
  have h1 : x / 2 % 256 = x % 256 / 2 + 128 * (x / 256 % 2) := by omega
  have h2 : x / 2 / 256 = x / 256 / 2 := by omega
  have h3 := low1 ⟨x % 256 / 2, by omega⟩ ⟨x / 256 % 2, by omega⟩
  simp only at h3
  rw [h1, h2, h3]
  omega
theorem s2_succ (k x : Nat) : s2 (k + 1) x = g2 (x % 256) + 256 * s2 k (x / 256) := by
  unfold s2 g2
  rw [and_split (x / 4), and_split x, mk_mod 51 k (by omega), mk_div 51 k (by omega)]
  have h1 : x / 4 % 256 = x % 256 / 4 + 64 * (x / 256 % 4) := by omega
  have h2 : x / 4 / 256 = x / 256 / 4 := by omega
  have h3 := low2 ⟨x % 256 / 4, by omega⟩ ⟨x / 256 % 4, by omega⟩
  simp only at h3
  rw [h1, h2, h3]
  omega
/-- The nibbles of each of k bytes are at most 4. -/
def Nib : Nat → Nat → Prop
  | 0, _ => True
  | k + 1, x => x % 256 / 16 ≤ 4 ∧ x % 16 ≤ 4 ∧ Nib k (x / 256)
theorem s3_succ (k x : Nat) (h : x % 256 / 16 ≤ 4 ∧ x % 16 ≤ 4) (hq : x / 256 % 16 ≤ 4) : s3 (k + 1) x = g3 (x % 256) + 256 * s3 k (x / 256) := by
  unfold s3 g3
  rw [and_split, mk_mod 15 k (by omega), mk_div 15 k (by omega)]
  have h1 : (x / 16 + x) / 256 = x / 256 / 16 + x / 256 := by omega
  have h2 : (x / 16 + x) % 256 &&& 15 = (x / 16 + x) % 256 % 16 := Nat.and_two_pow_sub_one_eq_mod _ 4
  rw [h1, h2]
  congr 1
  omega
theorem g_bd : ∀ b : Fin 256, g1 b.val < 256 ∧ g2 (g1 b.val) < 256 ∧ g2 (g1 b.val) / 16 ≤ 4 ∧ g2 (g1 b.val) % 16 ≤ 4 ∧ g3 (g2 (g1 b.val)) = bsum 8 b.val := by decide +kernel
/-- The sums of the bytes, byte by byte. -/
def bys : Nat → Nat → Nat
  | 0, _ => 0
  | k + 1, x => bsum 8 (x % 256) + 256 * bys k (x / 256)
theorem nib_s2 (k x : Nat) (hx : x < 256 ^ k) : Nib k (s2 k (s1 k x)) ∧ (0 < k → s2 k (s1 k x) % 16 ≤ 4) := by
  induction k generalizing x with
  | zero => exact ⟨trivial, fun h => by omega⟩
  | succ k ih =>
    have hb := g_bd ⟨x % 256, by omega⟩
    simp only at hb
    have hk := ih (x / 256) (by rw [Nat.pow_succ] at hx; omega)
    rw [s1_succ, s2_succ]
    have e1 : (g1 (x % 256) + 256 * s1 k (x / 256)) % 256 = g1 (x % 256) := by omega
    have e2 : (g1 (x % 256) + 256 * s1 k (x / 256)) / 256 = s1 k (x / 256) := by omega
    rw [e1, e2]
    have e3 : (g2 (g1 (x % 256)) + 256 * s2 k (s1 k (x / 256))) % 256 = g2 (g1 (x % 256)) := by omega
    have e4 : (g2 (g1 (x % 256)) + 256 * s2 k (s1 k (x / 256))) / 256 = s2 k (s1 k (x / 256)) := by omega
    refine ⟨⟨by rw [e3]; exact hb.2.2.1, by omega, by rw [e4]; exact hk.1⟩, fun _ => by omega⟩
theorem steps (k x : Nat) (hx : x < 256 ^ k) : s3 k (s2 k (s1 k x)) = bys k x := by
  induction k generalizing x with
  | zero => simp [s3, mk, bys]
  | succ k ih =>
    have hb := g_bd ⟨x % 256, by omega⟩
    simp only at hb
    have hx' : x / 256 < 256 ^ k := by rw [Nat.pow_succ] at hx; omega
    have hk := nib_s2 k (x / 256) hx'
    have hn := (nib_s2 (k + 1) x hx).1
    rw [s1_succ, s2_succ]
    have e1 : (g1 (x % 256) + 256 * s1 k (x / 256)) % 256 = g1 (x % 256) := by omega
    have e2 : (g1 (x % 256) + 256 * s1 k (x / 256)) / 256 = s1 k (x / 256) := by omega
    rw [e1, e2]
    have e3 : (g2 (g1 (x % 256)) + 256 * s2 k (s1 k (x / 256))) % 256 = g2 (g1 (x % 256)) := by omega
    have e4 : (g2 (g1 (x % 256)) + 256 * s2 k (s1 k (x / 256))) / 256 = s2 k (s1 k (x / 256)) := by omega
    rw [s3_succ k _ ⟨by rw [e3]; exact hb.2.2.1, by omega⟩, e3, e4, ih (x / 256) hx', hb.2.2.2.2, bys]
    rw [e4]
    rcases Nat.eq_zero_or_pos k with h0 | h0
    · subst h0
      have : s2 0 (s1 0 (x / 256)) = 0 := by simp [s2, mk]
      omega
    · exact hk.2 h0
theorem bsum_le (k x : Nat) : bsum k x ≤ k := by
  induction k generalizing x with
  | zero => simp [bsum]
  | succ k ih => rw [bsum]; have := ih (x / 2); omega
theorem div_of {a r m q : Nat} (h : a = r + m * q) (hr : r < m) : a / m = q := by
  rw [h, Nat.add_mul_div_left _ _ (by omega), Nat.div_eq_of_lt hr, Nat.zero_add]
theorem two_bytes {c0 c1 q0 q1 q2 : Nat} (h0 : q0 = c0 + 256 * q1) (h1 : q1 = c1 + 256 * q2) : q0 = (c0 + 256 * c1) + 65536 * q2 := by omega
theorem four_bytes {a b q0 q2 q4 : Nat} (h0 : q0 = a + 65536 * q2) (h2 : q2 = b + 65536 * q4) : q0 = (a + 65536 * b) + 4294967296 * q4 := by omega
theorem pair {a b m r s p q : Nat} (ha : a = r + m * p) (hb : b = s + m * q) : a + b = (r + s) + m * (p + q) := by rw [ha, hb, Nat.mul_add]; omega
theorem add_div {a b m r s p q : Nat} (ha : a = r + m * p) (hb : b = s + m * q) (hrs : r + s < m) : (a + b) / m = p + q := div_of (r := r + s) (by rw [ha, hb, Nat.mul_add]; omega) hrs
theorem sum8 (c0 c1 c2 c3 c4 c5 c6 c7 q0 q1 q2 q3 q4 q5 q6 q7 : Nat) (b0 : c0 ≤ 8) (b1 : c1 ≤ 8) (b2 : c2 ≤ 8) (b3 : c3 ≤ 8) (b4 : c4 ≤ 8) (b5 : c5 ≤ 8) (b6 : c6 ≤ 8) (b7 : c7 ≤ 8)
    (h0 : q0 = c0 + 256 * q1) (h1 : q1 = c1 + 256 * q2) (h2 : q2 = c2 + 256 * q3) (h3 : q3 = c3 + 256 * q4) (h4 : q4 = c4 + 256 * q5) (h5 : q5 = c5 + 256 * q6) (h6 : q6 = c6 + 256 * q7) (h7 : q7 = c7) :
    q0 + q1 < 18446744073709551616 ∧ q0 / 256 = q1 ∧ (q0 + q1) / 65536 = q2 + q3 ∧ q0 + q1 + (q2 + q3) < 18446744073709551616 ∧ (q0 + q1 + (q2 + q3)) / 4294967296 = (q4 + q5) + (q6 + q7) ∧ q0 + q1 + (q2 + q3) + ((q4 + q5) + (q6 + q7)) < 9223372036854775808 ∧ (q0 + q1 + (q2 + q3) + ((q4 + q5) + (q6 + q7))) % 128 = c0 + c1 + c2 + c3 + c4 + c5 + c6 + c7 := by
  have u7 : q7 ≤ 8 := by omega
  have u6 : q6 ≤ 2056 := by omega
  have u5 : q5 ≤ 526344 := by omega
  have u4 : q4 ≤ 134744072 := by omega
  have u3 : q3 ≤ 34494482440 := by omega
  have u2 : q2 ≤ 8830587504648 := by omega
  have u1 : q1 ≤ 2260630401189896 := by omega
  have u0 : q0 ≤ 578721382704613384 := by omega
  have t0 := two_bytes h0 h1
  have t1 := two_bytes h1 h2
  have t2 := two_bytes h2 h3
  have t3 := two_bytes h3 h4
  have t4 := two_bytes h4 h5
  have t5 := two_bytes h5 h6
  have e0 : q0 / 256 = q1 := div_of h0 (by omega)
  have e1 : (q0 + q1) / 65536 = q2 + q3 := add_div t0 t1 (by omega)
  have f0 := four_bytes t0 t2
  have f1 := four_bytes t1 t3
  have f2 := four_bytes t2 t4
  have f3 := four_bytes t3 t5
  have k0 := pair f0 f1
  have k1 := pair f2 f3
  have e2 : (q0 + q1 + (q2 + q3)) / 4294967296 = (q4 + q5) + (q6 + q7) := by
    refine add_div k0 k1 ?_
    clear h0 h1 h2 h3 h4 h5 h6 h7 t0 t1 t2 t3 t4 t5 f0 f1 f2 f3 k0 k1 e0 e1 u0 u1 u2 u3 u4 u5 u6 u7
    omega
  clear t0 t1 t2 t3 t4 t5 f0 f1 f2 f3 k0 k1
  have hm : (q0 + q1 + (q2 + q3) + ((q4 + q5) + (q6 + q7))) % 128 = c0 + c1 + c2 + c3 + c4 + c5 + c6 + c7 := by
    have v0 : q0 % 128 = c0 := by clear h1 h2 h3 h4 h5 h6 h7; omega
    have v1 : q1 % 128 = c1 := by clear h0 h2 h3 h4 h5 h6 h7; omega
    have v2 : q2 % 128 = c2 := by clear h0 h1 h3 h4 h5 h6 h7; omega
    have v3 : q3 % 128 = c3 := by clear h0 h1 h2 h4 h5 h6 h7; omega
    have v4 : q4 % 128 = c4 := by clear h0 h1 h2 h3 h5 h6 h7; omega
    have v5 : q5 % 128 = c5 := by clear h0 h1 h2 h3 h4 h6 h7; omega
    have v6 : q6 % 128 = c6 := by clear h0 h1 h2 h3 h4 h5 h7; omega
    have v7 : q7 % 128 = c7 := by clear h0 h1 h2 h3 h4 h5 h6; omega
    clear h0 h1 h2 h3 h4 h5 h6 h7 e0 e1 e2 u0 u1 u2 u3 u4 u5 u6 u7
    omega
  clear h0 h1 h2 h3 h4 h5 h6 h7
  exact ⟨by omega, e0, e1, by omega, e2, by omega, hm⟩
theorem pop_bytes (x : Nat) : pop x = bsum 8 (x % 256) + bsum 8 (x / 256 % 256) + bsum 8 (x / 256 / 256 % 256) + bsum 8 (x / 256 / 256 / 256 % 256) + bsum 8 (x / 256 / 256 / 256 / 256 % 256) + bsum 8 (x / 256 / 256 / 256 / 256 / 256 % 256) + bsum 8 (x / 256 / 256 / 256 / 256 / 256 / 256 % 256) + bsum 8 (x / 256 / 256 / 256 / 256 / 256 / 256 / 256 % 256) := by
  have e : ∀ k z, bsum (8 + k) z = bsum 8 (z % 256) + bsum k (z / 256) := fun k z => by
    rw [bsum_add, ← bsum_mod 8 z]
  rw [pop, show (64 : Nat) = 8 + (8 + (8 + (8 + (8 + (8 + (8 + (8 + 0))))))) from rfl, e, e, e, e, e, e, e, e]
  generalize bsum 8 (x % 256) = c0
  generalize bsum 8 (x / 256 % 256) = c1
  generalize bsum 8 (x / 256 / 256 % 256) = c2
  generalize bsum 8 (x / 256 / 256 / 256 % 256) = c3
  generalize bsum 8 (x / 256 / 256 / 256 / 256 % 256) = c4
  generalize bsum 8 (x / 256 / 256 / 256 / 256 / 256 % 256) = c5
  generalize bsum 8 (x / 256 / 256 / 256 / 256 / 256 / 256 % 256) = c6
  generalize bsum 8 (x / 256 / 256 / 256 / 256 / 256 / 256 / 256 % 256) = c7
  rw [bsum]
  omega
/-- The number of set bits, as math/bits counts it. -/
theorem pop_eq (x : Nat) : ∃ z1 z2 z3 : Nat, z1 = bys 8 x + bys 8 x / 256 ∧ z1 < 18446744073709551616 ∧ z2 = z1 + z1 / 65536 ∧ z2 < 18446744073709551616 ∧ z3 = z2 + z2 / 4294967296 ∧ z3 < 9223372036854775808 ∧ z3 % 128 = pop x := by
  have h := sum8 _ _ _ _ _ _ _ _ (bys 8 x) (bys 7 (x / 256)) (bys 6 (x / 256 / 256)) (bys 5 (x / 256 / 256 / 256)) (bys 4 (x / 256 / 256 / 256 / 256)) (bys 3 (x / 256 / 256 / 256 / 256 / 256)) (bys 2 (x / 256 / 256 / 256 / 256 / 256 / 256)) (bys 1 (x / 256 / 256 / 256 / 256 / 256 / 256 / 256))
    (bsum_le 8 _) (bsum_le 8 _) (bsum_le 8 _) (bsum_le 8 _) (bsum_le 8 _) (bsum_le 8 _) (bsum_le 8 _) (bsum_le 8 _) (by rw [bys]) (by rw [bys]) (by rw [bys]) (by rw [bys]) (by rw [bys]) (by rw [bys]) (by rw [bys]) (by rw [bys, bys, Nat.mul_zero, Nat.add_zero])
  rw [← pop_bytes] at h
  obtain ⟨h1, h2, h3, h4, h5, h6, h7⟩ := h
  exact ⟨_, _, _, rfl, by rw [h2]; exact h1, rfl, by rw [h2, h3]; exact h4, rfl, by rw [h2, h3, h5]; exact h6, by rw [h2, h3, h5]; exact h7⟩
theorem mk85 : mk 85 8 = 6148914691236517205 := by decide +kernel
theorem mk51 : mk 51 8 = 3689348814741910323 := by decide +kernel
theorem mk15 : mk 15 8 = 1085102592571150095 := by decide +kernel
theorem s_bd (x : Nat) (hx : x < 18446744073709551616) : (x / 2 &&& 6148914691236517205) + (x &&& 6148914691236517205) = s1 8 x ∧ (s1 8 x / 4 &&& 3689348814741910323) + (s1 8 x &&& 3689348814741910323) = s2 8 (s1 8 x) ∧
    (s2 8 (s1 8 x) / 16 + s2 8 (s1 8 x)) &&& 1085102592571150095 = bys 8 x := by
  rw [← steps 8 x (by rw [show (256 : Nat) ^ 8 = 18446744073709551616 by decide +kernel]; exact hx)]
  generalize hs : s1 8 x = a
  generalize hb : s2 8 a = b
  rw [← mk85, ← mk51, ← mk15, ← hs, ← hb]
  exact ⟨by rw [s1], by rw [s2, hs], by rw [s3]⟩
/-- The set of one node. -/
def bitN (v : Nat) : Nat := 2 ^ v
theorem and_le {a b : Nat} : a &&& b ≤ b := Nat.and_le_right
end CoBit

namespace Go.Proofs.YticekkjambkifaaDoor
open Go.RowKit

theorem ofInt_i64n (a : Nat) (ha : a < 9223372036854775808) : (BitVec.ofInt 64 (a : Int)).toNat = a := by
  rw [BitVec.ofInt_natCast, BitVec.toNat_ofNat]; exact Nat.mod_eq_of_lt (by omega)
theorem i64_and_nat (a b : Nat) (ha : a < 9223372036854775808) (hb : b < 9223372036854775808) : bits .and .i64 (a : Int) (b : Int) = ((a &&& b : Nat) : Int) := by
  have hx : a &&& b < 2 ^ 63 := Nat.and_lt_two_pow _ (by omega)
  show IntKind.i64.wrap ((BitVec.ofInt 64 (a : Int) &&& BitVec.ofInt 64 (b : Int)).toNat : Int) = _
  rw [BitVec.toNat_and, ofInt_i64n a ha, ofInt_i64n b hb, IntKind.wrap_i64]
  omega
theorem u64_in (a : Nat) (h : a < 18446744073709551616) : IntKind.u64.wrap (a : Int) = (a : Int) := by rw [IntKind.wrap_u64]; omega
theorem and_div_c (x c k : Nat) (hx : x < 18446744073709551616) (hc : c < 18446744073709551616) : bits .and .u64 ((x : Int) / (k : Nat)) (c : Int) = ((x / k &&& c : Nat) : Int) := by
  have h : x / k ≤ x := Nat.div_le_self _ _
  rw [← Int.natCast_ediv, bits_and_u64_nat _ _ (by omega) hc]

/-- The values that OnesCount64 goes through. -/
structure Pops (x a b z1 z2 z3 : Nat) (y p : Nat) : Prop where
  e1 : IntKind.u64.wrap (bits .and .u64 ((x : Int) / 2) 6148914691236517205 + bits .and .u64 (x : Int) 6148914691236517205) = (a : Int)
  e2 : IntKind.u64.wrap (bits .and .u64 ((a : Int) / 4) 3689348814741910323 + bits .and .u64 (a : Int) 3689348814741910323) = (b : Int)
  e3 : bits .and .u64 (IntKind.u64.wrap ((b : Int) / 16 + (b : Int))) 1085102592571150095 = (y : Int)
  e4 : IntKind.u64.wrap ((y : Int) + (y : Int) / 256) = (z1 : Int)
  e5 : IntKind.u64.wrap ((z1 : Int) + (z1 : Int) / 65536) = (z2 : Int)
  e6 : IntKind.u64.wrap ((z2 : Int) + (z2 : Int) / 4294967296) = (z3 : Int)
  e7 : IntKind.i64.wrap (z3 : Int) = (z3 : Int)
  e8 : bits .and .i64 (z3 : Int) 127 = (p : Int)
theorem s2_bd (x : Nat) (hx : x < 18446744073709551616) : CoBit.s1 8 x < 18446744073709551616 ∧ CoBit.s2 8 (CoBit.s1 8 x) < 18446744073709551616 ∧ CoBit.s2 8 (CoBit.s1 8 x) / 16 + CoBit.s2 8 (CoBit.s1 8 x) < 18446744073709551616 := by
  obtain ⟨h1, h2, _⟩ := CoBit.s_bd x hx
  have a1 : x / 2 &&& 6148914691236517205 ≤ 6148914691236517205 := Nat.and_le_right
  have a2 : x &&& 6148914691236517205 ≤ 6148914691236517205 := Nat.and_le_right
  rw [← h2]
  generalize CoBit.s1 8 x = a at *
  have a3 : a / 4 &&& 3689348814741910323 ≤ 3689348814741910323 := Nat.and_le_right
  have a4 : a &&& 3689348814741910323 ≤ 3689348814741910323 := Nat.and_le_right
  generalize a / 4 &&& 3689348814741910323 = u at *
  generalize a &&& 3689348814741910323 = v at *
  omega
theorem pops (x : Nat) (hx : x < 18446744073709551616) : ∃ a b z1 z2 z3 y, Pops x a b z1 z2 z3 y (CoBit.pop x) := by
  obtain ⟨h1, h2, h3⟩ := CoBit.s_bd x hx
  obtain ⟨b1, b2, b3⟩ := s2_bd x hx
  obtain ⟨z1, z2, z3, g1, l1, g2, l2, g3, l3, g4⟩ := CoBit.pop_eq x
  have m1 := and_div_c x 6148914691236517205 2 hx (by omega)
  have m2 := bits_and_u64_nat x 6148914691236517205 hx (by omega)
  have m3 := and_div_c (CoBit.s1 8 x) 3689348814741910323 4 b1 (by omega)
  have m4 := bits_and_u64_nat (CoBit.s1 8 x) 3689348814741910323 b1 (by omega)
  have m5 := bits_and_u64_nat (CoBit.s2 8 (CoBit.s1 8 x) / 16 + CoBit.s2 8 (CoBit.s1 8 x)) 1085102592571150095 b3 (by omega)
  refine ⟨CoBit.s1 8 x, CoBit.s2 8 (CoBit.s1 8 x), z1, z2, z3, CoBit.bys 8 x, ⟨?_, ?_, ?_, ?_, ?_, ?_, ?_, ?_⟩⟩
  · refine Eq.trans (congrArg _ (congr (congrArg _ m1) m2)) ?_
    rw [← Int.natCast_add, h1, u64_in _ b1]
  · refine Eq.trans (congrArg _ (congr (congrArg _ m3) m4)) ?_
    rw [← Int.natCast_add, h2, u64_in _ b2]
  · rw [show ((CoBit.s2 8 (CoBit.s1 8 x) : Nat) : Int) / 16 + (CoBit.s2 8 (CoBit.s1 8 x) : Nat) = ((CoBit.s2 8 (CoBit.s1 8 x) / 16 + CoBit.s2 8 (CoBit.s1 8 x) : Nat) : Int) by rw [Int.natCast_add, Int.natCast_ediv]; rfl, u64_in _ b3]
    exact m5.trans (congrArg _ h3)
  · rw [show ((CoBit.bys 8 x : Nat) : Int) + (CoBit.bys 8 x : Nat) / 256 = ((CoBit.bys 8 x + CoBit.bys 8 x / 256 : Nat) : Int) by rw [Int.natCast_add, Int.natCast_ediv]; rfl, ← g1, u64_in _ l1]
  · rw [show ((z1 : Nat) : Int) + (z1 : Nat) / 65536 = ((z1 + z1 / 65536 : Nat) : Int) by rw [Int.natCast_add, Int.natCast_ediv]; rfl, ← g2, u64_in _ l2]
  · rw [show ((z2 : Nat) : Int) + (z2 : Nat) / 4294967296 = ((z2 + z2 / 4294967296 : Nat) : Int) by rw [Int.natCast_add, Int.natCast_ediv]; rfl, ← g3, u64_in _ (by omega)]
  · exact IntWalk.i64_in _ ⟨by omega, by omega⟩
  · have := i64_and_nat z3 127 l3 (by omega)
    refine this.trans (congrArg _ ?_)
    rw [← g4]
    exact Nat.and_two_pow_sub_one_eq_mod z3 7

set_option maxHeartbeats 1000000 in
theorem ones_any (x : Nat) (hx : x < 18446744073709551616) (w : World) :
    Calls Tryd.prog 132 #[.int .u64 x] w fun e w' => e = .returned (.int .i64 (CoBit.pop x : Nat)) ∧ w = w' := by
  obtain ⟨a, b, z1, z2, z3, y, e1, e2, e3, e4, e5, e6, e7, e8⟩ := pops x hx
  generalize CoBit.pop x = p at *
  go_enter Tryd.func132, Tryd.ntmps132
  go_wp2
  go_ret
  exact ⟨rfl, rfl⟩

/-- The table of math/bits is in its variable. -/
def Tab (w : World) : Prop := TabAt 0 Lib.deBruijn64tab w
theorem Tab.below {w w' : World} {b : Nat} (h : Tab w) (hb : Below b w w') (hB : 0 < b) : Tab w' := fun j hj => (hb.cell (p := ⟨0, j, none⟩) hB).trans (h j hj)

set_option maxHeartbeats 1000000 in
theorem tz_core (x k idx : Nat) (w : World) (hx0 : ((x : Int) == 0) = false)
    (key : IntKind.u64.wrap (bits BinOp.and IntKind.u64 (x : Int) (IntKind.u64.wrap (-(x : Int))) * 285870213051353865) / 288230376151711744 = (idx : Int))
    (hi : idx < 64) (hk : k < 64) (hcell : w.cell? ⟨0, idx, none⟩ = some (.int .u8 k)) :
    Calls Tryd.prog 107 #[.int .u64 x] w fun e w' => e = .returned (.int .i64 k) ∧ w = w' := by
  go_enter Tryd.func107, Tryd.ntmps107
  go_wp2_with (simp only [key])
  go_ret
  exact ⟨rfl, rfl⟩
theorem tz_any (x : Nat) (hx0 : 0 < x) (hx : x < 18446744073709551616) (w : World) (hT : Tab w) :
    Calls Tryd.prog 107 #[.int .u64 x] w fun e w' => e = .returned (.int .i64 (Lib.ctz 64 x : Nat)) ∧ w = w' := by
  obtain ⟨hlow, hk⟩ := Lib.lowest_bit 64 x (by omega) hx
  obtain ⟨hi, htab⟩ := Lib.deBruijn64_at _ hk
  have hcell := hT _ hi
  rw [htab] at hcell
  exact tz_core x _ _ w (by simp; omega) (tz64_key x _ hx (by omega) hlow) hi hk hcell
theorem ctz_lt (x : Nat) (hx0 : 0 < x) (hx : x < 18446744073709551616) : Lib.ctz 64 x < 64 := (Lib.lowest_bit 64 x (by omega) hx).2

set_option maxHeartbeats 400000 in
theorem count_any (x : Nat) (hx : x < 18446744073709551616) (w : World) :
    Calls Tryd.prog 112 #[.int .u64 x] w fun e w' => e = .returned (.int .i64 (CoBit.pop x : Nat)) ∧ w = w' := by
  go_enter Tryd.func112, Tryd.ntmps112
  go_wp2_with fail
  refine (ones_any x hx _).mono ?_
  rintro e w' ⟨rfl, rfl⟩
  go_wp2
  go_ret
  exact ⟨rfl, rfl⟩
theorem two_pow_lt {v : Nat} (h : v < 64) : 2 ^ v < 18446744073709551616 := by
  have := Nat.pow_lt_pow_right (a := 2) (by omega) h
  simpa using this
theorem wrap_pow {v : Nat} (h : v < 64) : IntKind.u64.wrap ((2 : Int) ^ v) = ((2 ^ v : Nat) : Int) := by
  rw [show (2 : Int) ^ v = ((2 ^ v : Nat) : Int) by rw [Int.natCast_pow]; rfl]
  exact u64_in _ (two_pow_lt h)
theorem wrap_pow1 {v : Nat} (h : v < 64) : IntKind.u64.wrap (IntKind.u64.wrap ((2 : Int) ^ v) - 1) = ((2 ^ v - 1 : Nat) : Int) := by
  have h1 := two_pow_lt h
  have h2 : 0 < 2 ^ v := Nat.two_pow_pos v
  rw [wrap_pow h, show ((2 ^ v : Nat) : Int) - 1 = ((2 ^ v - 1 : Nat) : Int) by omega]
  exact u64_in _ (by omega)
set_option maxHeartbeats 400000 in
theorem bit_any (v : Nat) (hv : v < 64) (w : World) :
    Calls Tryd.prog 97 #[.int .i64 v] w fun e w' => e = .returned (.int .u64 (CoBit.bitN v : Nat)) ∧ w = w' := by
  have h2 := two_pow_lt hv
  go_enter Tryd.func97, Tryd.ntmps97
  go_wp2
  go_ret
  exact ⟨congrArg Ending.returned (congrArg (Value.int .u64) (wrap_pow hv)), rfl⟩
set_option maxHeartbeats 400000 in
theorem all_any (n : Nat) (hn : n ≤ 64) (w : World) :
    Calls Tryd.prog 94 #[.int .i64 n] w fun e w' => e = .returned (.int .u64 (2 ^ n - 1 : Nat)) ∧ w = w' := by
  by_cases h0 : n = 0
  · subst h0
    go_enter Tryd.func94, Tryd.ntmps94
    go_wp2
    go_ret
    exact ⟨rfl, rfl⟩
  · by_cases h1 : n = 64
    · subst h1
      go_enter Tryd.func94, Tryd.ntmps94
      go_wp2
      go_ret
      exact ⟨rfl, rfl⟩
    · have h2 := two_pow_lt (v := n) (by omega)
      go_enter Tryd.func94, Tryd.ntmps94
      go_wp2
      go_ret
      exact ⟨congrArg Ending.returned (congrArg (Value.int .u64) (wrap_pow1 (by omega))), rfl⟩
end Go.Proofs.YticekkjambkifaaDoor

/- Plain maths on sets of nodes as bits. -/
set_option linter.unusedVariables false
namespace CoBit
open Go

/-- The numbers from s on, n of them, whose bits are set. -/
def bitsIn (x s n : Nat) : List Nat := (List.range' s n).filter fun i => x.testBit i
/-- The set bits of a number of 64 bits, ascending. -/
def bl (x : Nat) : List Nat := bitsIn x 0 64
theorem mem_bitsIn {x s n i : Nat} : i ∈ bitsIn x s n ↔ s ≤ i ∧ i < s + n ∧ x.testBit i = true := by
  unfold bitsIn
  rw [List.mem_filter, List.mem_range'_1]
  exact and_assoc
theorem mem_bl {x i : Nat} : i ∈ bl x ↔ i < 64 ∧ x.testBit i = true := by
  unfold bl
  rw [mem_bitsIn]
  simp
theorem bitsIn_succ (x s n : Nat) : bitsIn x s (n + 1) = if x.testBit s then s :: bitsIn x (s + 1) n else bitsIn x (s + 1) n := by
  unfold bitsIn
  rw [List.range'_succ, List.filter_cons]
theorem bitsIn_congr {x y s n : Nat} (h : ∀ i, s ≤ i → i < s + n → x.testBit i = y.testBit i) : bitsIn x s n = bitsIn y s n := by
  unfold bitsIn
  refine List.filter_congr fun i hi => ?_
  rw [List.mem_range'_1] at hi
  exact h i hi.1 hi.2
theorem bitsIn_least {x y k : Nat} (h0 : ∀ i, i < k → x.testBit i = false) (h1 : x.testBit k = true) (h2 : ∀ i, y.testBit i = (x.testBit i && decide (i ≠ k))) :
    ∀ n s, s ≤ k → k < s + n → bitsIn x s n = k :: bitsIn y s n := by
  intro n
  induction n with
  | zero => intro s hs hk; omega
  | succ n ih =>
    intro s hs hk
    rw [bitsIn_succ, bitsIn_succ]
    by_cases he : s = k
    · subst he
      rw [h2, h1]
      simp
      exact bitsIn_congr fun i hi _ => by rw [h2]; simp; omega
    · rw [h2, h0 s (by omega)]
      simp
      exact ih (s + 1) (by omega) (by omega)
theorem low_bits {m : Nat} (h0 : 0 < m) (h : m < 18446744073709551616) : Lib.ctz 64 m < 64 ∧ (∀ i, i < Lib.ctz 64 m → m.testBit i = false) ∧ m.testBit (Lib.ctz 64 m) = true ∧ ∀ i, (m &&& (m - 1)).testBit i = (m.testBit i && decide (i ≠ Lib.ctz 64 m)) := by
  obtain ⟨j, hj, hk⟩ := Lib.ctzFrom_spec 64 m h0 h
  have e : Lib.ctz 64 m = Lib.ctzFrom 64 m := by unfold Lib.ctz; rw [if_neg (by omega)]
  rw [e]
  generalize Lib.ctzFrom 64 m = k at *
  have hp : 0 < 2 ^ k := Nat.two_pow_pos k
  have t1 : ∀ i, m.testBit i = if i < k then false else (2 * j + 1).testBit (i - k) := by
    intro i
    rw [hj, show 2 ^ k * (2 * j + 1) = 2 ^ k * (2 * j + 1) + 0 from rfl, Nat.testBit_two_pow_mul_add _ hp]
    simp
  have t2 : ∀ i, (m - 1).testBit i = if i < k then (2 ^ k - 1).testBit i else (2 * j).testBit (i - k) := by
    intro i
    rw [hj, show 2 ^ k * (2 * j + 1) - 1 = 2 ^ k * (2 * j) + (2 ^ k - 1) by rw [Nat.mul_add]; omega, Nat.testBit_two_pow_mul_add _ (by omega)]
  refine ⟨hk, ?_, ?_, ?_⟩
  · intro i hi
    rw [t1, if_pos hi]
  · rw [t1, if_neg (by omega), Nat.sub_self, Nat.testBit_zero]
    simp
  · intro i
    rw [Nat.testBit_and, t1, t2]
    by_cases hi : i < k
    · rw [if_pos hi]; simp
    · rw [if_neg hi, if_neg hi]
      by_cases he : i = k
      · subst he
        rw [Nat.sub_self, Nat.testBit_zero, Nat.testBit_zero]
        simp
      · obtain ⟨d, hd⟩ : ∃ d, i - k = d + 1 := ⟨i - k - 1, by omega⟩
        rw [hd, Nat.testBit_succ, Nat.testBit_succ, show (2 * j + 1) / 2 = j by omega, show 2 * j / 2 = j by omega]
        simp [he]
/-- Without its least bit. -/
theorem bl_step {m : Nat} (h0 : 0 < m) (h : m < 18446744073709551616) : bl m = Lib.ctz 64 m :: bl (m &&& (m - 1)) := by
  obtain ⟨h1, h2, h3, h4⟩ := low_bits h0 h
  exact bitsIn_least h2 h3 h4 64 0 (by omega) (by omega)
theorem and_pred_lt {m : Nat} (h0 : 0 < m) : m &&& (m - 1) < m := Nat.lt_of_le_of_lt Nat.and_le_right (by omega)
theorem bl_zero : bl 0 = [] := by
  unfold bl bitsIn
  rw [List.filter_eq_nil_iff]
  intro i _
  simp
theorem bsum_length (n s x : Nat) : bsum n (x / 2 ^ s) = (bitsIn x s n).length := by
  induction n generalizing s with
  | zero => simp [bsum, bitsIn]
  | succ n ih =>
    rw [bsum, bitsIn_succ, Nat.div_div_eq_div_mul, show 2 ^ s * 2 = 2 ^ (s + 1) from (Nat.pow_succ ..).symm, ih]
    have : x.testBit s = decide (x / 2 ^ s % 2 = 1) := by rw [Nat.testBit_eq_decide_div_mod_eq]
    rw [this]
    by_cases h : x / 2 ^ s % 2 = 1
    · simp [h]; omega
    · simp [h]; omega
theorem pop_bl (x : Nat) : pop x = (bl x).length := by
  have := bsum_length 64 0 x
  rw [Nat.pow_zero, Nat.div_one] at this
  exact this
theorem bl_length (x : Nat) : (bl x).length ≤ 64 := by rw [← pop_bl]; exact bsum_le 64 x
theorem bl_sorted (x : Nat) : (bl x).Pairwise (· < ·) := by
  unfold bl bitsIn
  exact List.Pairwise.filter _ (List.pairwise_lt_range' (s := 0) (n := 64))
theorem and_lt {x y : Nat} (h : y < 18446744073709551616) : x &&& y < 18446744073709551616 := Nat.lt_of_le_of_lt Nat.and_le_right h
theorem and_lt' {x y : Nat} (h : x < 18446744073709551616) : x &&& y < 18446744073709551616 := Nat.lt_of_le_of_lt Nat.and_le_left h
theorem or_lt {x y : Nat} (h : x < 18446744073709551616) (h' : y < 18446744073709551616) : x ||| y < 18446744073709551616 := by
  have := Nat.or_lt_two_pow (n := 64) (show x < 2 ^ 64 by simpa using h) (show y < 2 ^ 64 by simpa using h')
  simpa using this

/-- The sets of neighbours when an edge has been put in. -/
def putE (N : Nat) (rows : List Nat) (e : Int × Int) : List Nat :=
  if 0 ≤ e.1 ∧ e.1 < e.2 ∧ e.2 < N then (rows.set e.1.toNat (rows.getD e.1.toNat 0 ||| 2 ^ e.2.toNat)).set e.2.toNat ((rows.set e.1.toNat (rows.getD e.1.toNat 0 ||| 2 ^ e.2.toNat)).getD e.2.toNat 0 ||| 2 ^ e.1.toNat) else rows
/-- The sets of neighbours of the first N nodes. -/
def rowsL (N : Nat) (es : List (Int × Int)) : List Nat := es.foldl (putE N) (List.replicate N 0)
theorem putE_length (N : Nat) (rows : List Nat) (e : Int × Int) : (putE N rows e).length = rows.length := by
  unfold putE; split <;> simp
theorem foldl_putE_length (N : Nat) (es : List (Int × Int)) (rows : List Nat) : (es.foldl (putE N) rows).length = rows.length := by
  induction es generalizing rows with
  | nil => rfl
  | cons e es ih => rw [List.foldl_cons, ih, putE_length]
theorem rowsL_length (N : Nat) (es : List (Int × Int)) : (rowsL N es).length = N := by rw [rowsL, foldl_putE_length]; simp
theorem rowsL_take {N : Nat} {es : List (Int × Int)} {k : Nat} {e : Int × Int} (h : es[k]? = some e) : rowsL N (es.take (k + 1)) = putE N (rowsL N (es.take k)) e := by
  obtain ⟨hk, rfl⟩ := List.getElem?_eq_some_iff.1 h
  unfold rowsL
  rw [List.take_succ_eq_append_getElem hk, List.foldl_append]; rfl
/-- A set without a node. -/
def clr (x b : Nat) : Nat := x &&& (18446744073709551615 - 2 ^ b)
theorem clr_lt {x b : Nat} (h : x < 18446744073709551616) : clr x b < 18446744073709551616 := and_lt' h
theorem clr_bit {x b : Nat} (hx : x < 18446744073709551616) (hb : b < 64) (i : Nat) : (clr x b).testBit i = (x.testBit i && decide (i ≠ b)) := by
  unfold clr
  have h1 : (2 : Nat) ^ b < 2 ^ 64 := Nat.pow_lt_pow_right (by omega) hb
  have h2 : 18446744073709551615 - 2 ^ b = 2 ^ 64 - (2 ^ b + 1) := by
    rw [show (2 : Nat) ^ 64 = 18446744073709551616 by decide +kernel]; omega
  rw [Nat.testBit_and, h2, Nat.testBit_two_pow_sub_succ h1, Nat.testBit_two_pow]
  by_cases hi : i < 64
  · simp [hi, eq_comm]
  · have : x.testBit i = false := Nat.testBit_lt_two_pow (Nat.lt_of_lt_of_le (show x < 2 ^ 64 by rw [show (2 : Nat) ^ 64 = 18446744073709551616 by decide +kernel]; exact hx) (Nat.pow_le_pow_right (by omega) (by omega)))
    simp [this]
theorem or_bit (x b i : Nat) : (x ||| 2 ^ b).testBit i = (x.testBit i || decide (i = b)) := by
  rw [Nat.testBit_or, Nat.testBit_two_pow]
  simp [eq_comm]
theorem all_bit (n i : Nat) : (2 ^ n - 1).testBit i = decide (i < n) := Nat.testBit_two_pow_sub_one n i
end CoBit

/- Words for slices of edges. -/
set_option linter.unusedVariables false
namespace Go.Proofs.YticekkjambkifaaDoor
open Go.RowKit

/-- The cells of edges. -/
def edgs (es : List (Int × Int)) : List Value := es.flatMap fun e => [.int .i64 e.1, .int .i64 e.2]
theorem edgs_cons (e : Int × Int) (es : List (Int × Int)) : edgs (e :: es) = .int .i64 e.1 :: .int .i64 e.2 :: edgs es := rfl
theorem edgs_nil : edgs [] = [] := rfl
theorem edgs_append (a b : List (Int × Int)) : edgs (a ++ b) = edgs a ++ edgs b := by simp [edgs]
theorem edgs_length (es : List (Int × Int)) : (edgs es).length = es.length * 2 := by
  induction es with
  | nil => rfl
  | cons e es ih => rw [edgs_cons]; simp [ih]; omega
theorem edgs_at {es : List (Int × Int)} {k : Nat} {e : Int × Int} (h : es[k]? = some e) : (edgs es)[k * 2]? = some (.int .i64 e.1) ∧ (edgs es)[k * 2 + 1]? = some (.int .i64 e.2) := by
  induction es generalizing k with
  | nil => simp at h
  | cons x es ih =>
    cases k with
    | zero => simp at h; subst h; simp [edgs_cons]
    | succ k =>
      have := ih (k := k) (by simpa using h)
      rw [edgs_cons, show (k + 1) * 2 = k * 2 + 1 + 1 by omega]
      simpa using this
theorem edgs_one (es : List (Int × Int)) : ∀ u ∈ edgs es, u.oneCell' = true := by
  intro u hu
  simp only [edgs, List.mem_flatMap] at hu
  obtain ⟨e, _, hu⟩ := hu
  simp at hu
  rcases hu with rfl | rfl <;> rfl

/-- The slice reads as the edges es. -/
def RE (w : World) (A : Option Addr) (n : Nat) (es : List (Int × Int)) : Prop := Reads w w.heap.size 2 A n (edgs es)
section
variable {w w' : World} {n : Nat} {A : Option Addr} {es : List (Int × Int)}
theorem RE.len (h : RE w A n es) : es.length = n := by have := h.1; rw [edgs_length] at this; omega
theorem RE.get {k : Nat} (h : RE w A n es) (hk : k < n) : ∃ ad u v, A = some ad ∧ ad.block < w.heap.size ∧ Hid (es[k]? = some (u, v)) ∧ w.cell? (ad.add (k * 2)) = some (.int .i64 u) ∧ w.cell? ⟨(ad.add (k * 2)).block, (ad.add (k * 2)).off + 1, none⟩ = some (.int .i64 v) := by
  obtain ⟨ad, e, hb, hc⟩ := h.2 (by omega)
  have hl := h.len
  have hx : es[k]? = some es[k] := List.getElem?_eq_getElem (by omega)
  obtain ⟨h1, h2⟩ := edgs_at hx
  exact ⟨ad, _, _, e, hb, Lib.hid hx, hc _ _ h1, by have := hc _ _ h2; rw [← add_of_add] at this; exact this⟩
theorem RE.below {b : Nat} (h : RE w A n es) (hb : Below b w w') (hB : w.heap.size ≤ b) : RE w' A n es := (Reads.below h hb hB).more hb.size
theorem RE.drew (h : RE w A n es) : RE w.drew A n es := h
theorem RE.drewN (h : RE w A n es) (k : Nat) : RE (w.drewN k) A n es := h
theorem RE.alloc (h : RE w A n es) (o : Obj) : RE (w.alloc o) A n es := (Reads.alloc h (Nat.le_refl _) o).more (by simp)
theorem RE.none_ : RE w A 0 [] := Reads.none_
end
theorem RE.kept {w w' : World} {n : Nat} {A : Option Addr} {es : List (Int × Int)} {row : Option Nat} (h : RE w A n es) (hg : w.grownBy w' row) (hne : ∀ ad, A = some ad → some ad.block ≠ row) : RE w' A n es :=
  ⟨h.1, fun hn => by
    obtain ⟨ad, e, hb, hc⟩ := (show Reads w w.heap.size 2 A n (edgs es) from h).2 hn
    exact ⟨ad, e, Nat.lt_of_lt_of_le hb hg.size, fun j u hu => (World.cell?_of_block (hg.block (ad.add j).block (by rw [block_of_add]; exact hb) (by rw [block_of_add]; exact hne ad e))).trans (hc j u hu)⟩⟩
theorem edge_info : (Tryd.prog.info? 73).map (fun i => (i.zero, i.size, i.bytes)) = some (some (.agg #[.int .i64 0, .int .i64 0]), 2, 16) := by kernel_rfl
/-- The slice v is the call's own, and holds the edges es. -/
def OE (w : World) (B : Nat) (v : Value) (es : List (Int × Int)) : Prop := w.ownsRow B 73 2 v es.length (edgs es)
section
variable {w w' : World} {B : Nat} {v : Value} {es : List (Int × Int)}
theorem OE.nil_ : OE w B (.slice none 0 0) [] := World.ownsRow_nil _ _ _ _
theorem OE.alloc (h : OE w B v es) (o : Obj) : OE (w.alloc o) B v es := World.ownsRow.alloc h o
theorem OE.kept {row : Option Nat} (h : OE w B v es) (hg : w.grownBy w' row) (hne : v.ownBlock = none ∨ v.ownBlock ≠ row) : OE w' B v es := World.ownsRow.kept h hg hne
theorem OE.block_lt (h : OE w B v es) : ∀ k, v.ownBlock = some k → B ≤ k ∧ k < w.heap.size := World.ownsRow.lt h
theorem OE.form (h : OE w B v es) : ∃ A n c, v = .slice A n c ∧ n = es.length ∧ n ≤ c ∧ c ≤ maxLen ∧ RE w A n es ∧ Fr B A := by
  obtain ⟨A, c, rfl, h1, h2⟩ := own_form h
  exact ⟨A, _, c, rfl, rfl, h1, h2, Reads.of_own h, own_fresh h⟩
theorem OE.re {A : Option Addr} {n c : Nat} (h : OE w B (.slice A n c) es) (hn : n = es.length) : RE w A n es ∧ n ≤ c ∧ Fr B A := by
  subst hn
  obtain ⟨A', c', hv, h1, _⟩ := own_form h
  injection hv with _ _ hc
  exact ⟨Reads.of_own h, by rw [hc]; exact h1, own_fresh h⟩
theorem OE.set_far (h : OE w B v es) {p : Addr} (hp : p.block < B) (u : Value) : OE (w.setCell p u) B v es := ownsRow_setCell_below h hp u
end
theorem news_edge (w : World) (t : TypeId) (a b : Int) : Reads (w.alloc (.cells #[.int .i64 a, .int .i64 b] t)) (w.alloc (.cells #[.int .i64 a, .int .i64 b] t)).heap.size 2 (some ⟨w.heap.size, 0, none⟩) 1 (edgs [(a, b)]) :=
  ⟨rfl, fun _ => ⟨_, rfl, by simp, World.news_of_block (cs := #[.int .i64 a, .int .i64 b]) (t := t) (fr := (0, 0)) (heap_alloc_new w _)⟩⟩
/-- append of one edge. -/
theorem wpList_pushE {ops : Array Oper} {rest : List Oper} {o : Oper} {a : Act} {Q : Exit → Act → World → Prop} {w : World} {T B H : Nat} {v : Value} {es : List (Int × Int)} {x y : Int}
    (hgd : o.guard = none) (s z : Operand) (ho : o.op = .call { callee := .builtin .append, args := #[s, z], argTypes := #[23, 23] })
    (hs : a.eval s = v) (hx : a.eval z = .slice (some ⟨H, 0, none⟩) 1 1) (hH : H = w.heap.size) (hown : OE w B v es) (hn : es.length ≤ 1099511627776) (hB : B ≤ w.heap.size)
    (h : ∀ v' w', OE w' B v' (es ++ [(x, y)]) → Below B w w' → w.grownBy w' v.ownBlock → wpList Tryd.prog ops Q rest (a.put o.dst v') w') :
    wpList Tryd.prog ops Q (o :: rest) a (w.alloc (.cells #[.int .i64 x, .int .i64 y] T)) := by
  obtain ⟨i0, hi0, hz0, hz1, hz2⟩ := info_parts edge_info
  subst hH
  refine wpList_append_any _ hgd s z _ ho B 73 i0 _ 2 16 Tryd.underlying23 hi0 hz0 hz1 hz2 rfl (by omega) v es.length (edgs es) hs (hown.alloc _) _ _ 1 1 (edgs [(x, y)]) hx (news_edge w T x y) (edgs_one _) (by unfold maxLen; omega) (by omega) (by simp; omega) ?_
  intro v' w' h1 h2 _
  refine h v' w' ?_ (below_own ((Below.refl _ _).alloc hB _) h2 (by simp; omega) (own_block hown)) ?_
  · unfold OE
    rw [List.length_append, edgs_append]; exact h1
  · refine ⟨h2.os, h2.tape, h2.output, Nat.le_trans (by simp) h2.size, fun k hk hne => (h2.block k (by simp; omega) hne).trans (Below.heap_alloc w _ k hk)⟩
end Go.Proofs.YticekkjambkifaaDoor

/- Plain facts on two-word numbers, greatest common divisors and reduced fractions. No program is in sight. -/
set_option linter.unusedVariables false
namespace CoRat
open Go

def hi (u : Nat) : Int := ((u / 18446744073709551616 : Nat) : Int)
def lo (u : Nat) : Int := ((u % 18446744073709551616 : Nat) : Int)
def W (h l : Int) (u : Nat) : Prop := h = hi u ∧ l = lo u
def B : Nat := 340282366920938463463374607431768211456
theorem W.mk (u : Nat) : W (hi u) (lo u) u := ⟨rfl, rfl⟩
theorem W.val {h l : Int} {u : Nat} (x : W h l u) : (u : Int) = h * 18446744073709551616 + l := by
  obtain ⟨rfl, rfl⟩ := x; unfold hi lo; omega
theorem W.bd {h l : Int} {u : Nat} (x : W h l u) (hu : u < B) : 0 ≤ h ∧ h ≤ 18446744073709551615 ∧ 0 ≤ l ∧ l ≤ 18446744073709551615 := by
  obtain ⟨rfl, rfl⟩ := x; unfold hi lo; unfold B at hu; omega
theorem W.of {h l : Int} {u : Nat} (e : (u : Int) = h * 18446744073709551616 + l) (h0 : 0 ≤ h) (l0 : 0 ≤ l) (l1 : l ≤ 18446744073709551615) : W h l u := by
  unfold W hi lo; omega
theorem W.low {l : Int} {u : Nat} (e : (u : Int) = l) (l1 : l ≤ 18446744073709551615) : W 0 l u := W.of (by omega) (by omega) (by omega) l1
theorem W.zero : W 0 0 0 := ⟨rfl, rfl⟩
theorem W.inj {h l : Int} {u v : Nat} (x : W h l u) (y : W h l v) : u = v := by
  have := x.val; have := y.val; omega
theorem hi_of {h l : Int} {u : Nat} (e : (u : Int) = h * 18446744073709551616 + l) (h0 : 0 ≤ h) (l0 : 0 ≤ l) (l1 : l ≤ 18446744073709551615) : h = hi u := (W.of e h0 l0 l1).1
theorem lo_of {h l : Int} {u : Nat} (e : (u : Int) = h * 18446744073709551616 + l) (h0 : 0 ≤ h) (l0 : 0 ≤ l) (l1 : l ≤ 18446744073709551615) : l = lo u := (W.of e h0 l0 l1).2

/-- 'x | y' of words that share no bit. -/
theorem or_join (x y : Int) (i : Nat) (hx0 : 0 ≤ x) (hx1 : x < 18446744073709551616) (hy0 : 0 ≤ y) (hy1 : y < 18446744073709551616) (hx : x.toNat % 2 ^ i = 0) (hy : y.toNat < 2 ^ i) :
    bits .or .u64 x y = x + y := by
  rw [u64_or x y hx0 hx1 hy0 hy1, nat_join i _ _ hx hy]; omega
theorem or_join' (x y : Int) (i : Nat) (hx0 : 0 ≤ x) (hx1 : x < 18446744073709551616) (hy0 : 0 ≤ y) (hy1 : y < 18446744073709551616) (hx : x.toNat % 2 ^ i = 0) (hy : y.toNat < 2 ^ i) :
    bits .or .u64 y x = y + x := by
  rw [u64_or y x hy0 hy1 hx0 hx1, Nat.or_comm, nat_join i _ _ hx hy]; omega
theorem and_one (x : Int) (hx0 : 0 ≤ x) (hx1 : x < 18446744073709551616) : bits .and .u64 x 1 = x % 2 := by
  rw [u64_and x 1 hx0 hx1 (by omega) (by omega)]
  show ((x.toNat &&& 1 : Nat) : Int) = _
  rw [nat_mask1]; omega
theorem and_mask62 (x : Int) (hx0 : 0 ≤ x) (hx1 : x < 18446744073709551616) : bits .and .u64 x 4611686018427387903 = x % 4611686018427387904 := by
  rw [u64_and x _ hx0 hx1 (by omega) (by omega)]
  show ((x.toNat &&& 4611686018427387903 : Nat) : Int) = _
  have := Nat.and_two_pow_sub_one_eq_mod x.toNat 62
  rw [show (2:Nat) ^ 62 - 1 = 4611686018427387903 from by decide, show (2:Nat) ^ 62 = 4611686018427387904 from by decide] at this
  rw [this]; omega

/- ### what a half, a double, a sum and a difference of two words are -/
theorem half_W {h l : Int} {u : Nat} (x : W h l u) (hu : u < B) :
    W (h / 2) (bits .or .u64 (l / 2) (IntKind.u64.wrap (h * 9223372036854775808))) (u / 2) := by
  have b := x.bd hu; have v := x.val
  rw [IntKind.wrap_u64, or_join' (h * 9223372036854775808 % 18446744073709551616) (l / 2) 63 (by omega) (by omega) (by omega) (by omega) (by omega) (by omega)]
  exact W.of (by omega) (by omega) (by omega) (by omega)
theorem twice_W {h l : Int} {u : Nat} (x : W h l u) (hu : u * 2 < B) :
    W (bits .or .u64 (IntKind.u64.wrap (h * 2)) (l / 9223372036854775808)) (IntKind.u64.wrap (l * 2)) (u * 2) := by
  have b := x.bd (by omega); have v := x.val
  unfold B at hu
  rw [IntKind.wrap_u64, IntKind.wrap_u64, or_join (h * 2 % 18446744073709551616) (l / 9223372036854775808) 1 (by omega) (by omega) (by omega) (by omega) (by omega) (by omega)]
  exact W.of (by omega) (by omega) (by omega) (by omega)
theorem below_W {h l h' l' : Int} {u v : Nat} (x : W h l u) (y : W h' l' v) (hu : u < B) (hv : v < B) : (h < h' ∨ h = h' ∧ l < l') ↔ u < v := by
  have b := x.bd hu; have c := y.bd hv; have e := x.val; have f := y.val
  omega
theorem even_W {h l : Int} {u : Nat} (x : W h l u) (hu : u < B) : bits .and .u64 l 1 = 0 ↔ u % 2 = 0 := by
  have b := x.bd hu; have v := x.val
  rw [and_one l (by omega) (by omega)]; omega
theorem zero_W {h l : Int} {u : Nat} (x : W h l u) (hu : u < B) : (h = 0 ∧ l = 0) ↔ u = 0 := by
  have b := x.bd hu; have v := x.val
  omega

/- ### the reduced fraction -/
def M : Nat := 1152921504606846976
def fits (a b : Nat) : Bool := decide (a / Nat.gcd a b ≤ M ∧ b / Nat.gcd a b ≤ M)
def redN (neg : Bool) (a b : Nat) : Int := if fits a b then (if neg then -((a / Nat.gcd a b : Nat) : Int) else ((a / Nat.gcd a b : Nat) : Int)) else 0
def redD (a b : Nat) : Int := if fits a b then ((b / Nat.gcd a b : Nat) : Int) else 0
def redE (a b : Nat) : Int := if fits a b then 0 else 3

def inM (n d : Int) : Bool := decide (-1152921504606846976 ≤ n ∧ n ≤ 1152921504606846976 ∧ d ≤ 1152921504606846976)
def ckN (n d : Int) : Int := if inM n d then n else 0
def ckD (n d : Int) : Int := if inM n d then d else 0
def ckE (n d : Int) : Int := if inM n d then 0 else 3
def sg (s : Bool) (z : Int) : Int := if s then -z else z
theorem inM_fits (s : Bool) (u v : Nat) : inM (sg s ((u / Nat.gcd u v : Nat) : Int)) ((v / Nat.gcd u v : Nat) : Int) = fits u v := by
  unfold inM fits M sg
  generalize u / Nat.gcd u v = a
  generalize v / Nat.gcd u v = b
  rw [decide_eq_decide]
  cases s <;> simp <;> omega
theorem ck_red (s : Bool) (u v : Nat) : ckN (sg s ((u / Nat.gcd u v : Nat) : Int)) ((v / Nat.gcd u v : Nat) : Int) = redN s u v ∧ ckD (sg s ((u / Nat.gcd u v : Nat) : Int)) ((v / Nat.gcd u v : Nat) : Int) = redD u v ∧
    ckE (sg s ((u / Nat.gcd u v : Nat) : Int)) ((v / Nat.gcd u v : Nat) : Int) = redE u v := by
  unfold ckN ckD ckE redN redD redE
  rw [inM_fits]
  refine ⟨?_, rfl, rfl⟩
  cases fits u v <;> cases s <;> rfl
theorem redN_zero (s t : Bool) (v : Nat) : redN s 0 v = redN t 0 v := by
  unfold redN
  cases fits 0 v <;> cases s <;> cases t <;> simp
theorem not_fits (u v : Nat) (h : ¬ (u / Nat.gcd u v < 4611686018427387904 ∧ v / Nat.gcd u v < 4611686018427387904)) (s : Bool) : redN s u v = 0 ∧ redD u v = 0 ∧ redE u v = 3 := by
  have : fits u v = false := by
    unfold fits M
    rw [decide_eq_false_iff_not]
    omega
  unfold redN redD redE
  rw [this]
  exact ⟨rfl, rfl, rfl⟩
theorem tdiv_sg (a g : Nat) (s : Bool) : (sg s (a : Int)).tdiv (g : Int) = sg s ((a / g : Nat) : Int) := by
  cases s
  · simp [sg, Int.tdiv_eq_ediv_of_nonneg]
  · simp [sg, Int.neg_tdiv, Int.tdiv_eq_ediv_of_nonneg]
end CoRat
