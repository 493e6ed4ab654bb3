/- Words for slices that a call makes by their length: numbers and sets of bits in a block of their own. -/
import Derived.Test.YtdibfecejgjfmaaGreatDoorMem
import Derived.Test.YtdibfecejgjfmaaGreatDoorBitA
import Derived.Test.YtdibfecejgjfmaaGreatDoorMskM
import Derived.Test.YtdibfecejgjfmaaGreatDoorGraB
set_option linter.unusedVariables false
namespace Go.Proofs.YtdibfecejgjfmaaGreatDoor
open Go.RowKit

def u64s (xs : List Nat) : List Value := xs.map fun x : Nat => Value.int .u64 (x : Int)
/-- Block g holds the numbers xs. -/
def AI (w : World) (g : Nat) (xs : List Int) : Prop := Blk w g 3 (ints xs).toArray
/-- Block g holds the sets xs. -/
def AU (w : World) (g : Nat) (xs : List Nat) : Prop := Blk w g 72 (u64s xs).toArray
section
variable {w w' : World} {g : Nat} {xs : List Int} {us : List Nat}
theorem AI.lt (h : AI w g xs) : g < w.heap.size := Blk.lt h
theorem AI.cell (h : AI w g xs) {i : Nat} (hi : i < xs.length) : w.cell? ⟨g, i, none⟩ = some (.int .i64 (xs.getD i 0)) := by
  rw [Blk.cell h i]
  simp [ints, List.getD_eq_getElem?_getD, hi]
theorem AI.frozen (h : AI w g xs) (i : Nat) : w.frozen? ⟨g, i, none⟩ = false := Blk.frozen h i
theorem AI.set (h : AI w g xs) (i : Nat) (v : Int) : AI (w.setCell ⟨g, i, none⟩ (.int .i64 v)) g (xs.set i v) := by
  have := Blk.set h i (.int .i64 v)
  unfold AI
  have e : (ints xs).toArray.setIfInBounds i (.int .i64 v) = (ints (xs.set i v)).toArray := by simp [ints, List.map_set]
  rwa [e] at this
theorem AI.far (h : AI w g xs) {p : Addr} (hp : g ≠ p.block) (u : Value) : AI (w.setCell p u) g xs := Blk.far h hp u
theorem AI.below {B : Nat} (h : AI w g xs) (hb : Below B w w') (hg : g < B) : AI w' g xs := Blk.below h hb hg
theorem AI.grown {row : Option Nat} (h : AI w g xs) (hb : w.grownBy w' row) (hg : some g ≠ row) : AI w' g xs := Blk.grown h hb hg
theorem AI.alloc (h : AI w g xs) (o : Obj) : AI (w.alloc o) g xs := Blk.alloc h o
theorem AI.drew (h : AI w g xs) : AI w.drew g xs := h
theorem AI.drewN (h : AI w g xs) (n : Nat) : AI (w.drewN n) g xs := h
theorem AI.ri (h : AI w g xs) {n : Nat} (hn : n = xs.length) : RI w (some ⟨g, 0, none⟩) n xs := by
  subst hn
  refine ⟨by rw [ints_length]; omega, fun _ => ⟨_, rfl, h.lt, fun j u hu => ?_⟩⟩
  have hc := Blk.cell h j
  have : ((⟨g, 0, none⟩ : Addr).add j) = ⟨g, j, none⟩ := by unfold Addr.add; split <;> simp_all
  rw [this, hc]
  simpa using hu
theorem AU.lt (h : AU w g us) : g < w.heap.size := Blk.lt h
theorem AU.cell (h : AU w g us) {i : Nat} (hi : i < us.length) : w.cell? ⟨g, i, none⟩ = some (.int .u64 ((us.getD i 0 : Nat) : Int)) := by
  rw [Blk.cell h i]
  simp [u64s, List.getD_eq_getElem?_getD, hi]
theorem AU.frozen (h : AU w g us) (i : Nat) : w.frozen? ⟨g, i, none⟩ = false := Blk.frozen h i
theorem AU.set (h : AU w g us) (i : Nat) (v : Nat) : AU (w.setCell ⟨g, i, none⟩ (.int .u64 (v : Int))) g (us.set i v) := by
  have := Blk.set h i (.int .u64 (v : Int))
  unfold AU
  have e : (u64s us).toArray.setIfInBounds i (.int .u64 (v : Int)) = (u64s (us.set i v)).toArray := by simp [u64s, List.map_set]
  rwa [e] at this
theorem AU.far (h : AU w g us) {p : Addr} (hp : g ≠ p.block) (u : Value) : AU (w.setCell p u) g us := Blk.far h hp u
theorem AU.below {B : Nat} (h : AU w g us) (hb : Below B w w') (hg : g < B) : AU w' g us := Blk.below h hb hg
theorem AU.grown {row : Option Nat} (h : AU w g us) (hb : w.grownBy w' row) (hg : some g ≠ row) : AU w' g us := Blk.grown h hb hg
theorem AU.alloc (h : AU w g us) (o : Obj) : AU (w.alloc o) g us := Blk.alloc h o
theorem AU.drew (h : AU w g us) : AU w.drew g us := h
theorem AU.drewN (h : AU w g us) (n : Nat) : AU (w.drewN n) g us := h
end
theorem blk_of_own {w : World} {B g n : Nat} {e : TypeId} {xs : List Value} (h : w.ownsRow B e 1 (.slice (some ⟨g, 0, none⟩) n n) n xs) : Blk w g e xs.toArray := by
  rcases h.2 with ⟨hv, _⟩ | ⟨g', cap, cur, hv, _, hh, _, _, hs, ht⟩
  · cases hv
  · injection hv with h1 h2 h3
    injection h1 with h1
    injection h1 with h1
    subst h1; subst h3
    unfold Blk
    rw [hh]
    have : cur = xs.toArray := by
      rw [← ht, List.take_of_length_le (by simp [hs])]
    rw [this]
theorem uint_info : (Tryz.prog.info? 72).map (fun i => (i.zero, i.size, i.bytes)) = some (some (.int .u64 0), 1, 8) := by kernel_rfl
/-- make([]int, n) -/
theorem wpList_makeI {ops : Array Oper} {rest : List Oper} {o : Oper} {a : Act} {Q : Exit → Act → World → Prop} {w : World} {L C : Int} {n : Nat}
    (hg : o.guard = none) (l c : Operand) (hop : o.op = Op.makeSlice 25 l c) (hl : a.eval l = .int .i64 L) (hc : a.eval c = .int .i64 C) (hL : L = (n : Int)) (hC : C = (n : Int)) (hn : n ≤ 1099511627776)
    (h : ∀ w', AI w' w.heap.size (List.replicate n 0) → w.grownBy w' none → wpList Tryz.prog ops Q rest (a.put o.dst (.slice (some ⟨w.heap.size, 0, none⟩) n n)) w') :
    wpList Tryz.prog ops Q (o :: rest) a w := by
  obtain ⟨i0, hi0, hz0, hz1, hz2⟩ := info_parts int_info
  refine wpList_make_full w hg l c 25 hop w.heap.size 3 i0 _ 1 Tryz.underlying25 hi0 hz0 hz1 _ _ L C n hl hc hL hC (by rw [hz2]; omega) (by unfold maxLen; omega) (Nat.le_refl _) ?_
  intro w' h1 h2
  refine h w' ?_ h2
  have := blk_of_own h1
  rw [show (Value.int IntKind.i64 0).cells = #[.int .i64 0] from rfl, Nat.mul_one, toList_madeCells_one] at this
  unfold AI
  have e : ints (List.replicate n 0) = List.replicate n (.int .i64 0) := List.map_replicate
  rw [e]; exact this
/-- make([]uint64, n) -/
theorem wpList_makeU {ops : Array Oper} {rest : List Oper} {o : Oper} {a : Act} {Q : Exit → Act → World → Prop} {w : World} {L C : Int} {n : Nat}
    (hg : o.guard = none) (l c : Operand) (hop : o.op = Op.makeSlice 70 l c) (hl : a.eval l = .int .i64 L) (hc : a.eval c = .int .i64 C) (hL : L = (n : Int)) (hC : C = (n : Int)) (hn : n ≤ 1099511627776)
    (h : ∀ w', AU w' w.heap.size (List.replicate n 0) → w.grownBy w' none → wpList Tryz.prog ops Q rest (a.put o.dst (.slice (some ⟨w.heap.size, 0, none⟩) n n)) w') :
    wpList Tryz.prog ops Q (o :: rest) a w := by
  obtain ⟨i0, hi0, hz0, hz1, hz2⟩ := info_parts uint_info
  refine wpList_make_full w hg l c 70 hop w.heap.size 72 i0 _ 1 Tryz.underlying70 hi0 hz0 hz1 _ _ L C n hl hc hL hC (by rw [hz2]; omega) (by unfold maxLen; omega) (Nat.le_refl _) ?_
  intro w' h1 h2
  refine h w' ?_ h2
  have := blk_of_own h1
  rw [show (Value.int IntKind.u64 0).cells = #[.int .u64 0] from rfl, Nat.mul_one, toList_madeCells_one] at this
  unfold AU
  have e : u64s (List.replicate n 0) = List.replicate n (.int .u64 0) := List.map_replicate
  rw [e]; exact this
theorem grown_none_below {w w' : World} (h : w.grownBy w' none) (B : Nat) (hB : B ≤ w.heap.size) : Below B w w' := (Below.refl _ _).grown h hB (fun k hk => by cases hk)
theorem grown_setB {w w' : World} {g : Nat} (h : w.grownBy w' (some g)) (i : Nat) (u : Value) : w.grownBy (w'.setCell ⟨g, i, none⟩ u) (some g) :=
  ⟨h.os, h.tape, h.output, by simpa [World.setCell] using h.size, fun k hk hne => (Below.heap_setCell w' ⟨g, i, none⟩ u k (fun e => hne (by rw [e]))).trans (h.block k hk hne)⟩
def bools (xs : List Bool) : List Value := xs.map Value.bool
/-- Block g holds the truth values xs. -/
def AB (w : World) (g : Nat) (xs : List Bool) : Prop := Blk w g 4 (bools xs).toArray
section
variable {w w' : World} {g : Nat} {bs : List Bool}
theorem AB.lt (h : AB w g bs) : g < w.heap.size := Blk.lt h
theorem AB.cell (h : AB w g bs) {i : Nat} (hi : i < bs.length) : w.cell? ⟨g, i, none⟩ = some (.bool (bs.getD i false)) := by
  rw [Blk.cell h i]
  simp [bools, List.getD_eq_getElem?_getD, hi]
theorem AB.frozen (h : AB w g bs) (i : Nat) : w.frozen? ⟨g, i, none⟩ = false := Blk.frozen h i
theorem AB.set (h : AB w g bs) (i : Nat) (v : Bool) : AB (w.setCell ⟨g, i, none⟩ (.bool v)) g (bs.set i v) := by
  have := Blk.set h i (.bool v)
  unfold AB
  have e : (bools bs).toArray.setIfInBounds i (.bool v) = (bools (bs.set i v)).toArray := by simp [bools, List.map_set]
  rwa [e] at this
theorem AB.below {B : Nat} (h : AB w g bs) (hb : Below B w w') (hg : g < B) : AB w' g bs := Blk.below h hb hg
theorem AB.alloc (h : AB w g bs) (o : Obj) : AB (w.alloc o) g bs := Blk.alloc h o
theorem AB.drewN (h : AB w g bs) (n : Nat) : AB (w.drewN n) g bs := h
end
theorem bool_info : (Tryz.prog.info? 4).map (fun i => (i.zero, i.size, i.bytes)) = some (some (.bool false), 1, 1) := by kernel_rfl
/-- make([]bool, n) -/
theorem wpList_makeB {ops : Array Oper} {rest : List Oper} {o : Oper} {a : Act} {Q : Exit → Act → World → Prop} {w : World} {L C : Int} {n : Nat}
    (hg : o.guard = none) (l c : Operand) (hop : o.op = Op.makeSlice 102 l c) (hl : a.eval l = .int .i64 L) (hc : a.eval c = .int .i64 C) (hL : L = (n : Int)) (hC : C = (n : Int)) (hn : n ≤ 1099511627776)
    (h : ∀ w', AB w' w.heap.size (List.replicate n false) → w.grownBy w' none → wpList Tryz.prog ops Q rest (a.put o.dst (.slice (some ⟨w.heap.size, 0, none⟩) n n)) w') :
    wpList Tryz.prog ops Q (o :: rest) a w := by
  obtain ⟨i0, hi0, hz0, hz1, hz2⟩ := info_parts bool_info
  refine wpList_make_full w hg l c 102 hop w.heap.size 4 i0 _ 1 Tryz.underlying102 hi0 hz0 hz1 _ _ L C n hl hc hL hC (by rw [hz2]; omega) (by unfold maxLen; omega) (Nat.le_refl _) ?_
  intro w' h1 h2
  refine h w' ?_ h2
  have := blk_of_own h1
  rw [show (Value.bool false).cells = #[.bool false] from rfl, Nat.mul_one, toList_madeCells_one] at this
  unfold AB
  have e : bools (List.replicate n false) = List.replicate n (.bool false) := List.map_replicate
  rw [e]; exact this
end Go.Proofs.YtdibfecejgjfmaaGreatDoor

namespace Go.Proofs.YtdibfecejgjfmaaGreatDoor
open Go.RowKit

theorem Tab.lt {w : World} (h : Tab w) : 0 < w.heap.size := World.block_lt_of_cell? w _ (h 0 (by decide))
theorem Tab.keep {w w' : World} (h : Tab w) (hb : Below w.heap.size w w') : Tab w' := h.below hb h.lt
theorem Tab.drewN {w : World} (h : Tab w) (n : Nat) : Tab (w.drewN n) := h
theorem Tab.alloc {w : World} (h : Tab w) (o : Obj) : Tab (w.alloc o) := h.keep ((Below.refl _ _).alloc (Nat.le_refl _) o)
theorem Tab.grown {w w' : World} {g : Nat} (h : Tab w) (hg : w.grownBy w' (some g)) (hne : 0 ≠ g) : Tab w' := fun j hj => (World.cell?_of_block (hg.block 0 h.lt (fun e => hne (by injection e)))).trans (h j hj)

/-- Naturals as numbers. -/
def nts (l : List Nat) : List Int := l.map fun i : Nat => (i : Int)
theorem nts_length (l : List Nat) : (nts l).length = l.length := List.length_map _
theorem nts_append (a b : List Nat) : nts (a ++ b) = nts a ++ nts b := List.map_append

set_option maxHeartbeats 1000000 in
theorem list_any (x : Nat) (hx : x < 18446744073709551616) (w : World) (hT : Tab w) :
    Calls Tryz.prog 56 #[.int .u64 x] w (RetI w (nts (CoBit.bl x))) := by
  have hlen := CoBit.bl_length x
  go_enter Tryz.func56, Tryz.ntmps56
  go_wp2
  go_loopw [0, 3] (fun s v wr => ∃ (m : Nat) (l : List Nat), s = .int .u64 m ∧ m < 18446744073709551616 ∧ Hid (CoBit.bl x = l ++ CoBit.bl m) ∧ l.length ≤ 64 ∧ OI wr w.heap.size v (nts l) ∧ Below w.heap.size w wr) (fun s _ _ => (intOf s).toNat)
  case atStart => exact ⟨x, [], rfl, hx, Lib.hid rfl, by simp, OI.nil_, Below.refl _ _⟩
  case round =>
    obtain ⟨m, l, rfl, hm, hl, hll, ho, hb⟩ := hrel
    have hs := hb.size
    have hTr := hT.keep hb
    by_cases h0 : 0 < m
    · have hz : ((m : Int) != 0) = true := by simp; omega
      have hst := CoBit.bl_step h0 hm
      have hl1 : CoBit.bl x = (l ++ [Lib.ctz 64 m]) ++ CoBit.bl (m &&& (m - 1)) := by rw [hl.out, hst]; simp
      have hl2 : (l ++ [Lib.ctz 64 m]).length ≤ 64 := by
        have := congrArg List.length hl1
        rw [List.length_append] at this
        omega
      have ho1 : nts (l ++ [Lib.ctz 64 m]) = nts l ++ [((Lib.ctz 64 m : Nat) : Int)] := nts_append _ _
      replace hl1 := Lib.hid hl1
      replace ho1 := Lib.hid ho1
      replace hl2 := Lib.hid hl2
      have hand := bits_and_u64_nat m (m - 1) hm (by omega)
      have hsub : IntKind.u64.wrap ((m : Int) - 1) = ((m - 1 : Nat) : Int) := by rw [show (m : Int) - 1 = ((m - 1 : Nat) : Int) by omega]; exact u64_in _ (by omega)
      have hlt := CoBit.and_pred_lt h0
      have hlt2 := CoBit.and_lt' (y := m - 1) hm
      have hnl := nts_length l
      replace hst := Lib.hid hst
      replace hnl := Lib.hid hnl
      go_wp2_with fail
      refine (tz_any m h0 hm _ hTr).mono ?_
      rintro e w1 ⟨rfl, rfl⟩
      generalize Lib.ctz 64 m = z at *
      generalize m &&& (m - 1) = m' at *
      go_wp2_with (at_builtin; refine wpList_push rfl _ _ rfl rfl rfl (by simp) ho (by rw [hnl.out]; omega) hs ?_; intro v' w' ho' hb' hg')
      have hb2 := hb.trans (hb'.mono (Nat.le_refl _))
      go_roundw
      case rel => exact ⟨m', l ++ [z], rfl, hlt2, hl1, hl2.out, by rw [ho1.out]; exact ho', hb2⟩
      case measure => simp [intOf]; omega
    · have hz : ((m : Int) != 0) = false := by simp; omega
      have hfin : RetI w (nts (CoBit.bl x)) (.returned u3) wr := by
        rw [hl.out, show m = 0 by omega, CoBit.bl_zero, List.append_nil]
        exact ho.ret hb (Nat.le_refl _)
      replace hfin := Lib.hid hfin
      clear ho hb
      go_wp2
      go_ret
      exact hfin.out

theorem putE_ok {N : Nat} {rows : List Nat} {u v : Nat} (h1 : u < v) (h2 : v < N) : CoBit.putE N rows ((u : Int), (v : Int)) = (rows.set u (rows.getD u 0 ||| 2 ^ v)).set v ((rows.set u (rows.getD u 0 ||| 2 ^ v)).getD v 0 ||| 2 ^ u) := by
  unfold CoBit.putE
  rw [if_pos ⟨by omega, by simp; omega, by simp; omega⟩]
  simp
theorem putE_no {N : Nat} {rows : List Nat} {u v : Int} (h : ¬ (0 ≤ u ∧ u < v ∧ v < N)) : CoBit.putE N rows (u, v) = rows := by
  unfold CoBit.putE
  exact if_neg h
theorem rows_lt {N : Nat} (es : List (Int × Int)) (hN : N ≤ 64) : ∀ x ∈ CoBit.rowsL N es, x < 18446744073709551616 := by
  have h : ∀ (es : List (Int × Int)) (rows : List Nat), (∀ x ∈ rows, x < 18446744073709551616) → ∀ x ∈ es.foldl (CoBit.putE N) rows, x < 18446744073709551616 := by
    intro es
    induction es with
    | nil => intro rows h; exact h
    | cons e es ih =>
      intro rows h
      rw [List.foldl_cons]
      refine ih _ ?_
      unfold CoBit.putE
      split
      · rename_i hc
        have hset : ∀ (rows : List Nat) (i j : Nat), (∀ x ∈ rows, x < 18446744073709551616) → j < 64 → ∀ x ∈ rows.set i (rows.getD i 0 ||| 2 ^ j), x < 18446744073709551616 := by
          intro rows i j hr hj x hx
          rcases List.mem_or_eq_of_mem_set hx with hx | rfl
          · exact hr x hx
          · refine CoBit.or_lt ?_ (two_pow_lt hj)
            rw [List.getD_eq_getElem?_getD]
            cases hg : rows[i]? with
            | none => simp
            | some y => simpa using hr y (List.mem_of_getElem? hg)
        exact hset _ _ _ (hset _ _ _ h (by omega)) (by omega)
      · exact h
  refine h es _ ?_
  intro x hx
  rw [List.mem_replicate] at hx
  omega
theorem getD_lt {rows : List Nat} (h : ∀ x ∈ rows, x < 18446744073709551616) (i : Nat) : rows.getD i 0 < 18446744073709551616 := by
  rw [List.getD_eq_getElem?_getD]
  cases hg : rows[i]? with
  | none => simp
  | some y => simpa using h y (List.mem_of_getElem? hg)

set_option maxRecDepth 100000 in
set_option maxHeartbeats 4000000 in
theorem rows_any (A : Option Addr) (m c : Nat) (n : Nat) (es : List (Int × Int)) (w : World) (h : RE w A m es) (hm : m ≤ 1099511627776) (hn : n ≤ 64) :
    Calls Tryz.prog 35 #[.agg #[.int .i64 n, .slice A m c]] w fun e w' => ∃ g, e = .returned (.slice (some ⟨g, 0, none⟩) n n) ∧ w.heap.size ≤ g ∧ AU w' g (CoBit.rowsL n es) ∧ Below w.heap.size w w' := by
  have hml := Lib.hid h.len
  go_enter Tryz.func35, Tryz.ntmps35
  go_wp2_with (at_make; refine wpList_makeU rfl _ _ rfl rfl rfl (n := n) (by omega) (by omega) (by omega) ?_; intro w1 hA1 hg1; have hG1 := Blk.grown (Blk.new w 24 #[.int .i64 n, .slice A m c]) hg1 (by simp); have c1 := Blk.cell hG1 1; simp at c1)
  have hb1 : Below w.heap.size w w1 := ((Below.refl _ _).alloc (Nat.le_refl _) _).trans (grown_none_below hg1 _ (by simp))
  simp only [World.size_alloc] at hA1
  have hs1 := hA1.lt
  clear hg1 c1
  generalize hgb : w.heap.size + 1 = gb at *
  have hgb1 : w.heap.size < gb := by omega
  clear hgb
  have hr1 := RE.below h hb1 (Nat.le_refl _)
  go_loopw [14] (fun i wr => ∃ k : Nat, k ≤ m ∧ i = .int .i64 k ∧ AU wr gb (CoBit.rowsL n (es.take k)) ∧ Blk wr w.heap.size 24 #[.int .i64 n, .slice A m c] ∧ Below w.heap.size w wr) (fun i _ => m - (intOf i).toNat)
  case atStart => exact ⟨0, Nat.zero_le _, rfl, hA1, hG1, hb1⟩
  case round =>
    obtain ⟨k, hk, rfl, hA, hG, hb⟩ := hrel
    have hs := hb.size
    have hgl := hA.lt
    by_cases hlt : k < m
    · obtain ⟨ad, u, v, rfl, hbl, hy, hc1, hc2⟩ := (RE.below h hb (Nat.le_refl _)).get hlt
      have hst := CoBit.rowsL_take (N := n) hy.out
      have hrl := CoBit.rowsL_length n (es.take k)
      have hrlt := rows_lt (N := n) (es.take k) hn
      by_cases hok : 0 ≤ u ∧ u < v ∧ v < n
      · obtain ⟨k0, k1, k2⟩ := hok
        obtain ⟨u, rfl⟩ := Int.eq_ofNat_of_zero_le k0
        obtain ⟨v, rfl⟩ := Int.eq_ofNat_of_zero_le (show 0 ≤ v by omega)
        rw [putE_ok (by omega) (by omega)] at hst
        generalize CoBit.rowsL n (es.take k) = rows at *
        have a1 := getD_lt hrlt u
        have hA2 := hA.alloc (.cells #[.int .i64 u, .int .i64 v] 53)
        have hcu := hA2.cell (i := u) (by omega)
        have hfu := hA2.frozen u
        have o1 := bits_or_u64_nat (rows.getD u 0) (2 ^ v) a1 (two_pow_lt (by omega))
        have p1 := wrap_pow (v := v) (by omega)
        have p2 := wrap_pow (v := u) (by omega)
        have hset : (rows.set u (rows.getD u 0 ||| 2 ^ v)).length = n := by simp [hrl]
        have hrl' := hrl
        generalize hr1e : rows.getD u 0 = r1 at *
        replace hr1e := Lib.hid hr1e
        have hA3 := hA2.drew.set u (r1 ||| 2 ^ v)
        have hlt2 : r1 ||| 2 ^ v < 18446744073709551616 := CoBit.or_lt a1 (two_pow_lt (by omega))
        have a2 : (rows.set u (r1 ||| 2 ^ v)).getD v 0 < 18446744073709551616 := by
          refine getD_lt ?_ v
          intro x hx
          rcases List.mem_or_eq_of_mem_set hx with hx | rfl
          · exact hrlt x hx
          · exact hlt2
        have hcv := hA3.cell (i := v) (by omega)
        have hfv := hA3.frozen v
        generalize rows.set u (r1 ||| 2 ^ v) = rows2 at *
        have o2 := bits_or_u64_nat (rows2.getD v 0) (2 ^ u) a2 (two_pow_lt (by omega))
        generalize hr2e : rows2.getD v 0 = r2 at *
        replace hr2e := Lib.hid hr2e
        have hA4 := hA3.drew.set v (r2 ||| 2 ^ u)
        generalize rows2.set v (r2 ||| 2 ^ u) = rows3 at *
        replace hst := Lib.hid hst
        clear hrlt
        replace hrl : n ≤ rows.length := by omega
        replace hset : n ≤ rows2.length := by omega
        clear hrl'
        generalize r1 ||| 2 ^ v = q1 at *
        generalize r2 ||| 2 ^ u = q2 at *
        have i0 : (0 : Int) ≤ (u : Int) := Int.natCast_nonneg _
        have i1 : (u : Int) < (n : Int) := by omega
        have i2 : (0 : Int) ≤ (v : Int) := Int.natCast_nonneg _
        have hne : gb ≠ wr.heap.size := by omega
        rw [← p1] at o1
        rw [← p2] at o2
        clear p1 p2 a1 a2 hlt2 hcv hfv hcu hfu
        go_wp2
        have hN : Blk (wr.alloc (.cells #[.int .i64 u, .int .i64 v] 53)) wr.heap.size 53 #[.int .i64 u, .int .i64 v] := Blk.new _ _ _
        have hG2 := hG.alloc (.cells #[.int .i64 u, .int .i64 v] 53)
        have hb2 := hb.alloc hs (.cells #[.int .i64 u, .int .i64 v] 53)
        generalize wr.alloc (.cells #[.int .i64 u, .int .i64 v] 53) = W at *
        have n0 := Blk.cell hN 0
        have n1 := Blk.cell hN 1
        simp at n0 n1
        have hcu := hA2.cell (i := u) (by omega)
        rw [hr1e.out] at hcu
        have hfu := hA2.frozen u
        go_region
        go_wp2
        have hN2 : Blk (W.setCell ⟨gb, u, none⟩ (.int .u64 (q1 : Int))).drew wr.heap.size 53 #[.int .i64 u, .int .i64 v] := Blk.drew (Blk.far hN (p := ⟨gb, u, none⟩) (by simp; omega) _)
        have hG3 : Blk (W.setCell ⟨gb, u, none⟩ (.int .u64 (q1 : Int))).drew w.heap.size 24 #[.int .i64 n, .slice (some ad) m c] := Blk.drew (Blk.far hG2 (p := ⟨gb, u, none⟩) (by simp; omega) _)
        have hb3 : Below w.heap.size w (W.setCell ⟨gb, u, none⟩ (.int .u64 (q1 : Int))).drew := (hb2.setCell (p := ⟨gb, u, none⟩) (by simp; omega) _).drew
        have hA3' : AU (W.setCell ⟨gb, u, none⟩ (.int .u64 (q1 : Int))).drew gb rows2 := hA3
        have hA4' : AU ((W.setCell ⟨gb, u, none⟩ (.int .u64 (q1 : Int))).drew.setCell ⟨gb, v, none⟩ (.int .u64 (q2 : Int))) gb rows3 := hA4
        clear hN hG2 hb2 hA3 hA4 hA2 n0 n1 hcu hfu
        generalize (W.setCell ⟨gb, u, none⟩ (.int .u64 (q1 : Int))).drew = W2 at *
        have n0 := Blk.cell hN2 0
        have n1 := Blk.cell hN2 1
        simp at n0 n1
        have hcv := hA3'.cell (i := v) (by omega)
        rw [hr2e.out] at hcv
        have hfv := hA3'.frozen v
        go_region
        go_wp2
        go_roundw
        case rel => exact ⟨k + 1, by omega, by go_num, by rw [hst.out]; exact hA4', Blk.drew (Blk.far (p := ⟨gb, v, none⟩) hG3 (by simp; omega) _), (hb3.setCell (p := ⟨gb, v, none⟩) (by simp; omega) _).drew⟩
        case measure => simp [intOf]; omega
      · rw [putE_no hok] at hst
        replace hst := Lib.hid hst
        have hw : (decide (0 ≤ u) = false) ∨ (decide (0 ≤ u) = true ∧ decide (u < v) = false) ∨ (decide (0 ≤ u) = true ∧ decide (u < v) = true ∧ decide (v < (n : Int)) = false) := by simp; omega
        clear hok
        rcases hw with q1 | ⟨q1, q2⟩ | ⟨q1, q2, q3⟩
        all_goals
          go_wp2
          go_roundw
          case rel => exact ⟨k + 1, by omega, by go_num, by rw [hst.out]; exact hA.alloc _, hG.alloc _, hb.alloc hs _⟩
          case measure => simp [intOf]; omega
    · have hfin : AU wr gb (CoBit.rowsL n es) := by
        rwa [List.take_of_length_le (by rw [hml.out]; omega)] at hA
      go_wp2
      go_ret
      exact ⟨gb, rfl, by omega, hfin, hb⟩
end Go.Proofs.YtdibfecejgjfmaaGreatDoor
