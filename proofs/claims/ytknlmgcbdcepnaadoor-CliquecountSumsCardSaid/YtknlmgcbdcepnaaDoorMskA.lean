/- Package masks: the list of a set, and the sets of neighbours. -/
import Derived.Test.YtknlmgcbdcepnaaDoorBitA
import Derived.Test.YtknlmgcbdcepnaaDoorMskM
import Derived.Test.YtknlmgcbdcepnaaDoorGraB
import Derived.Test.YtknlmgcbdcepnaaDoorArr
set_option linter.unusedVariables false
namespace Go.Proofs.YtknlmgcbdcepnaaDoor
open Go.RowKit

theorem Tab.lt {w : World} (h : Tab w) : 0 < w.heap.size := World.block_lt_of_cell? w _ (h 0 (by decide))
theorem Tab.keep {w w' : World} (h : Tab w) (hb : Below w.heap.size w w') : Tab w' := h.below hb h.lt
theorem Tab.drewN {w : World} (h : Tab w) (n : Nat) : Tab (w.drewN n) := h
theorem Tab.alloc {w : World} (h : Tab w) (o : Obj) : Tab (w.alloc o) := h.keep ((Below.refl _ _).alloc (Nat.le_refl _) o)
theorem Tab.grown {w w' : World} {g : Nat} (h : Tab w) (hg : w.grownBy w' (some g)) (hne : 0 ≠ g) : Tab w' := fun j hj => (World.cell?_of_block (hg.block 0 h.lt (fun e => hne (by injection e)))).trans (h j hj)

/-- Naturals as numbers. -/
def nts (l : List Nat) : List Int := l.map fun i : Nat => (i : Int)
theorem nts_length (l : List Nat) : (nts l).length = l.length := List.length_map _
theorem nts_append (a b : List Nat) : nts (a ++ b) = nts a ++ nts b := List.map_append

set_option maxHeartbeats 1000000 in
theorem list_any (x : Nat) (hx : x < 18446744073709551616) (w : World) (hT : Tab w) :
    Calls Tryd.prog 65 #[.int .u64 x] w (RetI w (nts (CoBit.bl x))) := by
  have hlen := CoBit.bl_length x
  go_enter Tryd.func65, Tryd.ntmps65
  go_wp2
  go_loopw [0, 3] (fun s v wr => ∃ (m : Nat) (l : List Nat), s = .int .u64 m ∧ m < 18446744073709551616 ∧ Hid (CoBit.bl x = l ++ CoBit.bl m) ∧ l.length ≤ 64 ∧ OI wr w.heap.size v (nts l) ∧ Below w.heap.size w wr) (fun s _ _ => (intOf s).toNat)
  case atStart => exact ⟨x, [], rfl, hx, Lib.hid rfl, by simp, OI.nil_, Below.refl _ _⟩
  case round =>
    obtain ⟨m, l, rfl, hm, hl, hll, ho, hb⟩ := hrel
    have hs := hb.size
    have hTr := hT.keep hb
    by_cases h0 : 0 < m
    · have hz : ((m : Int) != 0) = true := by simp; omega
      have hst := CoBit.bl_step h0 hm
      have hl1 : CoBit.bl x = (l ++ [Lib.ctz 64 m]) ++ CoBit.bl (m &&& (m - 1)) := by rw [hl.out, hst]; simp
      have hl2 : (l ++ [Lib.ctz 64 m]).length ≤ 64 := by
        have := congrArg List.length hl1
        rw [List.length_append] at this
        omega
      have ho1 : nts (l ++ [Lib.ctz 64 m]) = nts l ++ [((Lib.ctz 64 m : Nat) : Int)] := nts_append _ _
      replace hl1 := Lib.hid hl1
      replace ho1 := Lib.hid ho1
      replace hl2 := Lib.hid hl2
      have hand := bits_and_u64_nat m (m - 1) hm (by omega)
      have hsub : IntKind.u64.wrap ((m : Int) - 1) = ((m - 1 : Nat) : Int) := by rw [show (m : Int) - 1 = ((m - 1 : Nat) : Int) by omega]; exact u64_in _ (by omega)
      have hlt := CoBit.and_pred_lt h0
      have hlt2 := CoBit.and_lt' (y := m - 1) hm
      have hnl := nts_length l
      replace hst := Lib.hid hst
      replace hnl := Lib.hid hnl
      go_wp2_with fail
      refine (tz_any m h0 hm _ hTr).mono ?_
      rintro e w1 ⟨rfl, rfl⟩
      generalize Lib.ctz 64 m = z at *
      generalize m &&& (m - 1) = m' at *
      go_wp2_with (at_builtin; refine wpList_push rfl _ _ rfl rfl rfl (by simp) ho (by rw [hnl.out]; omega) hs ?_; intro v' w' ho' hb' hg')
      have hb2 := hb.trans (hb'.mono (Nat.le_refl _))
      go_roundw
      case rel => exact ⟨m', l ++ [z], rfl, hlt2, hl1, hl2.out, by rw [ho1.out]; exact ho', hb2⟩
      case measure => simp [intOf]; omega
    · have hz : ((m : Int) != 0) = false := by simp; omega
      have hfin : RetI w (nts (CoBit.bl x)) (.returned u3) wr := by
        rw [hl.out, show m = 0 by omega, CoBit.bl_zero, List.append_nil]
        exact ho.ret hb (Nat.le_refl _)
      replace hfin := Lib.hid hfin
      clear ho hb
      go_wp2
      go_ret
      exact hfin.out

theorem putE_ok {N : Nat} {rows : List Nat} {u v : Nat} (h1 : u < v) (h2 : v < N) : CoBit.putE N rows ((u : Int), (v : Int)) = (rows.set u (rows.getD u 0 ||| 2 ^ v)).set v ((rows.set u (rows.getD u 0 ||| 2 ^ v)).getD v 0 ||| 2 ^ u) := by
  unfold CoBit.putE
  rw [if_pos ⟨by omega, by simp; omega, by simp; omega⟩]
  simp
theorem putE_no {N : Nat} {rows : List Nat} {u v : Int} (h : ¬ (0 ≤ u ∧ u < v ∧ v < N)) : CoBit.putE N rows (u, v) = rows := by
  unfold CoBit.putE
  exact if_neg h
theorem rows_lt {N : Nat} (es : List (Int × Int)) (hN : N ≤ 64) : ∀ x ∈ CoBit.rowsL N es, x < 18446744073709551616 := by
  have h : ∀ (es : List (Int × Int)) (rows : List Nat), (∀ x ∈ rows, x < 18446744073709551616) → ∀ x ∈ es.foldl (CoBit.putE N) rows, x < 18446744073709551616 := by
    intro es
    induction es with
    | nil => intro rows h; exact h
    | cons e es ih =>
      intro rows h
      rw [List.foldl_cons]
      refine ih _ ?_
      unfold CoBit.putE
      split
      · rename_i hc
        have hset : ∀ (rows : List Nat) (i j : Nat), (∀ x ∈ rows, x < 18446744073709551616) → j < 64 → ∀ x ∈ rows.set i (rows.getD i 0 ||| 2 ^ j), x < 18446744073709551616 := by
          intro rows i j hr hj x hx
          rcases List.mem_or_eq_of_mem_set hx with hx | rfl
          · exact hr x hx
          · refine CoBit.or_lt ?_ (two_pow_lt hj)
            rw [List.getD_eq_getElem?_getD]
            cases hg : rows[i]? with
            | none => simp
            | some y => simpa using hr y (List.mem_of_getElem? hg)
        exact hset _ _ _ (hset _ _ _ h (by omega)) (by omega)
      · exact h
  refine h es _ ?_
  intro x hx
  rw [List.mem_replicate] at hx
  omega
theorem getD_lt {rows : List Nat} (h : ∀ x ∈ rows, x < 18446744073709551616) (i : Nat) : rows.getD i 0 < 18446744073709551616 := by
  rw [List.getD_eq_getElem?_getD]
  cases hg : rows[i]? with
  | none => simp
  | some y => simpa using h y (List.mem_of_getElem? hg)

set_option maxRecDepth 100000 in
set_option maxHeartbeats 4000000 in
theorem rows_any (A : Option Addr) (m c : Nat) (n : Nat) (es : List (Int × Int)) (w : World) (h : RE w A m es) (hm : m ≤ 1099511627776) (hn : n ≤ 64) :
    Calls Tryd.prog 72 #[.agg #[.int .i64 n, .slice A m c]] w fun e w' => ∃ g, e = .returned (.slice (some ⟨g, 0, none⟩) n n) ∧ w.heap.size ≤ g ∧ AU w' g (CoBit.rowsL n es) ∧ Below w.heap.size w w' := by
  have hml := Lib.hid h.len
  go_enter Tryd.func72, Tryd.ntmps72
  go_wp2_with (at_make; refine wpList_makeU rfl _ _ rfl rfl rfl (n := n) (by omega) (by omega) (by omega) ?_; intro w1 hA1 hg1; have hG1 := Blk.grown (Blk.new w 24 #[.int .i64 n, .slice A m c]) hg1 (by simp); have c1 := Blk.cell hG1 1; simp at c1)
  have hb1 : Below w.heap.size w w1 := ((Below.refl _ _).alloc (Nat.le_refl _) _).trans (grown_none_below hg1 _ (by simp))
  simp only [World.size_alloc] at hA1
  have hs1 := hA1.lt
  clear hg1 c1
  generalize hgb : w.heap.size + 1 = gb at *
  have hgb1 : w.heap.size < gb := by omega
  clear hgb
  have hr1 := RE.below h hb1 (Nat.le_refl _)
  go_loopw [14] (fun i wr => ∃ k : Nat, k ≤ m ∧ i = .int .i64 k ∧ AU wr gb (CoBit.rowsL n (es.take k)) ∧ Blk wr w.heap.size 24 #[.int .i64 n, .slice A m c] ∧ Below w.heap.size w wr) (fun i _ => m - (intOf i).toNat)
  case atStart => exact ⟨0, Nat.zero_le _, rfl, hA1, hG1, hb1⟩
  case round =>
    obtain ⟨k, hk, rfl, hA, hG, hb⟩ := hrel
    have hs := hb.size
    have hgl := hA.lt
    by_cases hlt : k < m
    · obtain ⟨ad, u, v, rfl, hbl, hy, hc1, hc2⟩ := (RE.below h hb (Nat.le_refl _)).get hlt
      have hst := CoBit.rowsL_take (N := n) hy.out
      have hrl := CoBit.rowsL_length n (es.take k)
      have hrlt := rows_lt (N := n) (es.take k) hn
      by_cases hok : 0 ≤ u ∧ u < v ∧ v < n
      · obtain ⟨k0, k1, k2⟩ := hok
        obtain ⟨u, rfl⟩ := Int.eq_ofNat_of_zero_le k0
        obtain ⟨v, rfl⟩ := Int.eq_ofNat_of_zero_le (show 0 ≤ v by omega)
        rw [putE_ok (by omega) (by omega)] at hst
        generalize CoBit.rowsL n (es.take k) = rows at *
        have a1 := getD_lt hrlt u
        have hA2 := hA.alloc (.cells #[.int .i64 u, .int .i64 v] 59)
        have hcu := hA2.cell (i := u) (by omega)
        have hfu := hA2.frozen u
        have o1 := bits_or_u64_nat (rows.getD u 0) (2 ^ v) a1 (two_pow_lt (by omega))
        have p1 := wrap_pow (v := v) (by omega)
        have p2 := wrap_pow (v := u) (by omega)
        have hset : (rows.set u (rows.getD u 0 ||| 2 ^ v)).length = n := by simp [hrl]
        have hrl' := hrl
        generalize hr1e : rows.getD u 0 = r1 at *
        replace hr1e := Lib.hid hr1e
        have hA3 := hA2.drew.set u (r1 ||| 2 ^ v)
        have hlt2 : r1 ||| 2 ^ v < 18446744073709551616 := CoBit.or_lt a1 (two_pow_lt (by omega))
        have a2 : (rows.set u (r1 ||| 2 ^ v)).getD v 0 < 18446744073709551616 := by
          refine getD_lt ?_ v
          intro x hx
          rcases List.mem_or_eq_of_mem_set hx with hx | rfl
          · exact hrlt x hx
          · exact hlt2
        have hcv := hA3.cell (i := v) (by omega)
        have hfv := hA3.frozen v
        generalize rows.set u (r1 ||| 2 ^ v) = rows2 at *
        have o2 := bits_or_u64_nat (rows2.getD v 0) (2 ^ u) a2 (two_pow_lt (by omega))
        generalize hr2e : rows2.getD v 0 = r2 at *
        replace hr2e := Lib.hid hr2e
        have hA4 := hA3.drew.set v (r2 ||| 2 ^ u)
        generalize rows2.set v (r2 ||| 2 ^ u) = rows3 at *
        replace hst := Lib.hid hst
        clear hrlt
        replace hrl : n ≤ rows.length := by omega
        replace hset : n ≤ rows2.length := by omega
        clear hrl'
        generalize r1 ||| 2 ^ v = q1 at *
        generalize r2 ||| 2 ^ u = q2 at *
        have i0 : (0 : Int) ≤ (u : Int) := Int.natCast_nonneg _
        have i1 : (u : Int) < (n : Int) := by omega
        have i2 : (0 : Int) ≤ (v : Int) := Int.natCast_nonneg _
        have hne : gb ≠ wr.heap.size := by omega
        rw [← p1] at o1
        rw [← p2] at o2
        clear p1 p2 a1 a2 hlt2 hcv hfv hcu hfu
        go_wp2
        have hN : Blk (wr.alloc (.cells #[.int .i64 u, .int .i64 v] 59)) wr.heap.size 59 #[.int .i64 u, .int .i64 v] := Blk.new _ _ _
        have hG2 := hG.alloc (.cells #[.int .i64 u, .int .i64 v] 59)
        have hb2 := hb.alloc hs (.cells #[.int .i64 u, .int .i64 v] 59)
        generalize wr.alloc (.cells #[.int .i64 u, .int .i64 v] 59) = W at *
        have n0 := Blk.cell hN 0
        have n1 := Blk.cell hN 1
        simp at n0 n1
        have hcu := hA2.cell (i := u) (by omega)
        rw [hr1e.out] at hcu
        have hfu := hA2.frozen u
        go_region
        go_wp2
        have hN2 : Blk (W.setCell ⟨gb, u, none⟩ (.int .u64 (q1 : Int))).drew wr.heap.size 59 #[.int .i64 u, .int .i64 v] := Blk.drew (Blk.far hN (p := ⟨gb, u, none⟩) (by simp; omega) _)
        have hG3 : Blk (W.setCell ⟨gb, u, none⟩ (.int .u64 (q1 : Int))).drew w.heap.size 24 #[.int .i64 n, .slice (some ad) m c] := Blk.drew (Blk.far hG2 (p := ⟨gb, u, none⟩) (by simp; omega) _)
        have hb3 : Below w.heap.size w (W.setCell ⟨gb, u, none⟩ (.int .u64 (q1 : Int))).drew := (hb2.setCell (p := ⟨gb, u, none⟩) (by simp; omega) _).drew
        have hA3' : AU (W.setCell ⟨gb, u, none⟩ (.int .u64 (q1 : Int))).drew gb rows2 := hA3
        have hA4' : AU ((W.setCell ⟨gb, u, none⟩ (.int .u64 (q1 : Int))).drew.setCell ⟨gb, v, none⟩ (.int .u64 (q2 : Int))) gb rows3 := hA4
        clear hN hG2 hb2 hA3 hA4 hA2 n0 n1 hcu hfu
        generalize (W.setCell ⟨gb, u, none⟩ (.int .u64 (q1 : Int))).drew = W2 at *
        have n0 := Blk.cell hN2 0
        have n1 := Blk.cell hN2 1
        simp at n0 n1
        have hcv := hA3'.cell (i := v) (by omega)
        rw [hr2e.out] at hcv
        have hfv := hA3'.frozen v
        go_region
        go_wp2
        go_roundw
        case rel => exact ⟨k + 1, by omega, by go_num, by rw [hst.out]; exact hA4', Blk.drew (Blk.far (p := ⟨gb, v, none⟩) hG3 (by simp; omega) _), (hb3.setCell (p := ⟨gb, v, none⟩) (by simp; omega) _).drew⟩
        case measure => simp [intOf]; omega
      · rw [putE_no hok] at hst
        replace hst := Lib.hid hst
        have hw : (decide (0 ≤ u) = false) ∨ (decide (0 ≤ u) = true ∧ decide (u < v) = false) ∨ (decide (0 ≤ u) = true ∧ decide (u < v) = true ∧ decide (v < (n : Int)) = false) := by simp; omega
        clear hok
        rcases hw with q1 | ⟨q1, q2⟩ | ⟨q1, q2, q3⟩
        all_goals
          go_wp2
          go_roundw
          case rel => exact ⟨k + 1, by omega, by go_num, by rw [hst.out]; exact hA.alloc _, hG.alloc _, hb.alloc hs _⟩
          case measure => simp [intOf]; omega
    · have hfin : AU wr gb (CoBit.rowsL n es) := by
        rwa [List.take_of_length_le (by rw [hml.out]; omega)] at hA
      go_wp2
      go_ret
      exact ⟨gb, rfl, by omega, hfin, hb⟩
end Go.Proofs.YtknlmgcbdcepnaaDoor
