/- Package cliquecount: the sets of neighbours (masks), check, Nodes. -/
import Derived.Test.YtknlmgcbdcepnaaDoorCliA
import Derived.Test.YtknlmgcbdcepnaaDoorMskA
import Derived.Test.YtknlmgcbdcepnaaDoorGphA
set_option linter.unusedVariables false
set_option linter.unusedSimpArgs false
namespace Go.Proofs.YtknlmgcbdcepnaaDoor
open Go.RowKit CoBit CoCli

set_option maxRecDepth 100000 in
set_option maxHeartbeats 4000000 in
theorem masks_any (A : Option Addr) (m c : Nat) (n : Nat) (es : List (Int × Int)) (w : World) (h : RE w A m es) (hm : m ≤ 1099511627776) (hn : n ≤ 64) (hc : chkG n es = 0) :
    Calls Tryd.prog 41 #[.agg #[.int .i64 n, .slice A m c]] w fun e w' => ∃ g, e = .returned (.slice (some ⟨g, 0, none⟩) n n) ∧ w.heap.size ≤ g ∧ AU w' g (CoBit.rowsL n es) ∧ Below w.heap.size w w' := by
  have hml := Lib.hid h.len
  have hE : Hid (∀ u v : Int, (u, v) ∈ es → 0 ≤ u ∧ u < v ∧ v < n) := Lib.hid fun u v hm => chkE_lt (chkG_zero hc).2.2 (u, v) hm
  go_enter Tryd.func41, Tryd.ntmps41
  go_wp2_with (at_make; refine wpList_makeU rfl _ _ rfl rfl rfl (n := n) (by omega) (by omega) (by omega) ?_; intro w1 hA1 hg1; have hG1 := Blk.grown (Blk.new w 24 #[.int .i64 n, .slice A m c]) hg1 (by simp); have c1 := Blk.cell hG1 1; simp at c1)
  have hb1 : Below w.heap.size w w1 := ((Below.refl _ _).alloc (Nat.le_refl _) _).trans (grown_none_below hg1 _ (by simp))
  simp only [World.size_alloc] at hA1
  have hs1 := hA1.lt
  clear hg1 c1
  generalize hgb : w.heap.size + 1 = gb at *
  have hgb1 : w.heap.size < gb := by omega
  clear hgb
  have hr1 := RE.below h hb1 (Nat.le_refl _)
  go_loopw [12] (fun i wr => ∃ k : Nat, k ≤ m ∧ i = .int .i64 k ∧ AU wr gb (CoBit.rowsL n (es.take k)) ∧ Blk wr w.heap.size 24 #[.int .i64 n, .slice A m c] ∧ Below w.heap.size w wr) (fun i _ => m - (intOf i).toNat)
  case atStart => exact ⟨0, Nat.zero_le _, rfl, hA1, hG1, hb1⟩
  case round =>
    obtain ⟨k, hk, rfl, hA, hG, hb⟩ := hrel
    have hs := hb.size
    have hgl := hA.lt
    by_cases hlt : k < m
    · obtain ⟨ad, u, v, rfl, hbl, hy, hc1, hc2⟩ := (RE.below h hb (Nat.le_refl _)).get hlt
      have hst := CoBit.rowsL_take (N := n) hy.out
      have hrl := CoBit.rowsL_length n (es.take k)
      have hrlt := rows_lt (N := n) (es.take k) hn
      by_cases hok : 0 ≤ u ∧ u < v ∧ v < n
      · obtain ⟨k0, k1, k2⟩ := hok
        obtain ⟨u, rfl⟩ := Int.eq_ofNat_of_zero_le k0
        obtain ⟨v, rfl⟩ := Int.eq_ofNat_of_zero_le (show 0 ≤ v by omega)
        rw [putE_ok (by omega) (by omega)] at hst
        generalize CoBit.rowsL n (es.take k) = rows at *
        have a1 := getD_lt hrlt u
        have hA2 := hA.alloc (.cells #[.int .i64 u, .int .i64 v] 59)
        have hcu := hA2.cell (i := u) (by omega)
        have hfu := hA2.frozen u
        have o1 := bits_or_u64_nat (rows.getD u 0) (2 ^ v) a1 (two_pow_lt (by omega))
        have p1 := wrap_pow (v := v) (by omega)
        have p2 := wrap_pow (v := u) (by omega)
        have hset : (rows.set u (rows.getD u 0 ||| 2 ^ v)).length = n := by simp [hrl]
        have hrl' := hrl
        generalize hr1e : rows.getD u 0 = r1 at *
        replace hr1e := Lib.hid hr1e
        have hA3 := hA2.drew.set u (r1 ||| 2 ^ v)
        have hlt2 : r1 ||| 2 ^ v < 18446744073709551616 := CoBit.or_lt a1 (two_pow_lt (by omega))
        have a2 : (rows.set u (r1 ||| 2 ^ v)).getD v 0 < 18446744073709551616 := by
          refine getD_lt ?_ v
          intro x hx
          rcases List.mem_or_eq_of_mem_set hx with hx | rfl
          · exact hrlt x hx
          · exact hlt2
        have hcv := hA3.cell (i := v) (by omega)
        have hfv := hA3.frozen v
        generalize rows.set u (r1 ||| 2 ^ v) = rows2 at *
        have o2 := bits_or_u64_nat (rows2.getD v 0) (2 ^ u) a2 (two_pow_lt (by omega))
        generalize hr2e : rows2.getD v 0 = r2 at *
        replace hr2e := Lib.hid hr2e
        have hA4 := hA3.drew.set v (r2 ||| 2 ^ u)
        generalize rows2.set v (r2 ||| 2 ^ u) = rows3 at *
        replace hst := Lib.hid hst
        clear hrlt
        replace hrl : n ≤ rows.length := by omega
        replace hset : n ≤ rows2.length := by omega
        clear hrl'
        generalize r1 ||| 2 ^ v = q1 at *
        generalize r2 ||| 2 ^ u = q2 at *
        have i0 : (0 : Int) ≤ (u : Int) := Int.natCast_nonneg _
        have i1 : (u : Int) < (n : Int) := by omega
        have i2 : (0 : Int) ≤ (v : Int) := Int.natCast_nonneg _
        have hne : gb ≠ wr.heap.size := by omega
        rw [← p1] at o1
        rw [← p2] at o2
        clear p1 p2 a1 a2 hlt2 hcv hfv hcu hfu
        go_wp2
        have hN : Blk (wr.alloc (.cells #[.int .i64 u, .int .i64 v] 59)) wr.heap.size 59 #[.int .i64 u, .int .i64 v] := Blk.new _ _ _
        have hG2 := hG.alloc (.cells #[.int .i64 u, .int .i64 v] 59)
        have hb2 := hb.alloc hs (.cells #[.int .i64 u, .int .i64 v] 59)
        generalize wr.alloc (.cells #[.int .i64 u, .int .i64 v] 59) = W at *
        have n0 := Blk.cell hN 0
        have n1 := Blk.cell hN 1
        simp at n0 n1
        have hcu := hA2.cell (i := u) (by omega)
        rw [hr1e.out] at hcu
        have hfu := hA2.frozen u
        go_region
        go_wp2
        have hN2 : Blk (W.setCell ⟨gb, u, none⟩ (.int .u64 (q1 : Int))).drew wr.heap.size 59 #[.int .i64 u, .int .i64 v] := Blk.drew (Blk.far hN (p := ⟨gb, u, none⟩) (by simp; omega) _)
        have hG3 : Blk (W.setCell ⟨gb, u, none⟩ (.int .u64 (q1 : Int))).drew w.heap.size 24 #[.int .i64 n, .slice (some ad) m c] := Blk.drew (Blk.far hG2 (p := ⟨gb, u, none⟩) (by simp; omega) _)
        have hb3 : Below w.heap.size w (W.setCell ⟨gb, u, none⟩ (.int .u64 (q1 : Int))).drew := (hb2.setCell (p := ⟨gb, u, none⟩) (by simp; omega) _).drew
        have hA3' : AU (W.setCell ⟨gb, u, none⟩ (.int .u64 (q1 : Int))).drew gb rows2 := hA3
        have hA4' : AU ((W.setCell ⟨gb, u, none⟩ (.int .u64 (q1 : Int))).drew.setCell ⟨gb, v, none⟩ (.int .u64 (q2 : Int))) gb rows3 := hA4
        clear hN hG2 hb2 hA3 hA4 hA2 n0 n1 hcu hfu
        generalize (W.setCell ⟨gb, u, none⟩ (.int .u64 (q1 : Int))).drew = W2 at *
        have n0 := Blk.cell hN2 0
        have n1 := Blk.cell hN2 1
        simp at n0 n1
        have hcv := hA3'.cell (i := v) (by omega)
        rw [hr2e.out] at hcv
        have hfv := hA3'.frozen v
        go_region
        go_wp2
        go_roundw
        case rel => exact ⟨k + 1, by omega, by go_num, by rw [hst.out]; exact hA4', Blk.drew (Blk.far (p := ⟨gb, v, none⟩) hG3 (by simp; omega) _), (hb3.setCell (p := ⟨gb, v, none⟩) (by simp; omega) _).drew⟩
        case measure => simp [intOf]; omega
      · exact absurd (hE.out u v (List.mem_of_getElem? hy.out)) hok
    · have hfin : AU wr gb (CoBit.rowsL n es) := by
        rwa [List.take_of_length_le (by rw [hml.out]; omega)] at hA
      go_wp2
      go_ret
      exact ⟨gb, rfl, by omega, hfin, hb⟩

/-- The error of a graph and a size. -/
def errC (n : Int) (es : List (Int × Int)) (size least : Int) : Int := if chkG n es ≠ 0 then chkG n es else if size < least ∨ 6 < size then 1 else 0
set_option maxHeartbeats 1000000 in
theorem ccheck_any (A : Option Addr) (m c : Nat) (n : Int) (es : List (Int × Int)) (size least : Int) (w : World) (h : RE w A m es) (hm : m ≤ 1099511627776) :
    Calls Tryd.prog 40 #[.agg #[.int .i64 n, .slice A m c], .int .i64 size, .int .i64 least] w fun e w' => e = .returned (.int .i64 (errC n es size least)) ∧ Below w.heap.size w w' := by
  by_cases h0 : chkG n es = 0
  · have hw : (size < least ∧ errC n es size least = 1) ∨ (¬ size < least ∧ 6 < size ∧ errC n es size least = 1) ∨ (¬ size < least ∧ ¬ 6 < size ∧ errC n es size least = 0) := by
      unfold errC
      rw [if_neg (by simp [h0])]
      by_cases h1 : size < least
      · exact .inl ⟨h1, if_pos (.inl h1)⟩
      · by_cases h2 : 6 < size
        · exact .inr (.inl ⟨h1, h2, if_pos (.inr h2)⟩)
        · exact .inr (.inr ⟨h1, h2, if_neg (by omega)⟩)
    rcases hw with ⟨h1, h3⟩ | ⟨h1, h2, h3⟩ | ⟨h1, h2, h3⟩
    all_goals
      replace h3 := Lib.hid h3
      go_enter Tryd.func40, Tryd.ntmps40
      go_wp2_with fail
      refine (gcheck_any A m c n es _ (h.alloc _) hm).mono ?_
      rintro e w1 ⟨rfl, hb1⟩
      rw [h0]
      have hb0 : Below w.heap.size w w1 := ((Below.refl _ _).alloc (Nat.le_refl _) _).trans (hb1.mono (by simp))
      clear hb1
      go_wp2_with fail
      go_ret
      exact ⟨retInt h3.out.symm, hb0⟩
  · have h3 : errC n es size least = chkG n es := by unfold errC; rw [if_pos h0]
    have hb : (chkG n es != 0) = true := by rw [bne_iff_ne]; exact h0
    generalize hz : chkG n es = z at *
    replace h3 := Lib.hid h3
    replace hz := Lib.hid hz
    clear h0
    go_enter Tryd.func40, Tryd.ntmps40
    go_wp2_with fail
    refine (gcheck_any A m c n es _ (h.alloc _) hm).mono ?_
    rintro e w1 ⟨rfl, hb1⟩
    rw [hz.out]
    have hb0 : Below w.heap.size w w1 := ((Below.refl _ _).alloc (Nat.le_refl _) _).trans (hb1.mono (by simp))
    clear hb1
    go_wp2_with fail
    go_ret
    exact ⟨retInt h3.out.symm, hb0⟩
end Go.Proofs.YtknlmgcbdcepnaaDoor
