/- Package cliquecount: a copy of a list, Counts. -/
import Derived.Test.YtknlmgcbdcepnaaDoorCliC
import Derived.Test.YtknlmgcbdcepnaaDoorCln
import Derived.Laws.EntriesVeiled
set_option linter.unusedVariables false
set_option linter.unusedSimpArgs false
namespace Go.Proofs.YtknlmgcbdcepnaaDoor
open Go.RowKit CoBit CoCli

/-- The numbers of cliques of the sizes up to k. -/
def cntL (n : Nat) (es : List (Int × Int)) (k : Nat) : List Int := (List.range k).map fun j => ((cl (ad (rowsL n es)) (j + 1) (List.range n) : Nat) : Int)
/-- What Counts returns. -/
def cntsL (n : Int) (es : List (Int × Int)) (most : Int) : List Int := if errC n es most 1 = 0 then cntL n.toNat es most.toNat else []
theorem bl_all {n : Nat} (hn : n ≤ 64) : bl (2 ^ n - 1) = List.range n := by
  unfold bl bitsIn
  have e : (List.range' 0 64).filter (fun i => (2 ^ n - 1).testBit i) = (List.range' 0 64).filter fun i => decide (i < n) := List.filter_congr fun i _ => all_bit n i
  rw [e]
  have e2 : List.range' 0 64 = List.range' 0 n ++ List.range' n (64 - n) := by
    have := List.range'_append_1 (s := 0) (m := n) (n := 64 - n)
    rw [Nat.zero_add, show n + (64 - n) = 64 by omega] at this
    exact this.symm
  rw [e2, List.filter_append, List.range_eq_range']
  have h1 : (List.range' 0 n).filter (fun i => decide (i < n)) = List.range' 0 n := List.filter_eq_self.2 fun i hi => by rw [List.mem_range'_1] at hi; simp; omega
  have h2 : (List.range' n (64 - n)).filter (fun i => decide (i < n)) = [] := List.filter_eq_nil_iff.2 fun i hi => by rw [List.mem_range'_1] at hi; simp; omega
  rw [h1, h2, List.append_nil]
theorem errC_zero {n : Int} {es : List (Int × Int)} {size least : Int} (h : errC n es size least = 0) : chkG n es = 0 ∧ least ≤ size ∧ size ≤ 6 := by
  unfold errC at h
  by_cases h0 : chkG n es ≠ 0
  · rw [if_pos h0] at h; exact absurd h h0
  · rw [if_neg h0] at h
    by_cases h1 : size < least ∨ 6 < size
    · rw [if_pos h1] at h; cases h
    · exact ⟨by omega, by omega, by omega⟩
theorem range_lt {n i : Nat} (hn : n ≤ 64) (h : (2 ^ n - 1).testBit i = true) : i < n := by rw [all_bit] at h; exact of_decide_eq_true h
theorem RI.of_sums {w : World} {gs : Nat} {su : Nat → Nat} (h : Blk w gs 63 (sumL su).toArray) {k : Nat} (hk : k ≤ 6) : RI w (some ⟨gs, 0, none⟩) k ((List.range k).map fun j => ((su j : Nat) : Int)) := by
  refine ⟨by simp [ints], fun _ => ⟨_, rfl, h.lt, fun j u hu => ?_⟩⟩
  have hj : j < k := by
    rcases Nat.lt_or_ge j k with hj | hj
    · exact hj
    · rw [List.getElem?_eq_none (by simp [ints]; omega)] at hu; cases hu
  have e : ((⟨gs, 0, none⟩ : Addr).add j) = ⟨gs, j, none⟩ := by unfold Addr.add; split <;> simp_all
  rw [e, Blk.cell h j]
  simp [ints, hj] at hu
  simp [sumL, show j < 6 by omega, hu]

set_option maxRecDepth 100000 in
set_option maxHeartbeats 2000000 in
theorem counts_any (A : Option Addr) (m c : Nat) (n most : Int) (es : List (Int × Int)) (w : World) (hT : Tab w) (h : RE w A m es) (hm : m ≤ 68719476736) :
    Calls Tryd.prog 10 #[.agg #[.int .i64 n, .slice A m c], .int .i64 most] w (RetL w (cntsL n es most) (errC n es most 1)) := by
  have k1 := fun w h => ccheck_any A m c n es most 1 w h (by omega)
  by_cases hz : errC n es most 1 = 0
  · obtain ⟨z0, z1, z2⟩ := errC_zero hz
    obtain ⟨n0, n1, _⟩ := chkG_zero z0
    obtain ⟨n, rfl⟩ := Int.eq_ofNat_of_zero_le n0
    obtain ⟨most, rfl⟩ := Int.eq_ofNat_of_zero_le (show 0 ≤ most by omega)
    have hcl : cntsL n es most = cntL n es most := by unfold cntsL; rw [if_pos hz]; simp
    rw [hcl, hz]
    rw [hz] at k1
    have hgm : Hid (chkG (n : Int) es = 0) := Lib.hid z0
    replace hz := Lib.hid hz
    replace k1 := Lib.hid k1
    clear z0 hcl
    go_enter Tryd.func10, Tryd.ntmps10
    go_wp2_with fail
    refine (k1.out _ ((h.alloc _).alloc _)).mono ?_
    rintro e w1 ⟨rfl, hb1⟩
    have G1 : Blk w1 w.heap.size 24 #[.int .i64 n, .slice A m c] := Blk.below (Blk.alloc (Blk.new _ _ _) _) hb1 (by simp; omega)
    have M1 : Blk w1 (w.heap.size + 1) 3 #[.int .i64 most] := Blk.below (Blk.new' _ _ _ (by simp)) hb1 (by simp)
    have hb0 : Below w.heap.size w w1 := (((Below.refl _ _).alloc (Nat.le_refl _) _).alloc (by simp) _).trans (hb1.mono (by simp; omega))
    have hr1 := RE.below h hb0 (Nat.le_refl _)
    have s1 := hb1.size
    simp at s1
    clear hb1
    have c10 := Blk.cell G1 0
    have c11 := Blk.cell G1 1
    simp at c10 c11
    go_wp2_with fail
    refine (masks_any A m c n es w1 hr1 (by omega) (by omega) hgm.out).mono ?_
    rintro e w2 ⟨gr, rfl, hgr, hA2, hb2⟩
    have G2 := G1.below hb2 G1.lt
    have M2 := M1.below hb2 M1.lt
    have hb02 := hb0.trans (hb2.mono hb0.size)
    have s2 := hb2.size
    have hgl := hA2.lt
    clear hb2 hb0 G1 M1 c10 c11 hr1 k1
    go_wp2_with fail
    obtain ⟨w3, hw3⟩ : ∃ w3 : World, w3 = ((w2.alloc (.cells #[.slice (some ⟨gr, 0, none⟩) n n] 61)).alloc (.cells #[.int .i64 0, .int .i64 0, .int .i64 0, .int .i64 0, .int .i64 0, .int .i64 0] 63)).alloc
      (.cells #[.func (.func 42) #[] #[.pointer (some ⟨w2.heap.size + 1, 0, none⟩), .pointer (some ⟨w.heap.size + 1, 0, none⟩), .pointer (some ⟨w2.heap.size + 1 + 1, 0, none⟩), .pointer (some ⟨w2.heap.size, 0, none⟩)]] 64) := ⟨_, rfl⟩
    have hb3 : Below w2.heap.size w2 w3 := by rw [hw3]; exact (((Below.refl _ _).alloc (Nat.le_refl _) _).alloc (by simp) _).alloc (by simp; omega) _
    have hT3 : Tab w3 := hT.keep (hb02.trans (hb3.mono hb02.size))
    have G3 := G2.below hb3 G2.lt
    have hdb := hT.lt
    have hW : CW w3 (w2.heap.size + 1) (w.heap.size + 1) (w2.heap.size + 1 + 1) w2.heap.size gr n (rowsL n es) most (fun _ => 0) :=
      ⟨by rw [hw3]; exact Blk.alloc (Blk.new' _ _ _ (by simp)) _, M2.below hb3 M2.lt, by rw [hw3]; exact Blk.new' _ _ _ (by simp), by rw [hw3]; exact Blk.alloc (Blk.alloc (Blk.new _ _ _) _) _, hA2.below hb3 hA2.lt, hT3, by omega, by omega, by omega, by omega, by omega⟩
    have hs3 : w3.heap.size = w2.heap.size + 3 := by rw [hw3]; simp
    have hb03 := hb02.trans (hb3.mono hb02.size)
    rw [← hw3]
    have hwk := walk_any (w2.heap.size + 1) (w.heap.size + 1) (w2.heap.size + 1 + 1) w2.heap.size gr n (rowsL n es) most (rowsL_length n es) (rows_lt es (by omega)) (by omega) (most - 1) 0 (by omega) (2 ^ n - 1) (fun _ => 0) w3.drew
      (by have : (2 : Nat) ^ n ≤ 2 ^ 64 := Nat.pow_le_pow_right (by omega) (by omega); rw [show (2 : Nat) ^ 64 = 18446744073709551616 by decide +kernel] at this; omega) (fun i hi => range_lt (by omega) hi)
      (fun j => by
        unfold adds
        split
        · have := cl_bd (ad (rowsL n es)) (j - 0 + 1) (by omega) (2 ^ n - 1)
          omega
        · omega) hW.drew
    rw [bl_all (by omega)] at hwk
    have cf := hW.cf
    have c10 := Blk.cell G3 0
    simp at c10
    have e1 : IntKind.u64.wrap (IntKind.u64.wrap ((2 : Int) ^ n) - 1) = ((2 ^ n - 1 : Nat) : Int) := by
      by_cases h64 : n = 64
      · subst h64; rfl
      · exact wrap_pow1 (by omega)
    have n2 : (n : Int) ≤ 64 := by omega
    replace hwk := Lib.hid hwk
    clear hw3 hb3 hT3 G2 M2 hA2 hb02 hW G3
    generalize 2 ^ n - 1 = X at *
    refine wp_region_still_tail 5 (by kernel_rfl) (by kernel_rfl) ?_
    simp only [List.take_succ_cons, List.take_zero, List.drop_succ_cons, List.drop_zero]
    change wpStill _ _ w3.drew _ _ _
    repeat still_step
    refine wpStill_nil ?_
    change wpList _ _ _ _ _ w3.drew
    go_wp2_with (go_at_call 42; refine hwk.out.mono ?_; rintro e w4 ⟨rfl, hW4, hG4⟩; have hcm := hW4.cm)
    have hlist : ((List.range most).map fun j => ((0 + adds (rowsL n es) most (List.range n) 0 j : Nat) : Int)) = cntL n es most := by
      unfold cntL
      refine List.map_congr_left fun j hj => ?_
      rw [List.mem_range] at hj
      unfold adds
      rw [if_pos ⟨Nat.zero_le _, hj⟩]
      simp
    have hsl := RI.of_sums hW4.s (k := most) (by omega)
    rw [hlist] at hsl
    have hb4 : Below w.heap.size w w4 := hb03.trans (grown_is_below (grown_trans (grown_drew (World.grownBy.refl _ _)) hG4) (by omega) (by omega))
    have hs4 := hb4.size
    replace hlist := Lib.hid hlist
    clear hW4 hG4 hb03 cf c10 hwk
    try go_wp2_with fail
    refine (clone_any _ most 6 _ w4 hsl (by omega)).mono ?_
    rintro e w5 ⟨A5, n5, c5, rfl, h5, hr5, hb5, hf5⟩
    go_wp2_with fail
    go_ret2
    exact ⟨A5, n5, c5, rfl, h5, hr5, hb4.trans (hb5.mono hs4), hf5.mono hs4⟩
  · have hl : cntsL n es most = [] := by unfold cntsL; rw [if_neg hz]
    rw [hl]
    generalize hq : errC n es most 1 = q at *
    have hb : (q != 0) = true := by rw [bne_iff_ne]; exact hz
    replace k1 := Lib.hid k1
    replace hq := Lib.hid hq
    clear hz hl
    go_enter Tryd.func10, Tryd.ntmps10
    go_wp2_with fail
    refine (k1.out _ ((h.alloc _).alloc _)).mono ?_
    rintro e w1 ⟨rfl, hb1⟩
    have hb0 : Below w.heap.size w w1 := (((Below.refl _ _).alloc (Nat.le_refl _) _).alloc (by simp) _).trans (hb1.mono (by simp; omega))
    clear hb1
    go_wp2_with fail
    go_ret2
    exact ⟨none, 0, 0, rfl, Nat.le_refl _, RI.none_, hb0, Fr.none_⟩
end Go.Proofs.YtknlmgcbdcepnaaDoor
