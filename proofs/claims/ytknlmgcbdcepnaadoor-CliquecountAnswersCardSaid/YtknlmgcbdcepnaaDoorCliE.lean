/- Package cliquecount: Nodes. -/
import Derived.Test.YtknlmgcbdcepnaaDoorCliD
set_option linter.unusedVariables false
set_option linter.unusedSimpArgs false
namespace Go.Proofs.YtknlmgcbdcepnaaDoor
open Go.RowKit CoBit CoCli

/-- The first k elements of a list, zeros behind them. -/
def fillL (L : List Int) (k : Nat) : List Int := L.take k ++ List.replicate (L.length - k) 0
theorem fillL_zero (L : List Int) : fillL L 0 = List.replicate L.length 0 := by simp [fillL]
theorem fillL_full (L : List Int) : fillL L L.length = L := by simp [fillL]
theorem fillL_length {L : List Int} {k : Nat} (h : k ≤ L.length) : (fillL L k).length = L.length := by
  unfold fillL
  rw [List.length_append, List.length_take, List.length_replicate]; omega
theorem fillL_set {L : List Int} {k : Nat} {y : Int} (h : L[k]? = some y) : (fillL L k).set k y = fillL L (k + 1) := by
  obtain ⟨hk, rfl⟩ := List.getElem?_eq_some_iff.1 h
  unfold fillL
  rw [List.set_append_right _ _ (by rw [List.length_take]; omega), List.length_take, Nat.min_eq_left (by omega), Nat.sub_self]
  rw [show L.length - k = L.length - (k + 1) + 1 by omega, List.replicate_succ, List.set_cons_zero, List.take_succ_eq_append_getElem hk, List.append_assoc]
  rfl
theorem row_bit_lt {n : Nat} {es : List (Int × Int)} (hc : chkG n es = 0) {v i : Nat} (h : ((rowsL n es).getD v 0).testBit i = true) : i < n := by
  have he := chkE_lt (chkG_zero hc).2.2
  rcases (rows_bit he v i).1 h with h | h
  · have := he _ h; simp at this; omega
  · have := he _ h; simp at this; omega
theorem bl_row {n : Nat} {es : List (Int × Int)} (hc : chkG n es = 0) (hn : n ≤ 64) (v : Nat) : bl ((rowsL n es).getD v 0) = (List.range n).filter (ad (rowsL n es) v) := by
  rw [← bl_all hn]
  unfold bl bitsIn
  rw [List.filter_filter]
  refine List.filter_congr fun i _ => ?_
  rw [all_bit]
  unfold ad
  cases h : ((rowsL n es).getD v 0).testBit i with
  | false => rfl
  | true => have := row_bit_lt hc h; simp [this]
/-- In how many cliques of a size each node is. -/
def nodL (n : Nat) (es : List (Int × Int)) (k : Nat) : List Int := (List.range n).map fun v => ((cl (ad (rowsL n es)) k ((List.range n).filter (ad (rowsL n es) v)) : Nat) : Int)
theorem nodL_length (n : Nat) (es : List (Int × Int)) (k : Nat) : (nodL n es k).length = n := by simp [nodL]
theorem nodL_at {n : Nat} {es : List (Int × Int)} {k v : Nat} (h : v < n) : (nodL n es k)[v]? = some ((cl (ad (rowsL n es)) k ((List.range n).filter (ad (rowsL n es) v)) : Nat) : Int) := by simp [nodL, h]
/-- What Nodes returns. -/
def nodsL (n : Int) (es : List (Int × Int)) (size : Int) : List Int := if errC n es size 1 = 0 then nodL n.toNat es (size - 1).toNat else []

set_option maxRecDepth 100000 in
set_option maxHeartbeats 2000000 in
theorem nodes_any (A : Option Addr) (m c : Nat) (n size : Int) (es : List (Int × Int)) (w : World) (hT : Tab w) (h : RE w A m es) (hm : m ≤ 68719476736) :
    Calls Tryd.prog 21 #[.agg #[.int .i64 n, .slice A m c], .int .i64 size] w (RetL w (nodsL n es size) (errC n es size 1)) := by
  have k1 := fun w h => ccheck_any A m c n es size 1 w h (by omega)
  by_cases hz : errC n es size 1 = 0
  · obtain ⟨z0, z1, z2⟩ := errC_zero hz
    obtain ⟨n0, n1, _⟩ := chkG_zero z0
    obtain ⟨n, rfl⟩ := Int.eq_ofNat_of_zero_le n0
    obtain ⟨k, hk⟩ := Int.eq_ofNat_of_zero_le (show 0 ≤ size - 1 by omega)
    obtain rfl : size = (k : Int) + 1 := by omega
    have hcl : nodsL n es ((k : Int) + 1) = nodL n es k := by unfold nodsL; rw [if_pos hz]; simp
    rw [hcl, hz]
    rw [hz] at k1
    have hgm : Hid (chkG (n : Int) es = 0) := Lib.hid z0
    have i3 : IntKind.i64.wrap ((k : Int) + 1 - 1) = (k : Int) := by rw [show (k : Int) + 1 - 1 = (k : Int) by omega]; exact IntWalk.i64_in _ ⟨by omega, by omega⟩
    obtain ⟨K, hK⟩ : ∃ K : Int, K = (k : Int) + 1 := ⟨_, rfl⟩
    have hKp : 1 ≤ K := by omega
    have hK6 : K ≤ 6 := by omega
    rw [← hK] at k1 i3 ⊢
    replace hK := Lib.hid hK
    replace k1 := Lib.hid k1
    clear z0 hcl hk hz
    go_enter Tryd.func21, Tryd.ntmps21
    go_wp2_with fail
    refine (k1.out _ (h.alloc _)).mono ?_
    rintro e w1 ⟨rfl, hb1⟩
    have G1 : Blk w1 w.heap.size 24 #[.int .i64 n, .slice A m c] := Blk.below (Blk.new _ _ _) hb1 (by simp)
    have hb0 : Below w.heap.size w w1 := ((Below.refl _ _).alloc (Nat.le_refl _) _).trans (hb1.mono (by simp))
    have hr1 := RE.below h hb0 (Nat.le_refl _)
    have s1 := hb1.size
    simp at s1
    clear hb1
    have c10 := Blk.cell G1 0
    have c11 := Blk.cell G1 1
    simp at c10 c11
    go_wp2_with fail
    refine (masks_any A m c n es w1 hr1 (by omega) (by omega) hgm.out).mono ?_
    rintro e w2 ⟨gr, rfl, hgr, hA2, hb2⟩
    have G2 := G1.below hb2 G1.lt
    have hb02 := hb0.trans (hb2.mono hb0.size)
    have s2 := hb2.size
    have hgl := hA2.lt
    have c20 := Blk.cell G2 0
    simp at c20
    clear hb2 hb0 G1 c10 c11 hr1 k1
    go_wp2_with (at_make; refine wpList_makeI rfl _ _ rfl rfl rfl (n := n) (by omega) (by omega) (by omega) ?_; intro w3 hA3 hg3)
    have hb3 := grown_none_below hg3 w2.heap.size (Nat.le_refl _)
    have hb03 := hb02.trans (hb3.mono hb02.size)
    have hR3 := hA2.below hb3 hgl
    have s3 := hA3.lt
    have hln := Lib.hid (nodL_length n es k)
    have hA3' : AI w3 w2.heap.size (fillL (nodL n es k) 0) := by rw [fillL_zero, hln.out]; exact hA3
    have s02 := hb02.size
    clear hg3 hb3 G2 c20 hA2 hA3 hb02
    generalize w2.heap.size = go at *
    go_loopw [23] (fun i wr => ∃ (j : Nat), j ≤ n ∧ i = .int .i64 j ∧ AI wr go (fillL (nodL n es k) j) ∧ AU wr gr (rowsL n es) ∧ Below w.heap.size w wr) (fun i _ => n - (intOf i).toNat)
    case atStart => exact ⟨0, Nat.zero_le _, rfl, hA3', hR3, hb03⟩
    case round =>
      obtain ⟨j, hj, rfl, hA, hR, hb⟩ := hrel
      clear hA3' hR3 hb03
      by_cases hlt : j < n
      · have hfs := fillL_set (nodL_at (es := es) (k := k) hlt)
        have hrl := rows_lt es (show n ≤ 64 by omega)
        have hcj := hR.cell (i := j) (by rw [rowsL_length]; exact hlt)
        have hbr := bl_row hgm.out (show n ≤ 64 by omega) j
        have hct := fun w hT hA => cnt_any gr n (rowsL n es) (rowsL_length n es) hrl k (by omega) ((rowsL n es).getD j 0) w (getD_lt hrl j) (fun i hi => row_bit_lt hgm.out hi) hT hA
        rw [hbr] at hct
        have hTr := hT.keep hb
        have hlen : (fillL (nodL n es k) j).length = n := by rw [fillL_length (by rw [hln.out]; omega), hln.out]
        have hco := hA.cell (i := j) (by omega)
        have hfo := hA.frozen j
        have hset := fun y => hA.set j y
        generalize (fillL (nodL n es k) j).getD j 0 = old at *
        generalize ((cl (ad (rowsL n es)) k ((List.range n).filter (ad (rowsL n es) j)) : Nat) : Int) = C at *
        generalize (rowsL n es).getD j 0 = R at *
        replace hct := Lib.hid hct
        replace hfs := Lib.hid hfs
        replace hset := Lib.hid hset
        clear hrl hbr
        have i0 : (0 : Int) ≤ (j : Int) := Int.natCast_nonneg _
        have i1 : (j : Int) < (n : Int) := by omega
        go_wp2_with (go_at_call 53; refine (hct.out _ hTr hR).mono ?_; rintro e w4 ⟨rfl, q, rfl⟩)
        go_roundw
        case rel => exact ⟨j + 1, by omega, by go_num, by rw [← hfs.out]; exact AI.set (hA.drewN q) j C, AU.far (p := ⟨go, j, none⟩) (hR.drewN q) (by simp; omega) _, (below_drewN hb q).setCell (p := ⟨go, j, none⟩) (by simp; omega) _⟩
        case measure => simp [intOf]; omega
      · have hjn : j = n := by omega
        subst hjn
        have hfin : AI wr go (nodL j es k) := by rw [← fillL_full (nodL j es k), hln.out]; exact hA
        have hri := hfin.ri (n := j) hln.out.symm
        clear hA hfin
        go_wp2_with fail
        go_ret2
        exact ⟨some ⟨go, 0, none⟩, j, j, rfl, Nat.le_refl _, hri, hb, fun ad e => by injection e with e; subst e; simp; omega⟩
  · have hl : nodsL n es size = [] := by unfold nodsL; rw [if_neg hz]
    rw [hl]
    generalize hq : errC n es size 1 = q at *
    have hb : (q != 0) = true := by rw [bne_iff_ne]; exact hz
    replace k1 := Lib.hid k1
    replace hq := Lib.hid hq
    clear hz hl
    go_enter Tryd.func21, Tryd.ntmps21
    go_wp2_with fail
    refine (k1.out _ (h.alloc _)).mono ?_
    rintro e w1 ⟨rfl, hb1⟩
    have hb0 : Below w.heap.size w w1 := ((Below.refl _ _).alloc (Nat.le_refl _) _).trans (hb1.mono (by simp))
    clear hb1
    go_wp2_with fail
    go_ret2
    exact ⟨none, 0, 0, rfl, Nat.le_refl _, RI.none_, hb0, Fr.none_⟩
end Go.Proofs.YtknlmgcbdcepnaaDoor
