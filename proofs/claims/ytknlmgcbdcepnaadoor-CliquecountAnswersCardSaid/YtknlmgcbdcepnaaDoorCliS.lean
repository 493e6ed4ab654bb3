/- Package cliquecount: Edges. -/
import Derived.Test.YtknlmgcbdcepnaaDoorCliE
import Derived.Test.YtknlmgcbdcepnaaDoorLwhB
set_option linter.unusedVariables false
set_option linter.unusedSimpArgs false
set_option linter.unusedSectionVars false
namespace Go.Proofs.YtknlmgcbdcepnaaDoor
open Go.RowKit CoBit CoCli

theorem Tab.drw {w : World} (h : Tab w) : Tab w.drew := h
/-- The common neighbours of two nodes. -/
def cmn (n : Nat) (es : List (Int × Int)) (u v : Nat) : List Nat := (List.range n).filter fun x => ad (rowsL n es) u x && ad (rowsL n es) v x
theorem bl_rows {n : Nat} {es : List (Int × Int)} (hc : chkG n es = 0) (hn : n ≤ 64) (u v : Nat) : bl ((rowsL n es).getD u 0 &&& (rowsL n es).getD v 0) = cmn n es u v := by
  rw [bl_and, bl_row hc hn u, List.filter_filter]
  refine List.filter_congr fun x _ => ?_
  rw [Bool.and_comm]; rfl
/-- In how many cliques of a size each edge is. -/
def edgC (n : Nat) (es : List (Int × Int)) (k : Nat) : List Int := es.map fun e => ((cl (ad (rowsL n es)) k (cmn n es e.1.toNat e.2.toNat) : Nat) : Int)
theorem edgC_length (n : Nat) (es : List (Int × Int)) (k : Nat) : (edgC n es k).length = es.length := by simp [edgC]
theorem edgC_at {n : Nat} {es : List (Int × Int)} {k i u v : Nat} (h : es[i]? = some ((u : Int), (v : Int))) : (edgC n es k)[i]? = some ((cl (ad (rowsL n es)) k (cmn n es u v) : Nat) : Int) := by
  unfold edgC
  rw [List.getElem?_map, h]
  simp
/-- What Edges returns. -/
def edgsC (n : Int) (es : List (Int × Int)) (size : Int) : List Int := if errC n es size 2 = 0 then edgC n.toNat es (size - 2).toNat else []

set_option maxRecDepth 100000 in
set_option maxHeartbeats 2000000 in
theorem edges_any (A : Option Addr) (m c : Nat) (n size : Int) (es : List (Int × Int)) (w : World) (hT : Tab w) (h : RE w A m es) (hm : m ≤ 68719476736) :
    Calls Tryd.prog 32 #[.agg #[.int .i64 n, .slice A m c], .int .i64 size] w (RetL w (edgsC n es size) (errC n es size 2)) := by
  have k1 := fun w h => ccheck_any A m c n es size 2 w h (by omega)
  by_cases hz : errC n es size 2 = 0
  · obtain ⟨z0, z1, z2⟩ := errC_zero hz
    obtain ⟨n0, n1, _⟩ := chkG_zero z0
    obtain ⟨n, rfl⟩ := Int.eq_ofNat_of_zero_le n0
    obtain ⟨k, hk⟩ := Int.eq_ofNat_of_zero_le (show 0 ≤ size - 2 by omega)
    obtain rfl : size = (k : Int) + 2 := by omega
    have hcl : edgsC n es ((k : Int) + 2) = edgC n es k := by unfold edgsC; rw [if_pos hz]; simp
    rw [hcl, hz]
    rw [hz] at k1
    have hgm : Hid (chkG (n : Int) es = 0) := Lib.hid z0
    have i3 : IntKind.i64.wrap ((k : Int) + 2 - 2) = (k : Int) := by rw [show (k : Int) + 2 - 2 = (k : Int) by omega]; exact IntWalk.i64_in _ ⟨by omega, by omega⟩
    obtain ⟨K, hK⟩ : ∃ K : Int, K = (k : Int) + 2 := ⟨_, rfl⟩
    have hKp : 2 ≤ K := by omega
    have hK6 : K ≤ 6 := by omega
    rw [← hK] at k1 i3 ⊢
    replace hK := Lib.hid hK
    replace k1 := Lib.hid k1
    clear z0 hcl hk hz
    go_enter Tryd.func32, Tryd.ntmps32
    go_wp2_with fail
    refine (k1.out _ (h.alloc _)).mono ?_
    rintro e w1 ⟨rfl, hb1⟩
    have G1 : Blk w1 w.heap.size 24 #[.int .i64 n, .slice A m c] := Blk.below (Blk.new _ _ _) hb1 (by simp)
    have hb0 : Below w.heap.size w w1 := ((Below.refl _ _).alloc (Nat.le_refl _) _).trans (hb1.mono (by simp))
    have hr1 := RE.below h hb0 (Nat.le_refl _)
    have s1 := hb1.size
    simp at s1
    clear hb1
    have c10 := Blk.cell G1 0
    have c11 := Blk.cell G1 1
    simp at c10 c11
    go_wp2_with fail
    refine (masks_any A m c n es w1 hr1 (by omega) (by omega) hgm.out).mono ?_
    rintro e w2 ⟨gr, rfl, hgr, hA2, hb2⟩
    have G2 := G1.below hb2 G1.lt
    have hb02 := hb0.trans (hb2.mono hb0.size)
    have s2 := hb2.size
    have hgl := hA2.lt
    have c20 := Blk.cell G2 0
    simp at c20
    have c21 := Blk.cell G2 1
    simp at c21
    have hr2 := RE.below h hb02 (Nat.le_refl _)
    clear hb2 hb0 G1 c10 c11 hr1 k1
    go_wp2_with (at_make; refine wpList_makeI rfl _ _ rfl rfl rfl (n := m) (by omega) (by omega) (by omega) ?_; intro w3 hA3 hg3; have hb3 := grown_none_below hg3 w2.heap.size (Nat.le_refl _); have G3 := G2.below hb3 G2.lt; have c31 := Blk.cell G3 1; simp at c31)
    have hb03 := hb02.trans (hb3.mono hb02.size)
    have hR3 := hA2.below hb3 hgl
    have s3 := hA3.lt
    have hml := Lib.hid h.len
    have hln := Lib.hid (edgC_length n es k)
    have hA3' : AI w3 w2.heap.size (fillL (edgC n es k) 0) := by rw [fillL_zero, hln.out, hml.out]; exact hA3
    have s02 := hb02.size
    clear hg3 hb3 G2 c20 c21 hA2 hA3 hb02 hr2 c31 G3
    generalize w2.heap.size = go at *
    go_loopw [26] (fun i wr => ∃ (j : Nat), j ≤ m ∧ i = .int .i64 j ∧ AI wr go (fillL (edgC n es k) j) ∧ AU wr gr (rowsL n es) ∧ Below w.heap.size w wr) (fun i _ => m - (intOf i).toNat)
    case atStart => exact ⟨0, Nat.zero_le _, rfl, hA3', hR3, hb03⟩
    case round =>
      obtain ⟨j, hj, rfl, hA, hR, hb⟩ := hrel
      clear hA3' hR3 hb03
      by_cases hlt : j < m
      · obtain ⟨adr, x, y, rfl, hbl, hy, hc1, hc2⟩ := (RE.below h hb (Nat.le_refl _)).get hlt
        have hbd := chkE_lt (chkG_zero hgm.out).2.2 (x, y) (List.mem_of_getElem? hy.out)
        simp only at hbd
        obtain ⟨x, rfl⟩ := Int.eq_ofNat_of_zero_le hbd.1
        obtain ⟨y, rfl⟩ := Int.eq_ofNat_of_zero_le (show 0 ≤ y by omega)
        have hfs := fillL_set (edgC_at (n := n) (k := k) hy.out)
        have hrl := rows_lt es (show n ≤ 64 by omega)
        have hAn := hA.alloc (.cells #[.int .i64 x, .int .i64 y] 59)
        have hRn := hR.alloc (.cells #[.int .i64 x, .int .i64 y] 59)
        have hbn := hb.alloc hb.size (.cells #[.int .i64 x, .int .i64 y] 59)
        have hnb := Blk.new wr 59 #[.int .i64 x, .int .i64 y]
        have hcx := hRn.cell (i := x) (by rw [rowsL_length]; omega)
        have hcy := hRn.cell (i := y) (by rw [rowsL_length]; omega)
        have hbr := bl_rows hgm.out (show n ≤ 64 by omega) x y
        have hand := bits_and_u64_nat ((rowsL n es).getD x 0) ((rowsL n es).getD y 0) (getD_lt hrl x) (getD_lt hrl y)
        have hct := fun w hT hA => cnt_any gr n (rowsL n es) (rowsL_length n es) hrl k (by omega) ((rowsL n es).getD x 0 &&& (rowsL n es).getD y 0) w (and_lt (getD_lt hrl y)) (fun i hi => by rw [Nat.testBit_and] at hi; simp at hi; exact row_bit_lt hgm.out hi.1) hT hA
        rw [hbr] at hct
        have hTr := hT.keep hbn
        have hlen : (fillL (edgC n es k) j).length = m := by rw [fillL_length (by rw [hln.out, hml.out]; omega), hln.out, hml.out]
        have hco := hAn.cell (i := j) (by omega)
        have hfo := hAn.frozen j
        generalize (fillL (edgC n es k) j).getD j 0 = old at *
        generalize ((cl (ad (rowsL n es)) k (cmn n es x y) : Nat) : Int) = C at *
        generalize hRx : (rowsL n es).getD x 0 = Rx at *
        generalize hRy : (rowsL n es).getD y 0 = Ry at *
        replace hct := Lib.hid hct
        replace hfs := Lib.hid hfs
        clear hrl hbr hRx hRy
        have i0 : (0 : Int) ≤ (j : Int) := Int.natCast_nonneg _
        have i1 : (j : Int) < (m : Int) := by omega
        have i6 : (x : Int) < (n : Int) := by omega
        have i7 : (y : Int) < (n : Int) := by omega
        have i4 : (0 : Int) ≤ (x : Int) := Int.natCast_nonneg _
        have i5 : (0 : Int) ≤ (y : Int) := Int.natCast_nonneg _
        go_upto_region 9 with fail
        generalize wr.alloc (.cells #[.int .i64 x, .int .i64 y] 59) = wb at *
        generalize wr.heap.size = gx at *
        have x0 := Blk.cell hnb 0
        have x1 := Blk.cell hnb 1
        simp at x0 x1
        go_wp2_with fail
        go_region_with (go_at_call 53; (with_reducible refine (hct.out _ (Tab.drw hTr) (AU.drew hRn)).mono ?_); rintro e w4 ⟨rfl, q, rfl⟩)
        all_goals go_wp2_with fail
        all_goals
          go_roundw
          case rel => exact ⟨j + 1, by omega, by go_num, by rw [← hfs.out]; exact AI.set (hAn.drewN _) j C, AU.far (p := ⟨go, j, none⟩) (hRn.drewN _) (by simp; omega) _, (below_drewN hbn _).setCell (p := ⟨go, j, none⟩) (by simp; omega) _⟩
          case measure => simp [intOf]; omega
      · have hjn : j = m := by omega
        subst hjn
        have hfin : AI wr go (edgC n es k) := by rw [← fillL_full (edgC n es k), hln.out, hml.out]; exact hA
        have hri := hfin.ri (n := j) (by rw [hln.out, hml.out])
        clear hA hfin
        go_wp2_with fail
        go_ret2
        exact ⟨some ⟨go, 0, none⟩, j, j, rfl, Nat.le_refl _, hri, hb, fun ad e => by injection e with e; subst e; simp; omega⟩
  · have hl : edgsC n es size = [] := by unfold edgsC; rw [if_neg hz]
    rw [hl]
    generalize hq : errC n es size 2 = q at *
    have hb : (q != 0) = true := by rw [bne_iff_ne]; exact hz
    replace k1 := Lib.hid k1
    replace hq := Lib.hid hq
    clear hz hl
    go_enter Tryd.func32, Tryd.ntmps32
    go_wp2_with fail
    refine (k1.out _ (h.alloc _)).mono ?_
    rintro e w1 ⟨rfl, hb1⟩
    have hb0 : Below w.heap.size w w1 := ((Below.refl _ _).alloc (Nat.le_refl _) _).trans (hb1.mono (by simp))
    clear hb1
    go_wp2_with fail
    go_ret2
    exact ⟨none, 0, 0, rfl, Nat.le_refl _, RI.none_, hb0, Fr.none_⟩
end Go.Proofs.YtknlmgcbdcepnaaDoor

namespace Go.Proofs.YtknlmgcbdcepnaaDoor
open Go.RowKit CoBit CoCli

theorem tsum_sorted (p : Nat → Int) (f : Nat → List Nat → Nat) : ∀ L : List Nat, L.Pairwise (fun u v => p u < p v) → tsum f L = (L.map fun v => f v (L.filter fun x => decide (p v < p x))).sum := by
  intro L
  induction L with
  | nil => intro _; rfl
  | cons v L ih =>
    intro h
    rw [List.pairwise_cons] at h
    have e0 : (v :: L).filter (fun x => decide (p v < p x)) = L := by
      rw [List.filter_cons, if_neg (by simp), List.filter_eq_self.2]
      intro x hx
      simpa using h.1 x hx
    have e1 : (L.map fun u => f u ((v :: L).filter fun x => decide (p u < p x))) = L.map fun u => f u (L.filter fun x => decide (p u < p x)) := by
      refine List.map_congr_left fun u hu => ?_
      have := h.1 u hu
      rw [List.filter_cons, if_neg (by simp; omega)]
    rw [List.map_cons, List.sum_cons, e0, e1, ← ih h.2]; rfl
/-- The sum over all neighbours of all nodes is that over both directions of all edges. -/
theorem pairs_sum (F : Nat → Nat → Nat) {n : Nat} : ∀ l : List (Int × Int), (∀ e ∈ l, 0 ≤ e.1 ∧ e.1 < e.2 ∧ e.2 < (n : Int)) →
    ((List.range n).map fun v : Nat => ((nbl l v).map fun u => F v u.toNat).sum).sum = (l.map fun e => F e.1.toNat e.2.toNat + F e.2.toNat e.1.toNat).sum := by
  intro l
  induction l with
  | nil => intro _; exact sum_zero _ _ fun _ _ => rfl
  | cons e l ih =>
    intro he
    obtain ⟨a, b, d⟩ := he e (by simp)
    obtain ⟨x, y⟩ := e
    simp only at a b d
    obtain ⟨x, rfl⟩ := Int.eq_ofNat_of_zero_le a
    obtain ⟨y, rfl⟩ := Int.eq_ofNat_of_zero_le (show 0 ≤ y by omega)
    have hx : x < n := by omega
    have hy : y < n := by omega
    have e1 : ((List.range n).map fun v : Nat => ((nbl (((x : Int), (y : Int)) :: l) v).map fun u => F v u.toNat).sum) = (List.range n).map fun v : Nat => ((nbl l v).map fun u => F v u.toNat).sum + ((if x = v then F x y else 0) + (if y = v then F y x else 0)) := by
      refine List.map_congr_left fun v _ => ?_
      rw [nbl_cons, List.map_append, List.map_append, List.sum_append, List.sum_append]
      simp only
      have t1 : ((if (x : Int) = (v : Int) then [(y : Int)] else []).map fun u => F v u.toNat).sum = if x = v then F x y else 0 := by
        by_cases h : x = v
        · subst h
          rw [if_pos rfl, if_pos rfl]; simp
        · rw [if_neg (by omega), if_neg h]; rfl
      have t2 : ((if (y : Int) = (v : Int) then [(x : Int)] else []).map fun u => F v u.toNat).sum = if y = v then F y x else 0 := by
        by_cases h : y = v
        · subst h
          rw [if_pos rfl, if_pos rfl]; simp
        · rw [if_neg (by omega), if_neg h]; rfl
      rw [t1, t2]; omega
    rw [e1, sum_add (List.range n), ih (fun z hz => he z (by simp [hz])), sum_add (List.range n)]
    rw [sum_single x _ List.nodup_range, if_pos (List.mem_range.2 hx), sum_single y _ List.nodup_range, if_pos (List.mem_range.2 hy), List.map_cons, List.sum_cons]
    simp only [Int.toNat_natCast]
    omega
theorem ad_sym {n : Nat} {es : List (Int × Int)} (hc : chkG n es = 0) (u v : Nat) : ad (rowsL n es) u v = ad (rowsL n es) v u := by
  have he := chkE_lt (chkG_zero hc).2.2
  unfold ad
  rw [Bool.eq_iff_iff, rows_bit he, rows_bit he]
  exact Or.comm
theorem ad_irr' {n : Nat} {es : List (Int × Int)} (hc : chkG n es = 0) (u : Nat) : ad (rowsL n es) u u = false := by
  have he := chkE_lt (chkG_zero hc).2.2
  unfold ad
  rw [← Bool.not_eq_true, rows_bit he]
  intro h
  rcases h with h | h
  · have := he _ h; simp at this
  · have := he _ h; simp at this
theorem nbl_perm {n : Nat} {es : List (Int × Int)} (hc : chkG n es = 0) (hn : n ≤ 64) (v : Nat) : (nbl es v).Perm (nts ((List.range n).filter (ad (rowsL n es) v))) := by
  rw [← bl_row hc hn, row_nb hc hn, nbG, if_pos hc]
  exact (List.perm_ext_iff_of_nodup (nbl_nodup (srt_of_chk hc) v) (sorted_nodup (of_sorted _))).2 fun x => by rw [mem_of]
/-- The numbers of the edges add up. -/
theorem edg_sum {n : Nat} {es : List (Int × Int)} (hc : chkG n es = 0) (hn : n ≤ 64) (k : Nat) :
    2 * (es.map fun e => cl (ad (rowsL n es)) k (cmn n es e.1.toNat e.2.toNat)).sum = (k + 2) * ((k + 1) * cl (ad (rowsL n es)) (k + 2) (List.range n)) := by
  have hs := srt_of_chk hc
  have p := pairs_sum (n := n) (fun u v => cl (ad (rowsL n es)) k (cmn n es u v)) es hs.1
  have hcm : ∀ u v, cmn n es u v = cmn n es v u := fun u v => List.filter_congr fun x _ => Bool.and_comm _ _
  have e2 : (es.map fun e => cl (ad (rowsL n es)) k (cmn n es e.1.toNat e.2.toNat) + cl (ad (rowsL n es)) k (cmn n es e.2.toNat e.1.toNat)).sum = 2 * (es.map fun e => cl (ad (rowsL n es)) k (cmn n es e.1.toNat e.2.toNat)).sum := by
    rw [sum_add, List.map_congr_left (fun e _ => by rw [hcm e.2.toNat e.1.toNat] : ∀ e ∈ es, cl (ad (rowsL n es)) k (cmn n es e.2.toNat e.1.toNat) = cl (ad (rowsL n es)) k (cmn n es e.1.toNat e.2.toNat))]; omega
  have e4 := cl_nodes (ad_sym hc) (ad_irr' hc) (k + 1) (List.range n)
  rw [← e2, ← p]
  have e3 : ∀ v : Nat, ((nbl es v).map fun u => cl (ad (rowsL n es)) k (cmn n es v u.toNat)).sum = (k + 1) * cl (ad (rowsL n es)) (k + 1) ((List.range n).filter (ad (rowsL n es) v)) := by
    intro v
    rw [((nbl_perm hc hn v).map _).sum_nat, ← cl_nodes (ad_sym hc) (ad_irr' hc) k]
    unfold nts
    rw [List.map_map]
    congr 1
    refine List.map_congr_left fun u _ => ?_
    simp only [Function.comp, Int.toNat_natCast]
    congr 1
    unfold cmn
    rw [List.filter_filter]
    exact List.filter_congr fun x _ => Bool.and_comm _ _
  simp only [e3]
  clear e3 e2 p
  have e5 : ∀ M : List Nat, (M.map fun v => (k + 1) * cl (ad (rowsL n es)) (k + 1) ((List.range n).filter (ad (rowsL n es) v))).sum = (k + 1) * (M.map fun v => cl (ad (rowsL n es)) (k + 1) ((List.range n).filter (ad (rowsL n es) v))).sum := by
    intro M
    induction M with
    | nil => rfl
    | cons v M ih => rw [List.map_cons, List.map_cons, List.sum_cons, List.sum_cons, ih, Nat.mul_add]
  rw [e5, e4, Nat.mul_left_comm]
theorem nod_sum {n : Nat} {es : List (Int × Int)} (hc : chkG n es = 0) (k : Nat) :
    ((List.range n).map fun v => cl (ad (rowsL n es)) k ((List.range n).filter (ad (rowsL n es) v))).sum = (k + 1) * cl (ad (rowsL n es)) (k + 1) (List.range n) :=
  cl_nodes (ad_sym hc) (ad_irr' hc) k _
section
variable {n : Nat} {es : List (Int × Int)} {o pl : List Int} (hc : chkG n es = 0) (hn : n ≤ 64) (hP : Per o n) (hpl : PlcOk n o n pl)
/-- Those ahead of a node, as numbers. -/
def ahN (n : Nat) (es : List (Int × Int)) (pl : List Int) (v : Nat) : List Nat := ((List.range n).filter fun x => decide (pl.getD v 0 < pl.getD x 0)).filter (ad (rowsL n es) v)
include hc hn
theorem ahN_len (v : Nat) : (ahN n es pl v).length = (ahdR n es pl v).length := by
  unfold ahdR ahN
  rw [← row_nb hc hn v, bl_row hc hn v, List.filter_filter]
  unfold nts
  rw [List.filter_map, List.length_map, List.filter_filter]
  congr 1
  refine List.filter_congr fun x _ => ?_
  simp only [Function.comp, Int.toNat_natCast]
  exact Bool.and_comm _ _
include hP hpl
theorem cl_ahead (k : Nat) : cl (ad (rowsL n es)) (k + 1) (List.range n) = ((List.range n).map fun v => cl (ad (rowsL n es)) k (ahN n es pl v)).sum := by
  have hoN : ∃ L : List Nat, o = nts L := ⟨o.map Int.toNat, by
    unfold nts
    rw [List.map_map]
    conv => lhs; rw [← List.map_id o]
    exact List.map_congr_left fun x hx => by have := hP.2.2 x hx; simp only [Function.comp, id]; omega⟩
  obtain ⟨L, rfl⟩ := hoN
  have hLn : ∀ x ∈ L, x < n := fun x hx => by
    have := hP.2.2 (x : Int) (by unfold nts; exact List.mem_map.2 ⟨x, hx, rfl⟩)
    omega
  have hLd : L.Nodup := by
    have := hP.2.1
    unfold nts at this
    rw [List.nodup_iff_pairwise_ne] at this ⊢
    rw [List.pairwise_map] at this
    exact this.imp fun h e => h (by rw [e])
  have hLp : L.Perm (List.range n) := (List.perm_ext_iff_of_nodup hLd List.nodup_range).2 fun x => by
    rw [List.mem_range]
    refine ⟨hLn x, fun h => ?_⟩
    have := per_all hP h
    unfold nts at this
    rw [List.mem_map] at this
    obtain ⟨y, hy, e⟩ := this
    have : y = x := by omega
    exact this ▸ hy
  have hat : ∀ (i : Nat) (h : i < L.length), pl.getD (L[i]) 0 = (i : Int) := by
    intro i h
    refine plc_at hP hpl (hLn _ (List.getElem_mem h)) ?_ ?_
    · unfold nts; rw [List.getElem?_map, List.getElem?_eq_getElem h]; rfl
    · have := hP.1; rw [nts_length] at this; omega
  have hpw : L.Pairwise (fun u v => pl.getD u 0 < pl.getD v 0) := by
    rw [List.pairwise_iff_getElem]
    intro i j hi hj hij
    rw [hat i hi, hat j hj]; omega
  rw [← cl_perm (ad_sym hc) (k + 1) hLp]
  show tsum _ L = _
  rw [tsum_sorted (fun v => pl.getD v 0) _ L hpw]
  rw [(hLp.map _).sum_nat]
  congr 1
  refine List.map_congr_left fun v _ => ?_
  exact cl_perm (ad_sym hc) k ((hLp.filter _).filter _)
/-- The bound. -/
theorem cl_bound (k : Nat) : cl (ad (rowsL n es)) (k + 1) (List.range n) ≤ ((List.range n).map fun v => ch (ahdR n es pl v).length k).sum := by
  rw [cl_ahead hc hn hP hpl k]
  have : ∀ M : List Nat, (M.map fun v => cl (ad (rowsL n es)) k (ahN n es pl v)).sum ≤ (M.map fun v => ch (ahdR n es pl v).length k).sum := by
    intro M
    induction M with
    | nil => exact Nat.le_refl _
    | cons v M ih =>
      rw [List.map_cons, List.map_cons, List.sum_cons, List.sum_cons]
      have := cl_le_ch (ad (rowsL n es)) k (ahN n es pl v)
      rw [ahN_len hc hn] at this
      omega
  exact this _
theorem cl_two : cl (ad (rowsL n es)) 2 (List.range n) = es.length := by
  rw [cl_ahead hc hn hP hpl 1, ← ahd_sum hc hP hpl]
  congr 1
  exact List.map_congr_left fun v _ => by rw [cl_one, ahN_len hc hn]
theorem bound_two : ((List.range n).map fun v => ch (ahdR n es pl v).length 1).sum = es.length := by
  rw [← ahd_sum hc hP hpl]
  congr 1
  exact List.map_congr_left fun v _ => ch_one _
end
end Go.Proofs.YtknlmgcbdcepnaaDoor

namespace Go.Proofs.YtknlmgcbdcepnaaDoor
open Go.RowKit CoBit CoCli

theorem isum_take (L : List Int) (h : ∀ x ∈ L, 0 ≤ x) (j : Nat) : 0 ≤ (L.take j).sum ∧ (L.take j).sum ≤ L.sum := by
  induction L generalizing j with
  | nil => simp
  | cons x L ih =>
    have h0 := h x (by simp)
    have hs : ∀ y ∈ L, 0 ≤ y := fun y hy => h y (by simp [hy])
    cases j with
    | zero => have := ih hs L.length; rw [List.take_length] at this; simp; omega
    | succ j => have := ih hs j; rw [List.take_succ_cons, List.sum_cons, List.sum_cons]; omega
theorem isum_succ {L : List Int} {j : Nat} {x : Int} (h : L[j]? = some x) : (L.take (j + 1)).sum = (L.take j).sum + x := by
  obtain ⟨hj, rfl⟩ := List.getElem?_eq_some_iff.1 h
  rw [List.take_succ_eq_append_getElem hj, List.sum_append]; simp
theorem isum_map {α : Type} (f : α → Nat) (l : List α) : (l.map fun v => ((f v : Nat) : Int)).sum = (((l.map f).sum : Nat) : Int) := by
  induction l with
  | nil => rfl
  | cons v l ih => rw [List.map_cons, List.map_cons, List.sum_cons, List.sum_cons, ih]; omega
/-- What the law Sums wants of the numbers. -/
structure SumF (n : Nat) (es : List (Int × Int)) (t N B : Nat) : Prop where
  a0 : (cntL n es 6)[0]? = some (n : Int)
  a1 : (cntL n es 6)[1]? = some (es.length : Int)
  a : (cntL n es 6)[t + 1]? = some (N : Int)
  al : (cntL n es 6).length = 6
  p0 : ∀ x ∈ nodL n es (t + 1), 0 ≤ x
  p : (nodL n es (t + 1)).sum = ((t + 2 : Nat) : Int) * (N : Int)
  q0 : ∀ x ∈ edgC n es t, 0 ≤ x
  q : 2 * (edgC n es t).sum = ((t + 2 : Nat) : Int) * (((t + 1 : Nat) : Int) * (N : Int))
  b : N ≤ B
  b2 : t = 0 → N = B
  N9 : N ≤ 126
theorem ch9 (k : Nat) (hk : k ≤ 6) : ch 9 k ≤ 126 := by
  match k, hk with
  | 0, _ => decide
  | 1, _ => decide
  | 2, _ => decide
  | 3, _ => decide
  | 4, _ => decide
  | 5, _ => decide
  | 6, _ => decide
theorem sumF {n : Nat} {es : List (Int × Int)} {o pl : List Int} {t : Nat} (hc : chkG n es = 0) (hn : n ≤ 9) (hP : Per o n) (hpl : PlcOk n o n pl) (ht : t ≤ 4) :
    SumF n es t (cl (ad (rowsL n es)) (t + 2) (List.range n)) (bndS n es pl (t + 1) n) := by
  have hN : cl (ad (rowsL n es)) (t + 2) (List.range n) ≤ 126 := by
    refine Nat.le_trans (cl_le_ch _ _ _) (Nat.le_trans (ch_mono _ (by simpa using hn)) (ch9 _ (by omega)))
  refine ⟨?_, ?_, ?_, by simp [cntL], ?_, ?_, ?_, ?_, cl_bound hc (by omega) hP hpl (t + 1), ?_, hN⟩
  · have : cl (ad (rowsL n es)) 1 (List.range n) = n := by rw [cl_one, List.length_range]
    simp [cntL, this]
  · have := cl_two hc (by omega) hP hpl
    simp [cntL, this]
  · unfold cntL
    rw [List.getElem?_map, List.getElem?_range (by omega)]; rfl
  · intro x hx
    unfold nodL at hx
    rw [List.mem_map] at hx
    obtain ⟨v, _, rfl⟩ := hx
    exact Int.natCast_nonneg _
  · unfold nodL
    rw [isum_map, nod_sum hc, Int.natCast_mul]
  · intro x hx
    unfold edgC at hx
    rw [List.mem_map] at hx
    obtain ⟨v, _, rfl⟩ := hx
    exact Int.natCast_nonneg _
  · unfold edgC
    rw [isum_map]
    have := edg_sum hc (show n ≤ 64 by omega) t
    have h2 : ((2 * (es.map fun e => cl (ad (rowsL n es)) t (cmn n es e.1.toNat e.2.toNat)).sum : Nat) : Int) = (((t + 2) * ((t + 1) * cl (ad (rowsL n es)) (t + 2) (List.range n)) : Nat) : Int) := by rw [this]
    rw [Int.natCast_mul, Int.natCast_mul, Int.natCast_mul] at h2
    exact h2
  · intro h
    subst h
    rw [cl_two hc (by omega) hP hpl]
    exact (bound_two hc (by omega) hP hpl).symm
end Go.Proofs.YtknlmgcbdcepnaaDoor
