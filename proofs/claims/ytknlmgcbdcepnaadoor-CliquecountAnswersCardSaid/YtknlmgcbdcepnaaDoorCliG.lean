/- Package cliquecount: Ahead. -/
import Derived.Test.YtknlmgcbdcepnaaDoorGphB
import Derived.Test.YtknlmgcbdcepnaaDoorCliE
import Derived.Test.YtknlmgcbdcepnaaDoorCorH
import Derived.Test.YtknlmgcbdcepnaaDoorMakC
set_option linter.unusedVariables false
set_option linter.unusedSimpArgs false
namespace Go.Proofs.YtknlmgcbdcepnaaDoor
open Go.RowKit CoBit CoCli

/-- A row of a list of lists that block g holds. -/
def RowOk (w : World) (g : Nat) (v : Value) (ys : List Int) : Prop := ∃ A k c, v = .slice A k c ∧ k ≤ c ∧ RI w A k ys ∧ Fr (g + 1) A
theorem RowOk.grown {w w' : World} {g : Nat} {v : Value} {ys : List Int} (h : RowOk w g v ys) (hg : w.grownBy w' (some g)) : RowOk w' g v ys := by
  obtain ⟨A, k, c, rfl, h1, h2, h3⟩ := h
  exact ⟨A, k, c, rfl, h1, RI.kept h2 hg (fun ad e he => by have := h3 ad e; injection he with he; omega), h3⟩
theorem RowOk.below {w w' : World} {g b : Nat} {v : Value} {ys : List Int} (h : RowOk w g v ys) (hb : Below b w w') (hB : w.heap.size ≤ b) : RowOk w' g v ys := by
  obtain ⟨A, k, c, rfl, h1, h2, h3⟩ := h
  exact ⟨A, k, c, rfl, h1, RI.below h2 hb hB, h3⟩
/-- Block g holds the lists L. -/
def LL (w : World) (g : Nat) (L : List (List Int)) : Prop := ∃ vs : List Value, Blk w g 26 vs.toArray ∧ vs.length = L.length ∧ ∀ (i : Nat) (v : Value) (ys : List Int), vs[i]? = some v → L[i]? = some ys → RowOk w g v ys
theorem LL.lt {w : World} {g : Nat} {L : List (List Int)} (h : LL w g L) : g < w.heap.size := by obtain ⟨vs, h, _⟩ := h; exact h.lt
theorem LL.below {w w' : World} {g b : Nat} {L : List (List Int)} (h : LL w g L) (hb : Below b w w') (hB : w.heap.size ≤ b) : LL w' g L := by
  obtain ⟨vs, h1, h2, h3⟩ := h
  exact ⟨vs, h1.below hb (Nat.lt_of_lt_of_le h1.lt hB), h2, fun i v ys hv hy => (h3 i v ys hv hy).below hb hB⟩
theorem LL.drewN {w : World} {g : Nat} {L : List (List Int)} (h : LL w g L) (q : Nat) : LL (w.drewN q) g L := h
theorem LL.alloc {w : World} {g : Nat} {L : List (List Int)} (h : LL w g L) (o : Obj) : LL (w.alloc o) g L := h.below ((Below.refl _ _).alloc (Nat.le_refl _) o) (Nat.le_refl _)
/-- A row is read. -/
theorem LL.get {w : World} {g : Nat} {L : List (List Int)} (h : LL w g L) {i : Nat} (hi : i < L.length) : ∃ A k c ys, w.cell? ⟨g, i, none⟩ = some (.slice A k c) ∧ Hid (L[i]? = some ys) ∧ k ≤ c ∧ RI w A k ys := by
  obtain ⟨vs, h1, h2, h3⟩ := h
  have hl : i < vs.length := by omega
  obtain ⟨A, k, c, he, h4, h5, _⟩ := h3 i vs[i] L[i] (List.getElem?_eq_getElem hl) (List.getElem?_eq_getElem hi)
  refine ⟨A, k, c, L[i], ?_, Lib.hid (List.getElem?_eq_getElem hi), h4, h5⟩
  rw [Blk.cell h1 i, ← he]
  simp [hl]
theorem slice_info : (Tryd.prog.info? 26).map (fun i => (i.zero, i.size, i.bytes)) = some (some (.slice none 0 0), 1, 24) := by kernel_rfl
/-- make([][]int, n) -/
theorem wpList_makeL {ops : Array Oper} {rest : List Oper} {o : Oper} {a : Act} {Q : Exit → Act → World → Prop} {w : World} {L C : Int} {n : Nat}
    (hg : o.guard = none) (l c : Operand) (hop : o.op = Op.makeSlice 45 l c) (hl : a.eval l = .int .i64 L) (hc : a.eval c = .int .i64 C) (hL : L = (n : Int)) (hC : C = (n : Int)) (hn : n ≤ 1099511627776)
    (h : ∀ w', Blk w' w.heap.size 26 (List.replicate n (.slice none 0 0)).toArray → w.grownBy w' none → wpList Tryd.prog ops Q rest (a.put o.dst (.slice (some ⟨w.heap.size, 0, none⟩) n n)) w') :
    wpList Tryd.prog ops Q (o :: rest) a w := by
  obtain ⟨i0, hi0, hz0, hz1, hz2⟩ := info_parts slice_info
  refine wpList_make_full w hg l c 45 hop w.heap.size 26 i0 _ 1 Tryd.underlying45 hi0 hz0 hz1 _ _ L C n hl hc hL hC (by rw [hz2]; omega) (by unfold maxLen; omega) (Nat.le_refl _) ?_
  intro w' h1 h2
  refine h w' ?_ h2
  have := blk_of_own h1
  rw [show (Value.slice none 0 0).cells = #[.slice none 0 0] from rfl, Nat.mul_one, toList_madeCells_one] at this
  exact this
/-- Where each node stands. -/
def PlcOk (n : Nat) (o : List Int) (k : Nat) (pl : List Int) : Prop := pl.length = n ∧ ∀ i v, i < k → o[i]? = some v → pl.getD v.toNat 0 = (i : Int)
theorem plc_step {n : Nat} {o : List Int} {k : Nat} {pl : List Int} {v : Nat} (h : PlcOk n o k pl) (hv : o[k]? = some (v : Int)) (hvn : v < n) (hnd : o.Nodup) (hr : ∀ x ∈ o, 0 ≤ x ∧ x < n) : PlcOk n o (k + 1) (pl.set v (k : Int)) := by
  refine ⟨by rw [List.length_set]; exact h.1, fun i u hi hu => ?_⟩
  have hu0 := hr u (List.mem_of_getElem? hu)
  obtain ⟨u, rfl⟩ := Int.eq_ofNat_of_zero_le hu0.1
  rw [Int.toNat_natCast, List.getD_eq_getElem?_getD, List.getElem?_set]
  by_cases he : v = u
  · subst he
    rw [if_pos rfl, if_pos (by rw [h.1]; exact hvn)]
    have : i = k := by
      exact (List.getElem?_inj (List.getElem?_eq_some_iff.1 hu).1 hnd).1 (hu.trans hv.symm)
    rw [this]; rfl
  · rw [if_neg he]
    have hik : i < k := by
      rcases Nat.lt_or_ge i k with hik | hik
      · exact hik
      · have : i = k := by omega
        subst this
        rw [hv] at hu
        injection hu with hu
        omega
    have := h.2 i (u : Int) hik hu
    rwa [Int.toNat_natCast, List.getD_eq_getElem?_getD] at this
/-- The neighbours of a node that stand behind it. -/
def ahdR (n : Nat) (es : List (Int × Int)) (pl : List Int) (v : Nat) : List Int := (nbG n es v).filter fun u => decide (pl.getD v 0 < pl.getD u.toNat 0)
def ahdL (n : Nat) (es : List (Int × Int)) (pl : List Int) : List (List Int) := (List.range n).map (ahdR n es pl)
end Go.Proofs.YtknlmgcbdcepnaaDoor

namespace Go.Proofs.YtknlmgcbdcepnaaDoor
open Go.RowKit CoBit CoCli

/-- The call returns a new list of lists. -/
def RetLL (w : World) (n : Nat) (L : List (List Int)) (e : Ending) (w' : World) : Prop := ∃ g, e = .returned (.tuple #[.slice (some ⟨g, 0, none⟩) n n, .int .i64 0]) ∧ w.heap.size ≤ g ∧ LL w' g L ∧ Below w.heap.size w w'
/-- The rows while they are made: the first v are whole, those behind are empty. -/
def LLs (w : World) (g n v : Nat) (R : Nat → List Int) (vs : List Value) : Prop := Blk w g 26 vs.toArray ∧ vs.length = n ∧ (∀ i u, i < v → vs[i]? = some u → RowOk w g u (R i)) ∧ ∀ i u, v ≤ i → vs[i]? = some u → u = .slice none 0 0
theorem LLs.grown {w w' : World} {g n v : Nat} {R : Nat → List Int} {vs : List Value} (h : LLs w g n v R vs) (hb : Below w.heap.size w w') : LLs w' g n v R vs :=
  ⟨h.1.below hb h.1.lt, h.2.1, fun i u hi hu => (h.2.2.1 i u hi hu).below hb (Nat.le_refl _), h.2.2.2⟩
theorem LLs.cell {w : World} {g n v i : Nat} {R : Nat → List Int} {vs : List Value} (h : LLs w g n v R vs) (hi : i < n) : ∃ u, vs[i]? = some u ∧ w.cell? ⟨g, i, none⟩ = some u := by
  have hl : i < vs.length := by rw [h.2.1]; exact hi
  exact ⟨vs[i], List.getElem?_eq_getElem hl, by rw [Blk.cell h.1 i]; simp [hl]⟩
/-- The row at hand gets a new value. -/
theorem LLs.put {w w' : World} {g n v : Nat} {R : Nat → List Int} {vs : List Value} {u : Value} (h : LLs w g n v R vs) (hg : w.grownBy w' (some g)) (hb : Blk w' g 26 (vs.set v u).toArray) :
    Blk w' g 26 (vs.set v u).toArray ∧ (vs.set v u).length = n ∧ (∀ i x, i < v → (vs.set v u)[i]? = some x → RowOk w' g x (R i)) ∧ ∀ i x, v < i → (vs.set v u)[i]? = some x → x = .slice none 0 0 := by
  refine ⟨hb, by rw [List.length_set]; exact h.2.1, fun i x hi hx => ?_, fun i x hi hx => ?_⟩
  · rw [List.getElem?_set_ne (by omega)] at hx
    exact (h.2.2.1 i x hi hx).grown hg
  · rw [List.getElem?_set_ne (by omega)] at hx
    exact h.2.2.2 i x (by omega) hx

set_option maxRecDepth 100000 in
set_option maxHeartbeats 4000000 in
theorem ahead_any (A : Option Addr) (m c : Nat) (n : Nat) (es : List (Int × Int)) (w : World) (hT : Tab w) (h : RE w A m es) (hm : m ≤ 68719476736) (hz : chkG n es = 0) (hn : n ≤ 64) :
    Calls Tryd.prog 24 #[.agg #[.int .i64 n, .slice A m c]] w fun e w' => ∃ o pl, Per o n ∧ IsOrd n es o ∧ PlcOk n o n pl ∧ RetLL w n (ahdL n es pl) e w' := by
  obtain ⟨i0, hi0, hz0, hz1, hz2⟩ := info_parts int_info
  have k1 := fun w hT h => cOrder_any A m c n es w hT h hm
  rw [hz] at k1
  replace k1 := Lib.hid k1
  have hgm : Hid (chkG (n : Int) es = 0) := Lib.hid hz
  clear hz
  go_enter Tryd.func24, Tryd.ntmps24
  go_wp2_with fail
  refine (k1.out _ (hT.alloc _) (h.alloc _)).mono ?_
  rintro e w1 ⟨o, ⟨A1, n1, c1, rfl, hc1, hr1, hb1, hf1⟩, hO⟩
  have hO1 := hO.1 hgm.out
  rw [Int.toNat_natCast] at hO1
  have hPer : Hid (Per o n) := Lib.hid ⟨hO1.2, (ps_range hO1.1).1, (ps_range hO1.1).2⟩
  replace hO := Lib.hid hO
  have G1 : Blk w1 w.heap.size 24 #[.int .i64 n, .slice A m c] := Blk.below (Blk.new _ _ _) hb1 (by simp)
  have hb0 : Below w.heap.size w w1 := ((Below.refl _ _).alloc (Nat.le_refl _) _).trans (hb1.mono (by simp))
  obtain rfl : n1 = n := by rw [← hr1.len]; exact hPer.out.1
  clear hb1 hf1 hO1 k1
  have c0 := Blk.cell G1 0
  simp at c0
  have s1 := hb0.size
  go_wp2_with (at_make; refine wpList_makeI rfl _ _ rfl rfl rfl (n := n1) (by omega) (by omega) (by omega) ?_; intro w2 hA2 hg2)
  have hb2 := grown_none_below hg2 w1.heap.size (Nat.le_refl _)
  have G2 := G1.below hb2 G1.lt
  have hr2 := RI.below hr1 hb2 (Nat.le_refl _)
  have hb02 := hb0.trans (hb2.mono s1)
  have hpl0 : PlcOk n1 o 0 (List.replicate n1 0) := ⟨by simp, fun i v hi => by omega⟩
  have sg := G1.lt
  have hA1 : Hid (∀ ad, A1 = some ad → 0 < n1 → ad.block < w1.heap.size) := Lib.hid fun ad e h0 => by
    obtain ⟨ad', e', hb', _⟩ := (show Reads w1 w1.heap.size 1 A1 n1 (ints o) from hr1).2 h0
    rw [e] at e'
    injection e' with e'
    subst e'
    exact hb'
  clear hg2 hb2 G1 hr1 hb0 c0
  generalize w1.heap.size = gp at *
  go_loopw [26] (fun i wr => ∃ (k : Nat) (pl : List Int), k ≤ n1 ∧ i = .int .i64 k ∧ AI wr gp pl ∧ Hid (PlcOk n1 o k pl) ∧ RI wr A1 n1 o ∧ Blk wr w.heap.size 24 #[.int .i64 n1, .slice A m c] ∧ Below w.heap.size w wr) (fun i _ => n1 - (intOf i).toNat)
  case atStart => exact ⟨0, _, Nat.zero_le _, rfl, hA2, Lib.hid hpl0, hr2, G2, hb02⟩
  case round =>
    obtain ⟨k, pl, hk, rfl, hA, hpl, hr, hG, hb⟩ := hrel
    clear hA2 hpl0 hr2 G2 hb02
    by_cases hlt : k < n1
    · obtain ⟨ad, v, rfl, hv, hcv⟩ := hr.get hlt
      have hv0 := hPer.out.2.2 v (List.mem_of_getElem? hv.out)
      obtain ⟨v, rfl⟩ := Int.eq_ofNat_of_zero_le hv0.1
      have hst := Lib.hid (plc_step hpl.out hv.out (by omega) hPer.out.2.1 hPer.out.2.2)
      have hcp := hA.cell (i := v) (by rw [hpl.out.1]; omega)
      have hfp := hA.frozen v
      have hset := fun y => hA.set v y
      generalize pl.getD v 0 = old at *
      replace hset := Lib.hid hset
      have j0 : (0 : Int) ≤ (v : Int) := Int.natCast_nonneg _
      have j1 : (v : Int) < (n1 : Int) := by omega
      have hne : gp ≠ w.heap.size := by omega
      go_wp2_with fail
      go_roundw
      case rel => exact ⟨k + 1, _, by omega, by go_num, hset.out _, hst, RI.kept hr (grown_set (World.grownBy.refl wr (some gp)) v (.int .i64 (k : Int))) (fun ad' e e2 => by
          have h1 := hA1.out ad' e (by omega)
          injection e2 with e2
          omega), hG.far (p := ⟨gp, v, none⟩) (by simp; omega) _, hb.setCell (p := ⟨gp, v, none⟩) (by simp; omega) _⟩
      case measure => simp [intOf]; omega
    · obtain rfl : k = n1 := by omega
      have c0 := Blk.cell hG 0
      have c1' := Blk.cell hG 1
      simp at c0 c1'
      have sr := hb.size
      have hgp := hA.lt
      go_wp2_with (at_make; refine wpList_makeL rfl _ _ rfl rfl rfl (n := k) (by omega) (by omega) (by omega) ?_; intro w3 hL3 hg3)
      have hb3 := grown_none_below hg3 wr.heap.size (Nat.le_refl _)
      have hA3 := hA.below hb3 hgp
      have hG3 := hG.below hb3 hG.lt
      have hb03 := hb.trans (hb3.mono sr)
      have hL0 : LLs w3 wr.heap.size k 0 (ahdR k es pl) (List.replicate k (.slice none 0 0)) := ⟨hL3, by simp, fun i u hi => by omega, fun i u _ hu => (List.mem_replicate.1 (List.mem_of_getElem? hu)).2⟩
      have hgq := hL3.lt
      clear hg3 hb3 hL3 hA hG hb hr c0 c1'
      generalize wr.heap.size = gq at *
      have hgpq : gp < gq := hgp
      have hgq0 : w.heap.size < gq := by omega
      clear sr hgp
      go_loopw [41] (fun i wr => ∃ (v : Nat) (vs : List Value), v ≤ k ∧ i = .int .i64 v ∧ LLs wr gq k v (ahdR k es pl) vs ∧ AI wr gp pl ∧ Blk wr w.heap.size 24 #[.int .i64 k, .slice A m c] ∧ Below w.heap.size w wr) (fun i _ => k - (intOf i).toNat)
      case atStart => exact ⟨0, _, Nat.zero_le _, rfl, hL0, hA3, hG3, hb03⟩
      case round =>
        obtain ⟨v, vs, hv, rfl, hL, hA, hG, hb⟩ := hrel
        clear hL0 hA3 hG3 hb03
        by_cases hvk : v < k
        · obtain ⟨d0, d1⟩ := (⟨Blk.cell hG 0, Blk.cell hG 1⟩ : wr.cell? ⟨w.heap.size, 0, none⟩ = some (.int .i64 k) ∧ wr.cell? ⟨w.heap.size, 1, none⟩ = some (.slice A m c))
          go_wp2_with fail
          refine (gneigh_any A m c k es v wr (hT.keep hb) (h.below hb (Nat.le_refl _)) (by omega) hgm.out hn hvk).mono ?_
          rintro e w9 ⟨A9, n9, c9, rfl, hc9, hr9, hb9, hf9⟩
          have hL9 := hL.grown hb9
          have hA9 := hA.below hb9 hA.lt
          have hG9 := hG.below hb9 hG.lt
          have hb09 := hb.trans (hb9.mono hb.size)
          have hgq9 : gq < wr.heap.size := hL.1.lt
          have hs9 := hb9.size
          have hl9 := Lib.hid hr9.len
          have hf9' := Lib.hid hf9
          obtain ⟨u0, hu0, hcu0⟩ := hL9.cell hvk
          have hu0' := hL9.2.2.2 v u0 (Nat.le_refl _) hu0
          subst hu0'
          have hvs0 : vs.set v (.slice none 0 0) = vs := by
            obtain ⟨h1, h2⟩ := List.getElem?_eq_some_iff.1 hu0
            rw [← h2, List.set_getElem_self]
          have hnb : ∀ x ∈ nbG k es v, 0 ≤ x ∧ x < k := fun x hx => nbG_range hgm.out hx
          replace hnb := Lib.hid hnb
          have hnbd : (nbG k es v).length ≤ 64 := by rw [← row_nb hgm.out hn v, nts_length]; exact bl_length _
          have hahd : ahdR k es pl v = (nbG k es v).filter fun u => decide (pl.getD v 0 < pl.getD u.toNat 0) := rfl
          replace hahd := Lib.hid hahd
          have hn9 : n9 ≤ 64 := by rw [← hl9.out]; exact hnbd
          generalize nbG k es v = nb at *
          have hA9l := hA9.lt
          clear hL hA hG hb hb9 hf9 hu0 hcu0 d0 d1
          go_wp2_with fail
          obtain ⟨wo, rfl⟩ : ∃ wo : World, wo = w9 := ⟨_, rfl⟩
          go_loopw [48] (fun i wr => ∃ (j : Nat) (u : Value), j ≤ n9 ∧ i = .int .i64 j ∧ Blk wr gq 26 (vs.set v u).toArray ∧ OI wr wo.heap.size u ((nb.take j).filter fun u => decide (pl.getD v 0 < pl.getD u.toNat 0)) ∧ wo.grownBy wr (some gq)) (fun i _ => n9 - (intOf i).toNat)
          case atStart => exact ⟨0, .slice none 0 0, Nat.zero_le _, rfl, by rw [hvs0]; exact hL9.1, OI.nil_, World.grownBy.refl _ _⟩
          case round =>
            obtain ⟨j, u, hj, rfl, hB, ho, hgr⟩ := hrel
            have hAr := hA9.grown hgr (by intro e; injection e with e; omega)
            have hsr := hgr.size
            by_cases hjn : j < n9
            · obtain ⟨ad9, x, e9, hx, hcx⟩ := (RI.kept hr9 hgr (fun ad e e2 => by have := hf9'.out ad e; injection e2 with e2; omega)).get hjn
              have hx0 := hnb.out x (List.mem_of_getElem? hx.out)
              obtain ⟨x, rfl⟩ := Int.eq_ofNat_of_zero_le hx0.1
              have p1 := hAr.cell (i := x) (by rw [hpl.out.1]; omega)
              have p2 := hAr.cell (i := v) (by rw [hpl.out.1]; omega)
              have htk : nb.take (j + 1) = nb.take j ++ [(x : Int)] := take_at hx.out
              have hfl : (nb.take (j + 1)).filter (fun u => decide (pl.getD v 0 < pl.getD u.toNat 0)) = if pl.getD v 0 < pl.getD x 0 then (nb.take j).filter (fun u => decide (pl.getD v 0 < pl.getD u.toNat 0)) ++ [(x : Int)] else (nb.take j).filter (fun u => decide (pl.getD v 0 < pl.getD u.toNat 0)) := by
                rw [htk, List.filter_append]
                by_cases hlt : pl.getD v 0 < pl.getD x 0
                · rw [if_pos hlt, List.filter_cons, if_pos (by simpa using hlt)]; rfl
                · rw [if_neg hlt, List.filter_cons, if_neg (by simpa using hlt)]; simp
              have hfn : ((nb.take j).filter fun u => decide (pl.getD v 0 < pl.getD u.toNat 0)).length ≤ 64 := Nat.le_trans (List.length_filter_le _ _) (by rw [List.length_take]; omega)
              have j0 : (0 : Int) ≤ (x : Int) := Int.natCast_nonneg _
              have j1 : (x : Int) < (k : Int) := by omega
              have j2 : (0 : Int) ≤ (v : Int) := Int.natCast_nonneg _
              have j3 : (v : Int) < (k : Int) := by omega
              have hq : (decide (pl.getD v 0 < pl.getD x 0) = true ∧ pl.getD v 0 < pl.getD x 0) ∨ (decide (pl.getD v 0 < pl.getD x 0) = false ∧ ¬ pl.getD v 0 < pl.getD x 0) := by
                by_cases hlt : pl.getD v 0 < pl.getD x 0
                · exact .inl ⟨by simpa using hlt, hlt⟩
                · exact .inr ⟨by simpa using hlt, hlt⟩
              subst e9
              clear htk
              rcases hq with ⟨q1, q2⟩ | ⟨q1, q2⟩
              · rw [if_pos q2] at hfl
                clear q2
                generalize pl.getD x 0 = PX at *
                generalize hpv : pl.getD v 0 = PV at *
                replace hpv := Lib.hid hpv
                replace hfl := Lib.hid hfl
                have hbc := Blk.cell hB v
                have hvl : v < vs.length := by rw [hL9.2.1]; exact hvk
                have hbc' : wr.cell? ⟨gq, v, none⟩ = some u := by rw [hbc]; simp [hvl]
                clear hbc
                have hfz := Blk.frozen hB v
                go_wp2_with fail
                go_quiet (fail)
                clear p1 p2 q1
                have hgqo : gq < wo.heap.size := by omega
                generalize ((nb.take j).filter fun u => decide (PV < pl.getD u.toNat 0)) = F at *
                obtain ⟨Au, nu, cu, rfl, hnu, hcu, _, _⟩ := ho.form
                replace hnu := Lib.hid hnu
                go_wp2_with (at_builtin; refine wpList_append_any _ rfl _ _ 26 rfl wo.heap.size 3 i0 _ 1 8 Tryd.underlying26 hi0 hz0 hz1 hz2 rfl (by omega) (.slice Au nu cu) F.length (ints F) rfl ((ho.alloc _).drewN _) _ (some ⟨wr.heap.size, 0, none⟩) 1 1 (ints [(x : Int)]) rfl ((RI.one (x : Int)).drewN _) (ints_one _) (by unfold maxLen; omega) (by omega) (by simp; omega) ?_; intro v' w4 h1' hg4 hat4; have hB4 := Blk.grown ((hB.alloc _).drewN _) hg4 (fun e => by have := (ho.block_lt _ e.symm).1; omega); have hbc4 := Blk.cell hB4 v; have hbc5 : w4.cell? ⟨gq, v, none⟩ = some (.slice Au nu cu) := (by rw [hbc4]; simp [hvl]); clear hbc4; have hfz4 := Blk.frozen hB4 v; have ho' : OI w4 wo.heap.size v' (F ++ [(x : Int)]) := (by unfold OI; rw [List.length_append, ints_append]; exact h1'); obtain ⟨A4, n4, c4, rfl, hn4, hc4, _, _⟩ := ho'.form; replace hn4 := Lib.hid hn4)
                have hB5 := Blk.set hB4 v (.slice A4 n4 c4)
                have hse : (vs.set v (.slice Au nu cu)).toArray.setIfInBounds v (.slice A4 n4 c4) = (vs.set v (.slice A4 n4 c4)).toArray := by simp
                rw [hse] at hB5
                have ho5 := ho'.set v hgqo (.slice A4 n4 c4)
                have hgr5 := grown_set (grown_of_new (grown_drewN (grown_alloc hgr (.cells #[.int .i64 x] 3)) _) hg4 (own_block ho)) v (.slice A4 n4 c4)
                clear hB4 hbc5 hfz4 ho' hg4 hat4 h1' hse hbc' hfz
                go_roundw
                case rel => exact ⟨j + 1, _, by omega, by go_num, hB5, by rw [hfl.out]; exact ho5, hgr5⟩
                case measure => simp [intOf]; omega
              · rw [if_neg q2] at hfl
                clear q2
                generalize pl.getD x 0 = PX at *
                generalize hpv : pl.getD v 0 = PV at *
                replace hpv := Lib.hid hpv
                replace hfl := Lib.hid hfl
                go_wp2_with fail
                go_quiet (fail)
                go_wp2_with fail
                go_roundw
                case rel => exact ⟨j + 1, u, by omega, by go_num, hB.drewN _, by rw [hfl.out]; exact ho.drewN _, grown_drewN hgr _⟩
                case measure => simp [intOf]; omega
            · have hjj : j = n9 := by omega
              subst hjj
              have hall : nb.take j = nb := List.take_of_length_le (by rw [hl9.out]; exact Nat.le_refl _)
              rw [hall, ← hahd.out] at ho
              have hpt := hL9.put hgr hB
              have hrow : RowOk wr gq u (ahdR k es pl v) := by
                obtain ⟨Au, nu, cu, rfl, hnu, hcu, _, hru⟩ := ho.form
                exact ⟨Au, nu, cu, rfl, hcu, hru, (ho.fresh hnu).mono (by omega)⟩
              have hvl : v < vs.length := by rw [hL9.2.1]; exact hvk
              have hLn : LLs wr gq k (v + 1) (ahdR k es pl) (vs.set v u) := by
                refine ⟨hpt.1, hpt.2.1, fun i x hi hx => ?_, fun i x hi hx => hpt.2.2.2 i x (by omega) hx⟩
                by_cases he : i = v
                · subst he
                  rw [List.getElem?_set_self hvl] at hx
                  injection hx with hx
                  exact hx ▸ hrow
                · exact hpt.2.2.1 i x (by omega) hx
              have hGn := hG9.grown hgr (by intro e; injection e with e; omega)
              have hbn := hb09.trans (grown_is_below hgr (by omega) hb09.size)
              clear hB ho hgr hpt hrow
              go_wp2_with fail
              go_roundw
              case rel => exact ⟨v + 1, _, by omega, by go_num, hLn, hAr, hGn, hbn⟩
              case measure => simp [intOf]; omega
        · have hvv : v = k := by omega
          subst hvv
          have hLL : LL wr gq (ahdL v es pl) := by
            refine ⟨vs, hL.1, by rw [hL.2.1]; simp [ahdL], fun i u ys hu hy => ?_⟩
            have hi : i < v := by
              have := (List.getElem?_eq_some_iff.1 hu).1
              rw [hL.2.1] at this; exact this
            have hys : ys = ahdR v es pl i := by
              unfold ahdL at hy
              rw [List.getElem?_map, List.getElem?_range hi] at hy
              injection hy with hy
              exact hy.symm
            rw [hys]
            exact hL.2.2.1 i u hi hu
          clear hL hA hG
          go_wp2_with fail
          go_ret2
          exact ⟨o, pl, hPer.out, hO.out, hpl.out, gq, rfl, by omega, hLL, hb⟩
end Go.Proofs.YtknlmgcbdcepnaaDoor
