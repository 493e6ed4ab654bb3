/- Package cliquecount: Bound. -/
import Derived.Test.YtknlmgcbdcepnaaDoorCliG
import Derived.Test.YtknlmgcbdcepnaaDoorCliF
import Derived.Test.YtknlmgcbdcepnaaDoorSrtM
import Derived.Test.YtknlmgcbdcepnaaDoorGrfA
import Derived.Test.YtknlmgcbdcepnaaDoorOrdM
import Derived.Test.YtknlmgcbdcepnaaDoorPeeM
import Derived.Test.YtknlmgcbdcepnaaDoorLwcA
set_option linter.unusedVariables false
set_option linter.unusedSimpArgs false
set_option linter.unusedSectionVars false
namespace Go.Proofs.YtknlmgcbdcepnaaDoor
open Go.RowKit CoBit CoCli

theorem ahdR_len {n : Nat} {es : List (Int × Int)} (hc : chkG n es = 0) (hn : n ≤ 64) (pl : List Int) (v : Nat) : (ahdR n es pl v).length ≤ 64 := by
  unfold ahdR
  refine Nat.le_trans (List.length_filter_le _ _) ?_
  rw [← row_nb hc hn v, nts_length]
  exact bl_length _
theorem ahdL_at {n : Nat} {es : List (Int × Int)} {pl : List Int} {v : Nat} {ys : List Int} (hv : v < n) (h : (ahdL n es pl)[v]? = some ys) : ys = ahdR n es pl v := by
  unfold ahdL at h
  rw [List.getElem?_map, List.getElem?_range hv] at h
  injection h with h
  exact h.symm
theorem row64s : ((rowP 64).take 6).all (fun x => x ≤ 7624512) = true := by decide +kernel
theorem ch_small {a k : Nat} (ha : a ≤ 64) (hk : k ≤ 5) : ch a k ≤ 7624512 := by
  refine Nat.le_trans (ch_mono k ha) ?_
  have h1 := rowP_at 64 k (by omega)
  have h2 := List.all_eq_true.1 row64s (ch 64 k) (List.mem_iff_getElem?.2 ⟨k, by rw [List.getElem?_take_of_lt (by omega)]; exact h1⟩)
  simpa using h2
theorem chZ_ch {a k : Nat} (ha : a ≤ 64) : chZ (a : Int) (k : Int) = (ch a k : Nat) := by
  unfold chZ
  by_cases h : a < k
  · rw [if_pos (by omega), ch_gt h]; rfl
  · rw [if_neg (by omega)]; simp
/-- The sum of the bound over the first v nodes. -/
def bndS (n : Nat) (es : List (Int × Int)) (pl : List Int) (k v : Nat) : Nat := ((List.range v).map fun i => ch (ahdR n es pl i).length k).sum
theorem bndS_succ (n : Nat) (es : List (Int × Int)) (pl : List Int) (k v : Nat) : bndS n es pl k (v + 1) = bndS n es pl k v + ch (ahdR n es pl v).length k := by
  unfold bndS
  rw [List.range_succ, List.map_append, List.sum_append]; simp
theorem bndS_le {n : Nat} {es : List (Int × Int)} (hc : chkG n es = 0) (hn : n ≤ 64) (pl : List Int) {k : Nat} (hk : k ≤ 5) (v : Nat) : bndS n es pl k v ≤ 7624512 * v := by
  induction v with
  | zero => exact Nat.le_refl _
  | succ v ih => rw [bndS_succ]; have := ch_small (ahdR_len hc hn pl v) hk; omega

set_option maxRecDepth 100000 in
set_option maxHeartbeats 4000000 in
theorem bound_any (A : Option Addr) (m c : Nat) (n k : Nat) (es : List (Int × Int)) (w : World) (hT : Tab w) (h : RE w A m es) (hm : m ≤ 68719476736) (hz : chkG n es = 0) (hn : n ≤ 64) (hk : k ≤ 5) :
    Calls Tryd.prog 34 #[.agg #[.int .i64 n, .slice A m c], .int .i64 ((k : Int) + 1)] w fun e w' => ∃ o pl, Per o n ∧ IsOrd n es o ∧ PlcOk n o n pl ∧ e = .returned (.tuple #[.int .i64 (bndS n es pl k n : Nat), .int .i64 0]) ∧ Below w.heap.size w w' := by
  have k1 := fun w h => ccheck_any A m c n es ((k : Int) + 1) 1 w h (by omega)
  have hz0 : errC n es ((k : Int) + 1) 1 = 0 := by unfold errC; rw [if_neg (by omega), if_neg (by omega)]
  rw [hz0] at k1
  have hgm : Hid (chkG (n : Int) es = 0) := Lib.hid hz
  have i3 : IntKind.i64.wrap ((k : Int) + 1 - 1) = (k : Int) := by rw [show (k : Int) + 1 - 1 = (k : Int) by omega]; exact IntWalk.i64_in _ ⟨by omega, by omega⟩
  have i4 : IntKind.i64.wrap (k : Int) = (k : Int) := IntWalk.i64_in _ ⟨by omega, by omega⟩
  have i5 : (k : Int) + 1 - 1 = (k : Int) := by omega
  replace k1 := Lib.hid k1
  clear hz hz0
  go_enter Tryd.func34, Tryd.ntmps34
  go_wp2_with fail
  refine (k1.out _ (h.alloc _)).mono ?_
  rintro e w1 ⟨rfl, hb1⟩
  have G1 : Blk w1 w.heap.size 24 #[.int .i64 n, .slice A m c] := Blk.below (Blk.new _ _ _) hb1 (by simp)
  have hb0 : Below w.heap.size w w1 := ((Below.refl _ _).alloc (Nat.le_refl _) _).trans (hb1.mono (by simp))
  have hr1 := RE.below h hb0 (Nat.le_refl _)
  obtain ⟨d0, d1⟩ := blkG G1
  clear hb1 k1
  go_wp2_with fail
  refine (ahead_any A m c n es w1 (hT.keep hb0) hr1 (by omega) hgm.out (by omega)).mono ?_
  rintro e w2 ⟨o, pl, hP, hO, hpl, gq, rfl, hgq, hL, hb2⟩
  have hb02 := hb0.trans (hb2.mono hb0.size)
  replace hP := Lib.hid hP
  replace hO := Lib.hid hO
  replace hpl := Lib.hid hpl
  clear hb2 hb0 G1 hr1 d0 d1
  go_wp2_with fail
  go_loopw [9, 28] (fun s i wr => ∃ v : Nat, v ≤ n ∧ i = .int .i64 v ∧ s = .int .i64 (bndS n es pl k v : Nat) ∧ Below w2.heap.size w2 wr) (fun _ i _ => n - (intOf i).toNat)
  case atStart => exact ⟨0, Nat.zero_le _, rfl, rfl, Below.refl _ _⟩
  case round =>
    obtain ⟨v, hv, rfl, rfl, hb⟩ := hrel
    by_cases hvn : v < n
    · obtain ⟨Av, kv, cv, ys, hcv, hys, hkc, hrv⟩ := (hL.below hb (Nat.le_refl _)).get (i := v) (by simp [ahdL]; exact hvn)
      obtain rfl := ahdL_at hvn hys.out
      have hlv := Lib.hid hrv.len
      have hk64 : kv ≤ 64 := by rw [← hrv.len]; exact ahdR_len hgm.out (by omega) pl v
      have hsb := bndS_le hgm.out (show n ≤ 64 by omega) pl hk v
      have hst := Lib.hid (bndS_succ n es pl k v)
      have kch := fun w => choose_any (kv : Int) (k : Int) w
      rw [chZ_ch hk64] at kch
      have hcs := ch_small hk64 hk
      generalize hC : ch kv k = C at *
      replace hC := Lib.hid hC
      replace kch := Lib.hid kch
      have i0 : (0 : Int) ≤ (v : Int) := Int.natCast_nonneg _
      have i1 : (v : Int) < (n : Int) := by omega
      clear hys
      generalize hSv : bndS n es pl k v = Sv at *
      replace hSv := Lib.hid hSv
      go_wp2_with (go_at_call 12; refine (kch.out _).mono ?_; rintro e w4 ⟨rfl, hbn⟩)
      go_roundw
      case rel => exact ⟨v + 1, by omega, by go_num, by rw [hst.out, hlv.out, hC.out]; go_num, hb.trans ((by simpa using hbn : Below wr.heap.size wr w4).mono hb.size)⟩
      case measure => simp [intOf]; omega
    · obtain rfl : v = n := by omega
      have hbe := hb02.trans (hb.mono hb02.size)
      go_wp2_with fail
      go_ret2
      exact ⟨o, pl, hP.out, hO.out, hpl.out, rfl, hbe⟩
end Go.Proofs.YtknlmgcbdcepnaaDoor

namespace Go.Proofs.YtknlmgcbdcepnaaDoor
open Go.RowKit CoBit CoCli

theorem per_ix {o : List Int} {n : Nat} (h : Per o n) {v : Nat} (hv : v < n) : ∃ i : Nat, i < n ∧ o[i]? = some (v : Int) := by
  have := List.mem_iff_getElem?.1 (per_all h hv)
  obtain ⟨i, hi⟩ := this
  exact ⟨i, by have := (List.getElem?_eq_some_iff.1 hi).1; rw [h.1] at this; exact this, hi⟩
theorem fndE_mem' {es : List (Int × Int)} {e : Int × Int} (h : e ∈ es) : 0 ≤ fndE es e := by
  unfold fndE
  split
  · omega
  · rename_i hn
    rw [List.findIdx?_eq_none_iff] at hn
    have := hn e h
    simp at this
theorem rfnd_ok' {n : Int} {es : List (Int × Int)} (hz : chkG n es = 0) (u v : Int) : rfnd n es u v = fndE es (edgeP u v) := if_pos hz
theorem sum_single (q c : Nat) : ∀ {L : List Nat}, L.Nodup → (L.map fun v : Nat => if q = v then c else 0).sum = if q ∈ L then c else 0 := by
  intro L
  induction L with
  | nil => intro _; rfl
  | cons a S ih =>
    intro hn
    obtain ⟨h1, h2⟩ := List.nodup_cons.1 hn
    simp only [List.map_cons, List.sum_cons]
    rw [ih h2]
    by_cases h : q = a
    · subst h; simp [h1]
    · simp [h]
section
variable {n : Nat} {es : List (Int × Int)} {o pl : List Int} (hc : chkG n es = 0) (hP : Per o n) (hpl : PlcOk n o n pl)
include hP hpl
theorem plc_at {v i : Nat} (hv : v < n) (hi : o[i]? = some (v : Int)) (hin : i < n) : pl.getD v 0 = (i : Int) := by
  have := hpl.2 i (v : Int) hin hi
  rwa [Int.toNat_natCast] at this
theorem plc_inj {u v : Nat} (hu : u < n) (hv : v < n) (h : pl.getD u 0 = pl.getD v 0) : u = v := by
  obtain ⟨i, hi, h1⟩ := per_ix hP hu
  obtain ⟨j, hj, h2⟩ := per_ix hP hv
  rw [plc_at hP hpl hu h1 hi, plc_at hP hpl hv h2 hj] at h
  have : i = j := by omega
  subst this
  rw [h1] at h2
  injection h2 with h2
  omega
include hc
theorem ahd_mem {v : Nat} {x : Int} : x ∈ ahdR n es pl v ↔ x ∈ nbG n es v ∧ pl.getD v 0 < pl.getD x.toNat 0 := by
  unfold ahdR
  rw [List.mem_filter, decide_eq_true_iff]
theorem ahd_nat {v : Nat} {x : Int} (h : x ∈ ahdR n es pl v) : ∃ u : Nat, x = (u : Int) ∧ u < n := by
  have h1 := nbG_range hc ((ahd_mem hc hP hpl).1 h).1
  exact ⟨x.toNat, by omega, by omega⟩
/-- Nobody is ahead both ways. -/
theorem ahd_not {u v : Nat} (h : (u : Int) ∈ ahdR n es pl v) : (v : Int) ∉ ahdR n es pl u := by
  intro h2
  have h1 := ((ahd_mem hc hP hpl).1 h).2
  have h3 := ((ahd_mem hc hP hpl).1 h2).2
  rw [Int.toNat_natCast] at h1 h3
  omega
theorem ahd_edge {u v : Nat} (h : (u : Int) ∈ ahdR n es pl v) : 0 ≤ rfnd n es u v := by
  rw [rfnd_ok' hc]
  refine fndE_mem' ?_
  have h1 := ((ahd_mem hc hP hpl).1 h).1
  unfold nbG at h1
  rw [if_pos hc, mem_of, mem_nbl] at h1
  have hs := srt_of_chk hc
  unfold edgeP
  rcases h1 with h1 | h1
  · have := hs.1 _ h1
    simp only at this
    rw [Int.min_eq_right (by omega), Int.max_eq_left (by omega)]; exact h1
  · have := hs.1 _ h1
    simp only at this
    rw [Int.min_eq_left (by omega), Int.max_eq_right (by omega)]; exact h1
/-- Nobody has more ahead than the degeneracy. -/
theorem ahd_deg {ns : List Int} (hn : IsNums (nbG n es) n ns) (hps : PS (nbG n es) n o) {v : Nat} (hv : v < n) : ((ahdR n es pl v).length : Int) ≤ maxL ns := by
  have hl : IsLater (nbG n es) n o ((List.range n).map fun v => ((ahdR n es pl v).length : Int)) := by
    refine ⟨by simp, fun i x hx => ?_⟩
    have hx0 := hP.2.2 x (List.mem_of_getElem? hx)
    obtain ⟨x, rfl⟩ := Int.eq_ofNat_of_zero_le hx0.1
    have hxn : x < n := by omega
    have hin : i < n := by have := (List.getElem?_eq_some_iff.1 hx).1; rw [hP.1] at this; exact this
    rw [Int.toNat_natCast, List.getD_eq_getElem?_getD, List.getElem?_map, List.getElem?_range hxn]
    simp only [Option.map_some, Option.getD_some]
    unfold ahdR dg
    congr 2
    refine List.filter_congr fun u hu => ?_
    have hu0 := nbG_range hc hu
    obtain ⟨u, rfl⟩ := Int.eq_ofNat_of_zero_le hu0.1
    have hun : u < n := by omega
    obtain ⟨j, hj, hju⟩ := per_ix hP hun
    rw [Int.toNat_natCast, plc_at hP hpl hxn hx hin, plc_at hP hpl hun hju hj]
    rw [Bool.eq_iff_iff, decide_eq_true_iff, decide_eq_true_iff]
    constructor
    · intro h
      rw [List.mem_iff_getElem?]
      exact ⟨j - (i + 1), by rw [List.getElem?_drop, show i + 1 + (j - (i + 1)) = j by omega]; exact hju⟩
    · intro h
      rw [List.mem_iff_getElem?] at h
      obtain ⟨t, ht⟩ := h
      rw [List.getElem?_drop] at ht
      have := nodup_at hP.2.1 ht hju
      omega
  have h1 := order_le hn hps hP.1 hl
  refine Int.le_trans (maxL_ge ?_) h1
  rw [List.mem_map]
  exact ⟨v, List.mem_range.2 hv, rfl⟩
/-- Every edge is ahead of exactly one of its ends. -/
theorem ahd_sum : ((List.range n).map fun v => (ahdR n es pl v).length).sum = es.length := by
  have hs := srt_of_chk hc
  have h1 : ∀ v : Nat, (ahdR n es pl v).length = ((nbl es v).filter fun u => decide (pl.getD v 0 < pl.getD u.toNat 0)).length := by
    intro v
    unfold ahdR
    refine nodup_filter_len ?_ (nbl_nodup hs v) (fun x => ?_) _
    · unfold nbG; rw [if_pos hc]; exact sorted_nodup (of_sorted _)
    · unfold nbG; rw [if_pos hc, mem_of]
  have h2 : ((List.range n).map fun v => (ahdR n es pl v).length) = (List.range n).map fun v : Nat => ((nbl es v).filter fun u => decide (pl.getD v 0 < pl.getD u.toNat 0)).length := List.map_congr_left fun v _ => h1 v
  rw [h2]
  have key : ∀ l : List (Int × Int), (∀ e ∈ l, 0 ≤ e.1 ∧ e.1 < e.2 ∧ e.2 < (n : Int)) → ((List.range n).map fun v : Nat => ((nbl l v).filter fun u => decide (pl.getD v 0 < pl.getD u.toNat 0)).length).sum = l.length := by
    intro l
    induction l with
    | nil => intro _; exact sum_zero _ _ fun _ _ => rfl
    | cons e l ih =>
      intro he
      obtain ⟨a, b, d⟩ := he e (by simp)
      obtain ⟨x, y⟩ := e
      simp only at a b d
      obtain ⟨x, rfl⟩ := Int.eq_ofNat_of_zero_le a
      obtain ⟨y, rfl⟩ := Int.eq_ofNat_of_zero_le (show 0 ≤ y by omega)
      have hx : x < n := by omega
      have hy : y < n := by omega
      have hne : pl.getD x 0 ≠ pl.getD y 0 := fun h => by have := plc_inj hP hpl hx hy h; omega
      have e1 : ((List.range n).map fun v : Nat => ((nbl (((x : Int), (y : Int)) :: l) v).filter fun u => decide (pl.getD v 0 < pl.getD u.toNat 0)).length) = (List.range n).map fun v : Nat => ((nbl l v).filter fun u => decide (pl.getD v 0 < pl.getD u.toNat 0)).length + ((if x = v then (if pl.getD x 0 < pl.getD y 0 then 1 else 0) else 0) + (if y = v then (if pl.getD y 0 < pl.getD x 0 then 1 else 0) else 0)) := by
        refine List.map_congr_left fun v _ => ?_
        rw [nbl_cons, List.filter_append, List.filter_append, List.length_append, List.length_append]
        simp only
        have t1 : (List.filter (fun u : Int => decide (pl.getD v 0 < pl.getD u.toNat 0)) (if (x : Int) = (v : Int) then [(y : Int)] else [])).length = if x = v then (if pl.getD x 0 < pl.getD y 0 then 1 else 0) else 0 := by
          by_cases h : x = v
          · subst h
            rw [if_pos rfl, if_pos rfl, List.filter_cons, Int.toNat_natCast]
            by_cases h3 : pl.getD x 0 < pl.getD y 0
            · rw [if_pos (by simpa using h3), if_pos h3]; rfl
            · rw [if_neg (by simpa using h3), if_neg h3]; rfl
          · rw [if_neg (by omega), if_neg h]; rfl
        have t2 : (List.filter (fun u : Int => decide (pl.getD v 0 < pl.getD u.toNat 0)) (if (y : Int) = (v : Int) then [(x : Int)] else [])).length = if y = v then (if pl.getD y 0 < pl.getD x 0 then 1 else 0) else 0 := by
          by_cases h : y = v
          · subst h
            rw [if_pos rfl, if_pos rfl, List.filter_cons, Int.toNat_natCast]
            by_cases h3 : pl.getD y 0 < pl.getD x 0
            · rw [if_pos (by simpa using h3), if_pos h3]; rfl
            · rw [if_neg (by simpa using h3), if_neg h3]; rfl
          · rw [if_neg (by omega), if_neg h]; rfl
        rw [t1, t2]; omega
      rw [e1, sum_add, ih (fun z hz => he z (by simp [hz])), sum_add]
      have p1 : ∀ (q c : Nat), q < n → ((List.range n).map fun v : Nat => if q = v then c else 0).sum = c := by
        intro q c hq
        rw [sum_single q c List.nodup_range, if_pos (List.mem_range.2 hq)]
      rw [p1 x _ hx, p1 y _ hy, List.length_cons]
      rcases Int.lt_or_gt_of_ne hne with h | h
      · rw [if_pos h, if_neg (by omega)]
      · rw [if_neg (by omega), if_pos h]
  exact key es hs.1
end
end Go.Proofs.YtknlmgcbdcepnaaDoor

namespace Go.Proofs.YtknlmgcbdcepnaaDoor
open Go.RowKit CoBit CoCli

/-- How many stand ahead of the first v nodes. -/
def ahdS (n : Nat) (es : List (Int × Int)) (pl : List Int) (v : Nat) : Nat := ((List.range v).map fun i => (ahdR n es pl i).length).sum
theorem ahdS_succ (n : Nat) (es : List (Int × Int)) (pl : List Int) (v : Nat) : ahdS n es pl (v + 1) = ahdS n es pl v + (ahdR n es pl v).length := by
  unfold ahdS
  rw [List.range_succ, List.map_append, List.sum_append]; simp
theorem ahdS_le {n : Nat} {es : List (Int × Int)} (hc : chkG n es = 0) (hn : n ≤ 64) (pl : List Int) (v : Nat) : ahdS n es pl v ≤ 64 * v := by
  induction v with
  | zero => exact Nat.le_refl _
  | succ v ih => rw [ahdS_succ]; have := ahdR_len hc hn pl v; omega

set_option maxRecDepth 100000 in
set_option maxHeartbeats 8000000 in
theorem lawAhead_any (A0 : Option Addr) (m0 c0 : Nat) (l : List Int) (w : World) (hT : Tab w) (h0 : RI w A0 m0 l) (hmc : m0 ≤ c0) (hm0 : m0 ≤ 1152921504606846976) :
    Calls Tryd.prog 6 #[.slice A0 m0 c0] w fun e w' => e = .returned (.bool true) ∧ Below w.heap.size w w' := by
  have kf := fun w => few_any A0 m0 c0 w
  by_cases hfew : m0 ≤ 500
  · have hv : decide (m0 ≤ 500) = true := by simpa using hfew
    rw [hv] at kf
    replace kf := Lib.hid kf
    clear hv hfew
    go_enter Tryd.func6, Tryd.ntmps6
    go_wp2_with fail
    refine (kf.out _).mono ?_
    rintro e w1 ⟨rfl, rfl⟩
    go_wp2_with fail
    refine (new_any A0 m0 c0 l w h0 hmc hm0).mono ?_
    rintro e w1 ⟨rfl, hd1, hb1, hs1⟩
    go_wp2_with fail
    refine (mkgraph_any _ 9 _ hd1 (by omega)).mono ?_
    rintro e w2 ⟨n, es, A, m, c, rfl, hmcc, hr2, hf2, hsrt, hn9, hd2, hg2⟩
    have hz := Lib.hid (chk_of_srt hsrt (show (0 : Int) ≤ n by omega) (by omega))
    have hlen : m ≤ 81 := by
      have h1 := srt_len hsrt
      have h2 := hr2.len
      have h3 : n * n ≤ 9 * 9 := Nat.mul_le_mul hn9 hn9
      omega
    have hml := Lib.hid hr2.len
    have hb2 : Below w.heap.size w w2 := hb1.grown hg2 (by omega) (fun k hk => by injection hk with hk; omega)
    have hs2 := hb2.size
    clear hs1 hb1 hf2 hg2 h0 hd1 hd2
    go_wp2_with fail
    have hG := Blk.new w2 24 #[.int .i64 n, .slice A m c]
    have hr3 := hr2.alloc (.cells #[.int .i64 n, .slice A m c] 24)
    have hb3 := hb2.alloc hs2 (.cells #[.int .i64 n, .slice A m c] 24)
    clear hr2 hb2
    generalize w2.alloc (.cells #[.int .i64 n, .slice A m c] 24) = w3 at *
    generalize w2.heap.size = gg at *
    refine (ahead_any A m c n es w3 (hT.keep hb3) hr3 (by omega) hz.out (by omega)).mono ?_
    rintro e w4 ⟨o, pl, hP, hO, hpl, gq, rfl, hgq, hL4, hb4⟩
    have hG4 := hG.below hb4 hG.lt
    have hr4 := hr3.below hb4 (Nat.le_refl _)
    have hb04 := hb3.trans (hb4.mono hb3.size)
    obtain ⟨d0, d1⟩ := blkG hG4
    have hps := (hO.1 hz.out).1
    rw [Int.toNat_natCast] at hps
    replace hps := Lib.hid hps
    replace hP := Lib.hid hP
    replace hpl := Lib.hid hpl
    clear hG hr3 hb3 hb4 hO
    go_wp2_with fail
    refine (rDegeneracy_any A m c n es w4 hr4 (by omega)).mono ?_
    rintro e w5 ⟨ns, rfl, hN, hb5⟩
    have hNs := hN.1 hz.out
    rw [Int.toNat_natCast] at hNs
    rw [hz.out]
    have hdeg := Lib.hid (fun v hv => ahd_deg hz.out hP.out hpl.out hNs hps.out (v := v) hv)
    have hG5 := hG4.below hb5 hG4.lt
    have hr5 := hr4.below hb5 (Nat.le_refl _)
    have hL5 := hL4.below hb5 (Nat.le_refl _)
    have hb05 := hb04.trans (hb5.mono hb04.size)
    clear hN hNs hb5 hG4 hr4 hL4 hb04 d0 d1
    generalize maxL ns = K at *
    go_wp2_with fail
    go_loopw [8, 9] (fun s i wr => ∃ v : Nat, v ≤ n ∧ i = .int .i64 v ∧ s = .int .i64 (ahdS n es pl v : Nat) ∧ Below w5.heap.size w5 wr) (fun _ i _ => n - (intOf i).toNat)
    case atStart => exact ⟨0, Nat.zero_le _, rfl, rfl, Below.refl _ _⟩
    case round =>
      obtain ⟨v, hv, rfl, rfl, hb⟩ := hrel
      by_cases hvn : v < n
      · obtain ⟨Av, kv, cv, ys, hcv, hys, hkc, hrv⟩ := (hL5.below hb (Nat.le_refl _)).get (i := v) (by simp [ahdL]; exact hvn)
        obtain rfl := ahdL_at hvn hys.out
        have hdv := hdeg.out v hvn
        rw [hrv.len] at hdv
        have hlv := Lib.hid hrv.len
        have hk64 : kv ≤ 64 := by rw [← hrv.len]; exact ahdR_len hz.out (by omega) pl v
        have hsb := ahdS_le hz.out (show n ≤ 64 by omega) pl v
        have hst := Lib.hid (ahdS_succ n es pl v)
        have hq := Lib.hid (by simp; omega : decide (K < (kv : Int)) = false)
        have hq' := hq.out
        have i0 : (0 : Int) ≤ (v : Int) := Int.natCast_nonneg _
        have i1 : (v : Int) < (n : Int) := by omega
        clear hdv hys
        generalize hSv : ahdS n es pl v = Sv at *
        replace hSv := Lib.hid hSv
        go_wp2_with fail
        obtain ⟨wo, rfl⟩ : ∃ wo : World, wo = wr := ⟨_, rfl⟩
        have hgo := hG5.below hb hG5.lt
        have hro := hr5.below hb (Nat.le_refl _)
        have hLo := hL5.below hb (Nat.le_refl _)
        clear hcv hq'
        go_loopw [8, 47] (fun s i wr => ∃ j : Nat, j ≤ kv ∧ i = .int .i64 j ∧ s = .int .i64 ((Sv + j : Nat) : Int) ∧ Below wo.heap.size wo wr) (fun _ i _ => kv - (intOf i).toNat)
        case atStart => exact ⟨0, Nat.zero_le _, rfl, rfl, Below.refl _ _⟩
        case round =>
          obtain ⟨j, hj, rfl, rfl, hbj⟩ := hrel
          by_cases hjk : j < kv
          · obtain ⟨adv, x, rfl, hx, hcx⟩ := (RI.below hrv hbj (Nat.le_refl _)).get hjk
            have hxm := List.mem_of_getElem? hx.out
            obtain ⟨u, rfl, hun⟩ := ahd_nat hz.out hP.out hpl.out hxm
            have hfd := ahd_edge hz.out hP.out hpl.out hxm
            have hnot := ahd_not hz.out hP.out hpl.out hxm
            have hGj := hgo.below hbj hgo.lt
            have hrj := hro.below hbj (Nat.le_refl _)
            obtain ⟨d0, d1⟩ := blkG hGj
            have kfi := fun w h => rfind_any A m c n es u v w h (by omega)
            generalize rfnd n es u v = F at *
            have qF : decide (F < 0) = false := by simp; omega
            replace kfi := Lib.hid kfi
            have hnv : decide ((v : Int) ∈ ahdR n es pl u) = false := by simpa using hnot
            replace hnv := Lib.hid hnv
            have j0 : (0 : Int) ≤ (u : Int) := Int.natCast_nonneg _
            have j1 : (u : Int) < (n : Int) := by omega
            clear hx hxm hnot hfd
            go_wp2_with fail
            refine (kfi.out _ hrj).mono ?_
            rintro e w7 ⟨rfl, hb7⟩
            have hb07 := hbj.trans (hb7.mono hbj.size)
            obtain ⟨Au, ku, cu, yu, hcu, hyu, hkcu, hru⟩ := (hLo.below hb07 (Nat.le_refl _)).get (i := u) (by simp [ahdL]; exact hun)
            obtain rfl := ahdL_at hun hyu.out
            have hku : ku ≤ 64 := by rw [← hru.len]; exact ahdR_len hz.out (by omega) pl u
            have khs := has_any Au ku cu _ (v : Int) w7 hru (by omega)
            rw [hnv.out] at khs
            replace khs := Lib.hid khs
            clear hyu hru hb7 d0 d1 hGj hrj hcx
            go_wp2_with fail
            refine khs.out.mono ?_
            rintro e w8 ⟨rfl, rfl⟩
            go_wp2_with fail
            go_roundw
            case rel => exact ⟨j + 1, by omega, by go_num, by go_num, hb07⟩
            case measure => simp [intOf]; omega
          · obtain rfl : j = kv := by omega
            have hbn := hb.trans (hbj.mono hb.size)
            go_wp2_with fail
            go_roundw
            case rel => exact ⟨v + 1, by omega, by go_num, by rw [hst.out, hlv.out], hbn⟩
            case measure => simp [intOf]; omega
      · obtain rfl : v = n := by omega
        have hsum : ahdS v es pl v = m := by
          have h1 := ahd_sum hz.out hP.out hpl.out
          rw [hml.out] at h1
          exact h1
        rw [hsum]
        have hGe := hG5.below hb hG5.lt
        obtain ⟨d0, d1⟩ := blkG hGe
        have hbe := hb05.trans (hb.mono hb05.size)
        have hTe := hT.keep hbe
        clear hsum
        go_wp2_with fail
        refine (awake25_any _ hTe).mono ?_
        rintro e we ⟨rfl, hbw⟩
        have hbz := hbe.trans (hbw.mono hbe.size)
        go_wp2_with fail
        go_ret
        exact ⟨rfl, hbz⟩
  · have hv : decide (m0 ≤ 500) = false := by simpa using hfew
    rw [hv] at kf
    replace kf := Lib.hid kf
    clear hv hfew
    go_enter Tryd.func6, Tryd.ntmps6
    go_wp2_with fail
    refine (kf.out _).mono ?_
    rintro e w1 ⟨rfl, rfl⟩
    go_wp2_with fail
    refine (awake25_any _ hT).mono ?_
    rintro e we ⟨rfl, hbe⟩
    go_wp2_with fail
    go_ret
    exact ⟨rfl, hbe⟩
end Go.Proofs.YtknlmgcbdcepnaaDoor
