/- The laws of chapter 25: the graph with all edges. -/
import Derived.Test.YtknlmgcbdcepnaaDoorGrfB
import Derived.Test.YtknlmgcbdcepnaaDoorCliF
import Derived.Test.YtknlmgcbdcepnaaDoorSrtM
set_option linter.unusedVariables false
set_option linter.unusedSimpArgs false
namespace Go.Proofs.YtknlmgcbdcepnaaDoor
open Go.RowKit CoBit CoCli

/-- The edges whose ends stand ahead of (u, v) in the order of edges. -/
def Till (n : Int) (es : List (Int × Int)) (u v : Int) : Prop := Srt n es ∧ ∀ a b : Int, (a, b) ∈ es ↔ 0 ≤ a ∧ a < b ∧ b < n ∧ (a < u ∨ a = u ∧ b < v)
theorem Till.push {n : Int} {es : List (Int × Int)} {u v : Int} (h : Till n es u v) (h0 : 0 ≤ u) (h1 : u < v) (h2 : v < n) : Till n (es ++ [(u, v)]) u (v + 1) := by
  refine ⟨srt_push h.1 (fun e he => ?_) h0 h1 h2, fun a b => ?_⟩
  · have := (h.2 e.1 e.2).1 he
    unfold ltE; simp only; omega
  · rw [List.mem_append, h.2]
    simp only [List.mem_singleton, Prod.mk.injEq]
    omega
theorem Till.row {n : Int} {es : List (Int × Int)} {u v : Int} (h : Till n es u v) (hv : n ≤ v) : Till n es (u + 1) (u + 1 + 1) := ⟨h.1, fun a b => by rw [h.2]; omega⟩
/-- All edges. -/
def Whl (n : Int) (es : List (Int × Int)) : Prop := Srt n es ∧ ∀ a b : Int, (a, b) ∈ es ↔ 0 ≤ a ∧ a < b ∧ b < n
theorem Till.whole {n : Int} {es : List (Int × Int)} {u v : Int} (h : Till n es u v) (hv : n ≤ u) : Whl n es := ⟨h.1, fun a b => by rw [h.2]; omega⟩

set_option maxRecDepth 100000 in
set_option maxHeartbeats 4000000 in
theorem whole25_any (n : Nat) (hn : n ≤ 64) (w : World) :
    Calls Tryd.prog 9 #[.int .i64 n] w fun e w' => ∃ A m c es, e = .returned (.agg #[.int .i64 n, .slice A m c]) ∧ m ≤ c ∧ RE w' A m es ∧ Below w.heap.size w w' ∧ Fr w.heap.size A ∧ Whl n es := by
  go_enter Tryd.func9, Tryd.ntmps9
  go_wp2_with fail
  have hR : Blk ((w.alloc (.cells #[.int .i64 0, .slice none 0 0] 24)).alloc (.cells #[.int .i64 n, .slice none 0 0] 24)) w.heap.size 24 #[.int .i64 0, .slice none 0 0] := Blk.alloc (Blk.new _ _ _) _
  have hB : Blk ((w.alloc (.cells #[.int .i64 0, .slice none 0 0] 24)).alloc (.cells #[.int .i64 n, .slice none 0 0] 24)) (w.heap.size + 1) 24 #[.int .i64 n, .slice none 0 0] := Blk.new' _ _ _ (by simp)
  have hb : Below w.heap.size w ((w.alloc (.cells #[.int .i64 0, .slice none 0 0] 24)).alloc (.cells #[.int .i64 n, .slice none 0 0] 24)) := ((Below.refl _ _).alloc (Nat.le_refl _) _).alloc (by simp) _
  generalize (w.alloc (.cells #[.int .i64 0, .slice none 0 0] 24)).alloc (.cells #[.int .i64 n, .slice none 0 0] 24) = w1 at *
  obtain ⟨gb, hgb⟩ : ∃ gb, gb = w.heap.size + 1 := ⟨_, rfl⟩
  rw [← hgb] at hB ⊢
  have hgb2 : w.heap.size < gb := by omega
  clear hgb
  go_loopw [4] (fun i wr => ∃ (k : Nat) (es : List (Int × Int)) (v : Value), k ≤ n ∧ i = .int .i64 k ∧ Hid (Till n es k (k + 1)) ∧ es.length ≤ 64 * k ∧ Blk wr gb 24 #[.int .i64 n, v] ∧ Blk wr w.heap.size 24 #[.int .i64 0, .slice none 0 0] ∧ OE wr (gb + 1) v es ∧ Below w.heap.size w wr) (fun i _ => n - (intOf i).toNat)
  case atStart => exact ⟨0, [], _, Nat.zero_le _, rfl, Lib.hid ⟨⟨by simp, List.Pairwise.nil⟩, fun a b => by simp; omega⟩, Nat.le_refl _, hB, hR, OE.nil_, hb⟩
  case round =>
    obtain ⟨k, es, v, hk, rfl, hse, hlen, hB', hR', ho, hb'⟩ := hrel
    clear hB hR hb
    by_cases hlt : k < n
    · go_wp2_with fail
      obtain ⟨wo, rfl⟩ : ∃ wo : World, wo = wr := ⟨_, rfl⟩
      go_loopw [5] (fun i wr => ∃ (j : Nat) (es : List (Int × Int)) (v : Value), k + 1 ≤ j ∧ j ≤ n ∧ i = .int .i64 j ∧ Hid (Till n es k j) ∧ es.length ≤ 64 * k + j ∧ Blk wr gb 24 #[.int .i64 n, v] ∧ Blk wr w.heap.size 24 #[.int .i64 0, .slice none 0 0] ∧ OE wr (gb + 1) v es ∧ Below w.heap.size w wr) (fun i _ => n - (intOf i).toNat)
      case atStart => exact ⟨k + 1, es, v, Nat.le_refl _, by omega, by go_num, hse, by omega, hB', hR', ho, hb'⟩
      case round =>
        obtain ⟨j, es2, v2, hkj, hj, rfl, hse2, hlen2, hB2, hR2, ho2, hb2⟩ := hrel
        clear hB' hR' ho hb' hse hlen
        by_cases hlt2 : j < n
        · have hpush := Lib.hid (hse2.out.push (by omega) (by omega) (by omega))
          have c1 := Blk.cell hB2 1
          have f1 := Blk.frozen hB2 1
          simp at c1
          have hl2 := hB2.lt
          go_wp2_with (at_builtin; refine wpList_pushE rfl _ _ rfl rfl rfl (by simp) ho2 (by omega) (by omega) ?_; intro v' w4 ho' hb' hg4; have hB4 := Blk.grown hB2 hg4 (by intro e; have := (ho2.block_lt _ e.symm).1; omega); have c4 := Blk.cell hB4 1; have f4 := Blk.frozen hB4 1; simp at c4; obtain ⟨A4, n4, m4, rfl, hn4, hm4, hc4, hr4, hf4⟩ := ho'.form; replace hn4 := Lib.hid hn4)
          have hB5 := Blk.set hB4 1 (.slice A4 n4 m4)
          simp at hB5
          have hR5 : Blk (w4.setCell ⟨gb, 1, none⟩ (.slice A4 n4 m4)) w.heap.size 24 #[.int .i64 0, .slice none 0 0] := (hR2.below hb' (by omega)).far (by simp; omega) _
          have ho5 := ho'.set_far (p := ⟨gb, 1, none⟩) (by simp) (.slice A4 n4 m4)
          have hb5 : Below w.heap.size w (w4.setCell ⟨gb, 1, none⟩ (.slice A4 n4 m4)) := (hb2.trans (hb'.mono (by omega))).setCell (p := ⟨gb, 1, none⟩) (by simp; omega) _
          clear hb' hg4 hB4 c4 f4 ho' ho2 hB2 hR2 hb2 c1 f1
          go_roundw
          case rel => exact ⟨j + 1, _, _, by omega, by omega, by go_num, hpush, by simp; omega, hB5, hR5, ho5, hb5⟩
          case measure => simp [intOf]; omega
        · have hnext := Lib.hid (hse2.out.row (by omega))
          go_wp2_with fail
          go_roundw
          case rel => exact ⟨k + 1, es2, v2, by omega, by go_num, hnext, by omega, hB2, hR2, ho2, hb2⟩
          case measure => simp [intOf]; omega
    · obtain ⟨A4, n4, m4, rfl, hn4, hm4, hc4, hr4, hf4⟩ := ho.form
      replace hn4 := Lib.hid hn4
      have c0 := Blk.cell hB' 0
      have c1 := Blk.cell hB' 1
      have r0 := Blk.cell hR' 0
      have r1 := Blk.cell hR' 1
      simp at c0 c1 r0 r1
      have f0 := Blk.frozen hR' 0
      have f1 := Blk.frozen hR' 1
      have ho5 := (ho.set_far (p := ⟨w.heap.size, 0, none⟩) (by simp; omega) (.int .i64 (n : Int))).set_far (p := ⟨w.heap.size, 1, none⟩) (by simp; omega) (.slice A4 n4 m4)
      obtain ⟨hr5, _, hf5⟩ := ho5.re hn4.out
      have hR5 := Blk.set (Blk.set hR' 0 (.int .i64 (n : Int))) 1 (.slice A4 n4 m4)
      simp at hR5
      have s0 := Blk.cell hR5 0
      have s1 := Blk.cell hR5 1
      simp at s0 s1
      have hb5 := (hb'.setCell (p := ⟨w.heap.size, 0, none⟩) (by simp) (.int .i64 (n : Int))).setCell (p := ⟨w.heap.size, 1, none⟩) (by simp) (.slice A4 n4 m4)
      have hfin := Lib.hid (⟨A4, n4, m4, es, rfl, hm4, hr5, hb5, hf5.mono (by omega), hse.out.whole (by omega)⟩ : ∃ A m c es', Ending.returned (.agg #[.int .i64 n, .slice A4 n4 m4]) = .returned (.agg #[.int .i64 n, .slice A m c]) ∧ m ≤ c ∧ RE ((wr.setCell ⟨w.heap.size, 0, none⟩ (.int .i64 (n : Int))).setCell ⟨w.heap.size, 1, none⟩ (.slice A4 n4 m4)) A m es' ∧ Below w.heap.size w ((wr.setCell ⟨w.heap.size, 0, none⟩ (.int .i64 (n : Int))).setCell ⟨w.heap.size, 1, none⟩ (.slice A4 n4 m4)) ∧ Fr w.heap.size A ∧ Whl n es')
      have hne : gb ≠ w.heap.size := by omega
      clear hr5 hf5 ho5 hR5 ho hr4 hf4 hb5 hb' hB' hR' hse
      go_wp2_with fail
      refine bodyPost_ret (v := .agg #[.int .i64 n, .slice A4 n4 m4]) (by simp [results, Tryd.results9, go_sem, s0, s1]) rfl ?_
      exact hfin.out
end Go.Proofs.YtknlmgcbdcepnaaDoor

namespace Go.Proofs.YtknlmgcbdcepnaaDoor
open Go.RowKit CoBit CoCli

theorem bool_iff {a b : Bool} (h : a = true ↔ b = true) : a = b := by cases a <;> cases b <;> simp_all
theorem ad_iff {n : Nat} {es : List (Int × Int)} (hc : chkG n es = 0) (u v : Nat) : ad (rowsL n es) u v = true ↔ (((u : Int), (v : Int)) ∈ es ∨ ((v : Int), (u : Int)) ∈ es) := rows_bit (chkE_lt (chkG_zero hc).2.2) u v
theorem ad_symm {n : Nat} {es : List (Int × Int)} (hc : chkG n es = 0) (u v : Nat) : ad (rowsL n es) u v = ad (rowsL n es) v u := bool_iff (by rw [ad_iff hc, ad_iff hc]; exact or_comm)
theorem ad_irr {n : Nat} {es : List (Int × Int)} (hc : chkG n es = 0) (u : Nat) : ad (rowsL n es) u u = false := by
  rw [Bool.eq_false_iff]
  intro h
  rw [ad_iff hc] at h
  have := chkE_lt (chkG_zero hc).2.2
  rcases h with h | h
  · have := this _ h; simp at this
  · have := this _ h; simp at this
theorem ad_lt {n : Nat} {es : List (Int × Int)} (hc : chkG n es = 0) {u v : Nat} (h : ad (rowsL n es) u v = true) : u < n ∧ v < n := by
  have h1 := row_bit_lt hc h
  rw [ad_symm hc] at h
  exact ⟨row_bit_lt hc h, h1⟩
theorem whl_chk {n : Nat} {es : List (Int × Int)} (h : Whl n es) (hn : n ≤ 64) : chkG n es = 0 := chk_of_srt h.1 (by omega) (by omega)
theorem whl_ad {n : Nat} {es : List (Int × Int)} (h : Whl n es) (hn : n ≤ 64) {u v : Nat} (hu : u < n) (hv : v < n) (hne : u ≠ v) : ad (rowsL n es) u v = true := by
  rw [ad_iff (whl_chk h hn), h.2, h.2]
  omega
theorem whl_cl {n : Nat} {es : List (Int × Int)} (h : Whl n es) (hn : n ≤ 64) (k : Nat) {L : List Nat} (hL : ∀ x ∈ L, x < n) (hd : L.Nodup) : cl (ad (rowsL n es)) k L = ch L.length k :=
  cl_whole _ k L (List.Pairwise.imp_of_mem (fun {a b} ha hb hab => whl_ad h hn (hL a ha) (hL b hb) hab) hd)
theorem whl_cnt {n : Nat} {es : List (Int × Int)} (h : Whl n es) (hn : n ≤ 64) (k : Nat) : cntL n es k = (List.range k).map fun j => ((ch n (j + 1) : Nat) : Int) := by
  unfold cntL
  refine List.map_congr_left fun j _ => ?_
  rw [whl_cl h hn _ (fun x hx => List.mem_range.1 hx) List.nodup_range, List.length_range]
theorem whl_nod {n : Nat} {es : List (Int × Int)} (h : Whl n es) (hn : n ≤ 64) (k : Nat) : nodL n es k = (List.range n).map fun v => ((ch ((List.range n).filter fun x => decide (x ≠ v)).length k : Nat) : Int) := by
  unfold nodL
  refine List.map_congr_left fun v hv => ?_
  rw [List.mem_range] at hv
  have e : (List.range n).filter (ad (rowsL n es) v) = (List.range n).filter fun x => decide (x ≠ v) := by
    refine List.filter_congr fun x hx => ?_
    rw [List.mem_range] at hx
    by_cases hxv : x = v
    · subst hxv; rw [ad_irr (whl_chk h hn)]; simp
    · rw [whl_ad h hn hv hx (Ne.symm hxv)]; simp [hxv]
  rw [e, whl_cl h hn _ (fun x hx => List.mem_range.1 (List.mem_filter.1 hx).1) (List.nodup_range.filter _)]
theorem errC_ok {n : Int} {es : List (Int × Int)} {size least : Int} (hz : chkG n es = 0) (h1 : least ≤ size) (h2 : size ≤ 6) : errC n es size least = 0 := by
  unfold errC
  rw [if_neg (fun h => h hz), if_neg (by omega)]
theorem cnts_ok {n : Nat} {es : List (Int × Int)} {k : Nat} (hz : chkG n es = 0) (h1 : 1 ≤ k) (h2 : k ≤ 6) : cntsL n es k = cntL n es k := by
  unfold cntsL
  rw [if_pos (errC_ok hz (by omega) (by omega))]
  rfl
theorem nods_ok {n : Nat} {es : List (Int × Int)} {k : Nat} (hz : chkG n es = 0) (h2 : k + 1 ≤ 6) : nodsL n es ((k + 1 : Nat) : Int) = nodL n es k := by
  unfold nodsL
  rw [if_pos (errC_ok hz (by omega) (by omega))]
  simp
theorem awk_facts {es : List (Int × Int)} (h : Whl 4 es) : chkG 4 es = 0 ∧ es.length ≤ 64 ∧ cntsL 4 es 5 = [4, 6, 4, 1, 0] ∧ nodsL 4 es 3 = [3, 3, 3, 3] ∧ errC 4 es 5 1 = 0 ∧ errC 4 es 3 1 = 0 := by
  have hz : chkG ((4 : Nat) : Int) es = 0 := whl_chk (n := 4) h (by omega)
  refine ⟨hz, ?_, ?_, ?_, errC_ok hz (by omega) (by omega), errC_ok hz (by omega) (by omega)⟩
  · have := srt_len (n := 4) h.1; omega
  · refine (cnts_ok (n := 4) (k := 5) hz (by omega) (by omega)).trans ?_
    rw [whl_cnt (n := 4) h (by omega)]; decide
  · refine (nods_ok (n := 4) (k := 2) hz (by omega)).trans ?_
    rw [whl_nod (n := 4) h (by omega)]; decide
theorem AI.of_new (w : World) (xs : List Int) {cs : Array Value} (h : cs = (ints xs).toArray) {n : Nat} (hn : n = xs.length) : RI (w.alloc (.cells cs 3)) (some ⟨w.heap.size, 0, none⟩) n xs := by
  subst h
  exact AI.ri (Blk.new _ _ _) hn

end Go.Proofs.YtknlmgcbdcepnaaDoor

namespace Go.Proofs.YtknlmgcbdcepnaaDoor
open Go.RowKit CoBit CoCli

set_option maxRecDepth 100000 in
set_option maxHeartbeats 4000000 in
theorem awake25_any (w : World) (hT : Tab w) : Calls Tryd.prog 13 #[] w fun e w' => e = .returned (.bool true) ∧ Below w.heap.size w w' := by
  go_enter Tryd.func13, Tryd.ntmps13
  go_wp2_with fail
  refine (whole25_any 4 (by omega) w).mono ?_
  rintro e w1 ⟨A, m, c, es, rfl, hmc, hr1, hb1, hf1, hW⟩
  obtain ⟨hz, hlen, hco, hnd, he1, he2⟩ := awk_facts hW
  have hm64 : m ≤ 64 := by rw [← hr1.len]; exact hlen
  have k1 := fun w hT h => counts_any A m c 4 5 es w hT h (by omega)
  have k2 := fun w hT h => nodes_any A m c 4 3 es w hT h (by omega)
  rw [hco, he1] at k1
  rw [hnd, he2] at k2
  replace k1 := Lib.hid k1
  replace k2 := Lib.hid k2
  clear hco hnd he1 he2 hz hW hlen
  have hT1 := hT.keep hb1
  go_wp2_with fail
  have hG := Blk.new w1 24 #[.int .i64 4, .slice A m c]
  have hb2 := hb1.alloc hb1.size (.cells #[.int .i64 4, .slice A m c] 24)
  have hr2 := hr1.alloc (.cells #[.int .i64 4, .slice A m c] 24)
  have hT2 := hT1.alloc (.cells #[.int .i64 4, .slice A m c] 24)
  have hs1 := hb1.size
  clear hb1 hr1 hT1 hf1
  generalize w1.alloc (.cells #[.int .i64 4, .slice A m c] 24) = w2 at *
  generalize w1.heap.size = gg at *
  refine (k1.out _ hT2 hr2).mono ?_
  rintro e w3 ⟨A3, n3, c3, rfl, hc3, hr3, hb3, hf3⟩
  have hG3 := hG.below hb3 hG.lt
  have hb03 := hb2.trans (hb3.mono hb2.size)
  have hrg := hr2.below hb3 (Nat.le_refl _)
  have hT3 := hT2.keep hb3
  have d0 := Blk.cell hG3 0
  have d1 := Blk.cell hG3 1
  simp at d0 d1
  obtain rfl : n3 = 5 := hr3.len.symm
  clear hb3 hb2 hr2 hT2 hG
  go_wp2_with fail
  refine (k2.out _ hT3 hrg).mono ?_
  rintro e w4 ⟨A4, n4, c4, rfl, hc4, hr4, hb4, hf4⟩
  have hr34 := RI.below hr3 hb4 (Nat.le_refl _)
  have hb04 := hb03.trans (hb4.mono hb03.size)
  obtain rfl : n4 = 4 := hr4.len.symm
  clear hb4 hb03 hrg hT3 hr3 hG3 d0 d1 k1 k2
  go_wp2_with fail
  refine (cmp2_any A3 (some ⟨w4.heap.size, 0, none⟩) 5 c3 5 5 [4, 6, 4, 1, 0] [4, 6, 4, 1, 0] _ (hr34.alloc _) (by omega) (AI.of_new w4 [4, 6, 4, 1, 0] (cs := #[.int .i64 4, .int .i64 6, .int .i64 4, .int .i64 1, .int .i64 0]) rfl rfl) (by omega)).mono ?_
  rintro e w5 ⟨rfl, q, rfl⟩
  have e0 : cmpL [4, 6, 4, 1, 0] [4, 6, 4, 1, 0] = 0 := by decide +kernel
  rw [e0]
  clear e0
  have hr45 := ((RI.alloc hr4 (.cells #[.int .i64 4, .int .i64 6, .int .i64 4, .int .i64 1, .int .i64 0] 3))).drewN q
  have hb05 := below_drewN (hb04.alloc hb04.size (.cells #[.int .i64 4, .int .i64 6, .int .i64 4, .int .i64 1, .int .i64 0] 3)) q
  generalize (w4.alloc (.cells #[.int .i64 4, .int .i64 6, .int .i64 4, .int .i64 1, .int .i64 0] 3)).drewN q = w5 at *
  clear hr34 hb04 hr4

  go_wp2_with fail
  refine (cmp2_any A4 (some ⟨w5.heap.size, 0, none⟩) 4 c4 4 4 [3, 3, 3, 3] [3, 3, 3, 3] _ (hr45.alloc _) (by omega) (AI.of_new w5 [3, 3, 3, 3] (cs := #[.int .i64 3, .int .i64 3, .int .i64 3, .int .i64 3]) rfl rfl) (by omega)).mono ?_
  rintro e w6 ⟨rfl, q2, rfl⟩
  have e1 : cmpL [3, 3, 3, 3] [3, 3, 3, 3] = 0 := by decide +kernel
  rw [e1]
  clear e1
  have hb06 := below_drewN (hb05.alloc hb05.size (.cells #[.int .i64 3, .int .i64 3, .int .i64 3, .int .i64 3] 3)) q2
  generalize (w5.alloc (.cells #[.int .i64 3, .int .i64 3, .int .i64 3, .int .i64 3] 3)).drewN q2 = w6 at *
  go_wp2_with fail
  refine (choose_any 6 2 _).mono ?_
  rintro e w7 ⟨rfl, hb7⟩
  have e2 : chZ 6 2 = 15 := by decide +kernel
  rw [e2]
  clear e2
  have hb07 := hb06.trans (hb7.mono hb06.size)
  go_wp2_with fail
  go_ret
  exact ⟨rfl, hb07⟩
end Go.Proofs.YtknlmgcbdcepnaaDoor
