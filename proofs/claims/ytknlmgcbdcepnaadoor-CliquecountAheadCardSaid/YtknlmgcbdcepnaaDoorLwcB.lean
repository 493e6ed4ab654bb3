/- Chapter 25: the numbers of the graph with all edges. -/
import Derived.Test.YtknlmgcbdcepnaaDoorLwcA
set_option linter.unusedVariables false
set_option linter.unusedSimpArgs false
namespace Go.Proofs.YtknlmgcbdcepnaaDoor
open Go.RowKit CoBit CoCli

theorem bool_iff {a b : Bool} (h : a = true ↔ b = true) : a = b := by cases a <;> cases b <;> simp_all
theorem ad_iff {n : Nat} {es : List (Int × Int)} (hc : chkG n es = 0) (u v : Nat) : ad (rowsL n es) u v = true ↔ (((u : Int), (v : Int)) ∈ es ∨ ((v : Int), (u : Int)) ∈ es) := rows_bit (chkE_lt (chkG_zero hc).2.2) u v
theorem ad_symm {n : Nat} {es : List (Int × Int)} (hc : chkG n es = 0) (u v : Nat) : ad (rowsL n es) u v = ad (rowsL n es) v u := bool_iff (by rw [ad_iff hc, ad_iff hc]; exact or_comm)
theorem ad_irr {n : Nat} {es : List (Int × Int)} (hc : chkG n es = 0) (u : Nat) : ad (rowsL n es) u u = false := by
  rw [Bool.eq_false_iff]
  intro h
  rw [ad_iff hc] at h
  have := chkE_lt (chkG_zero hc).2.2
  rcases h with h | h
  · have := this _ h; simp at this
  · have := this _ h; simp at this
theorem ad_lt {n : Nat} {es : List (Int × Int)} (hc : chkG n es = 0) {u v : Nat} (h : ad (rowsL n es) u v = true) : u < n ∧ v < n := by
  have h1 := row_bit_lt hc h
  rw [ad_symm hc] at h
  exact ⟨row_bit_lt hc h, h1⟩
theorem whl_chk {n : Nat} {es : List (Int × Int)} (h : Whl n es) (hn : n ≤ 64) : chkG n es = 0 := chk_of_srt h.1 (by omega) (by omega)
theorem whl_ad {n : Nat} {es : List (Int × Int)} (h : Whl n es) (hn : n ≤ 64) {u v : Nat} (hu : u < n) (hv : v < n) (hne : u ≠ v) : ad (rowsL n es) u v = true := by
  rw [ad_iff (whl_chk h hn), h.2, h.2]
  omega
theorem whl_cl {n : Nat} {es : List (Int × Int)} (h : Whl n es) (hn : n ≤ 64) (k : Nat) {L : List Nat} (hL : ∀ x ∈ L, x < n) (hd : L.Nodup) : cl (ad (rowsL n es)) k L = ch L.length k :=
  cl_whole _ k L (List.Pairwise.imp_of_mem (fun {a b} ha hb hab => whl_ad h hn (hL a ha) (hL b hb) hab) hd)
theorem whl_cnt {n : Nat} {es : List (Int × Int)} (h : Whl n es) (hn : n ≤ 64) (k : Nat) : cntL n es k = (List.range k).map fun j => ((ch n (j + 1) : Nat) : Int) := by
  unfold cntL
  refine List.map_congr_left fun j _ => ?_
  rw [whl_cl h hn _ (fun x hx => List.mem_range.1 hx) List.nodup_range, List.length_range]
theorem whl_nod {n : Nat} {es : List (Int × Int)} (h : Whl n es) (hn : n ≤ 64) (k : Nat) : nodL n es k = (List.range n).map fun v => ((ch ((List.range n).filter fun x => decide (x ≠ v)).length k : Nat) : Int) := by
  unfold nodL
  refine List.map_congr_left fun v hv => ?_
  rw [List.mem_range] at hv
  have e : (List.range n).filter (ad (rowsL n es) v) = (List.range n).filter fun x => decide (x ≠ v) := by
    refine List.filter_congr fun x hx => ?_
    rw [List.mem_range] at hx
    by_cases hxv : x = v
    · subst hxv; rw [ad_irr (whl_chk h hn)]; simp
    · rw [whl_ad h hn hv hx (Ne.symm hxv)]; simp [hxv]
  rw [e, whl_cl h hn _ (fun x hx => List.mem_range.1 (List.mem_filter.1 hx).1) (List.nodup_range.filter _)]
theorem errC_ok {n : Int} {es : List (Int × Int)} {size least : Int} (hz : chkG n es = 0) (h1 : least ≤ size) (h2 : size ≤ 6) : errC n es size least = 0 := by
  unfold errC
  rw [if_neg (fun h => h hz), if_neg (by omega)]
theorem cnts_ok {n : Nat} {es : List (Int × Int)} {k : Nat} (hz : chkG n es = 0) (h1 : 1 ≤ k) (h2 : k ≤ 6) : cntsL n es k = cntL n es k := by
  unfold cntsL
  rw [if_pos (errC_ok hz (by omega) (by omega))]
  rfl
theorem nods_ok {n : Nat} {es : List (Int × Int)} {k : Nat} (hz : chkG n es = 0) (h2 : k + 1 ≤ 6) : nodsL n es ((k + 1 : Nat) : Int) = nodL n es k := by
  unfold nodsL
  rw [if_pos (errC_ok hz (by omega) (by omega))]
  simp
theorem awk_facts {es : List (Int × Int)} (h : Whl 4 es) : chkG 4 es = 0 ∧ es.length ≤ 64 ∧ cntsL 4 es 5 = [4, 6, 4, 1, 0] ∧ nodsL 4 es 3 = [3, 3, 3, 3] ∧ errC 4 es 5 1 = 0 ∧ errC 4 es 3 1 = 0 := by
  have hz : chkG ((4 : Nat) : Int) es = 0 := whl_chk (n := 4) h (by omega)
  refine ⟨hz, ?_, ?_, ?_, errC_ok hz (by omega) (by omega), errC_ok hz (by omega) (by omega)⟩
  · have := srt_len (n := 4) h.1; omega
  · refine (cnts_ok (n := 4) (k := 5) hz (by omega) (by omega)).trans ?_
    rw [whl_cnt (n := 4) h (by omega)]; decide
  · refine (nods_ok (n := 4) (k := 2) hz (by omega)).trans ?_
    rw [whl_nod (n := 4) h (by omega)]; decide
theorem AI.of_new (w : World) (xs : List Int) {cs : Array Value} (h : cs = (ints xs).toArray) {n : Nat} (hn : n = xs.length) : RI (w.alloc (.cells cs 3)) (some ⟨w.heap.size, 0, none⟩) n xs := by
  subst h
  exact AI.ri (Blk.new _ _ _) hn

end Go.Proofs.YtknlmgcbdcepnaaDoor
