/- The reference's graphs (cohesionref03): ends, edge, Find. -/
import Derived.Test.YtknlmgcbdcepnaaDoorGraB
set_option linter.unusedVariables false
set_option linter.unusedSimpArgs false
namespace Go.Proofs.YtknlmgcbdcepnaaDoor
open Go.RowKit

/-- Two nodes are different and exist. -/
def endsB (n u v : Int) : Bool := decide (0 ≤ u ∧ 0 ≤ v ∧ u < n ∧ v < n ∧ u ≠ v)
set_option maxHeartbeats 1000000 in
theorem ends_any (n u v : Int) (w : World) : Calls Tryd.prog 48 #[.int .i64 n, .int .i64 u, .int .i64 v] w fun e w' => e = .returned (.bool (endsB n u v)) ∧ w' = w := by
  have hw : (decide (0 ≤ u) = false ∧ endsB n u v = false) ∨ (decide (0 ≤ u) = true ∧ decide (0 ≤ v) = false ∧ endsB n u v = false) ∨ (decide (0 ≤ u) = true ∧ decide (0 ≤ v) = true ∧ decide (u < n) = false ∧ endsB n u v = false) ∨
      (decide (0 ≤ u) = true ∧ decide (0 ≤ v) = true ∧ decide (u < n) = true ∧ decide (v < n) = false ∧ endsB n u v = false) ∨ (decide (0 ≤ u) = true ∧ decide (0 ≤ v) = true ∧ decide (u < n) = true ∧ decide (v < n) = true ∧ (u != v) = false ∧ endsB n u v = false) ∨
      (decide (0 ≤ u) = true ∧ decide (0 ≤ v) = true ∧ decide (u < n) = true ∧ decide (v < n) = true ∧ (u != v) = true ∧ endsB n u v = true) := by
    unfold endsB
    simp only [decide_eq_true_eq, decide_eq_false_iff_not, bne_iff_ne, bne_eq_false_iff_eq]
    omega
  rcases hw with ⟨q1, h⟩ | ⟨q1, q2, h⟩ | ⟨q1, q2, q3, h⟩ | ⟨q1, q2, q3, q4, h⟩ | ⟨q1, q2, q3, q4, q5, h⟩ | ⟨q1, q2, q3, q4, q5, h⟩
  all_goals
    replace h := Lib.hid h
    go_enter Tryd.func48, Tryd.ntmps48
    go_wp2_with fail
    go_ret
    exact ⟨retBool h.out.symm, rfl⟩

/-- The edge of two nodes. -/
def edgeP (u v : Int) : Int × Int := (min u v, max u v)
set_option maxHeartbeats 1000000 in
theorem edge_any (u v : Int) (w : World) : Calls Tryd.prog 49 #[.int .i64 u, .int .i64 v] w fun e w' => e = .returned (.agg #[.int .i64 (edgeP u v).1, .int .i64 (edgeP u v).2]) ∧ Below w.heap.size w w' := by
  have hw : (u < v ∧ ¬ v < u ∧ edgeP u v = (u, v)) ∨ (v < u ∧ ¬ u < v ∧ edgeP u v = (v, u)) ∨ (u = v ∧ edgeP u v = (v, v)) := by
    unfold edgeP
    rcases Int.lt_trichotomy u v with h | h | h
    · exact .inl ⟨h, by omega, by rw [Int.min_eq_left (by omega), Int.max_eq_right (by omega)]⟩
    · exact .inr (.inr ⟨h, by subst h; simp⟩)
    · exact .inr (.inl ⟨h, by omega, by rw [Int.min_eq_right (by omega), Int.max_eq_left (by omega)]⟩)
  rcases hw with ⟨h1, h2, h⟩ | ⟨h1, h2, h⟩ | ⟨rfl, h⟩
  · have h3 : u ≤ v := by omega
    have h4 : ¬ v ≤ u := by omega
    rw [h]
    clear h
    go_enter Tryd.func49, Tryd.ntmps49
    go_wp2_with fail
    exact bodyPost_ret (v := .agg #[.int .i64 u, .int .i64 v]) (by simp [results, Tryd.results49, go_sem]) rfl ⟨rfl, (Below.refl _ _).alloc (Nat.le_refl _) _⟩
  · have h3 : v ≤ u := by omega
    have h4 : ¬ u ≤ v := by omega
    rw [h]
    clear h
    go_enter Tryd.func49, Tryd.ntmps49
    go_wp2_with fail
    exact bodyPost_ret (v := .agg #[.int .i64 v, .int .i64 u]) (by simp [results, Tryd.results49, go_sem]) rfl ⟨rfl, (Below.refl _ _).alloc (Nat.le_refl _) _⟩
  · rw [h]
    clear h
    go_enter Tryd.func49, Tryd.ntmps49
    go_wp2_with fail
    exact bodyPost_ret (v := .agg #[.int .i64 u, .int .i64 u]) (by simp [results, Tryd.results49, go_sem]) rfl ⟨rfl, (Below.refl _ _).alloc (Nat.le_refl _) _⟩
/-- The first index of an edge; -1. -/
def fndE (es : List (Int × Int)) (e : Int × Int) : Int := match es.findIdx? (fun x => decide (x = e)) with | some i => (i : Int) | none => -1
theorem fndE_some {es : List (Int × Int)} {e : Int × Int} {k : Nat} (h : es[k]? = some e) (h2 : ∀ x ∈ es.take k, x ≠ e) : fndE es e = (k : Int) := by
  obtain ⟨hk, he⟩ := List.getElem?_eq_some_iff.1 h
  have : es.findIdx? (fun x => decide (x = e)) = some k := by
    rw [List.findIdx?_eq_some_iff_getElem]
    refine ⟨hk, by simpa using he, fun j hj => ?_⟩
    have := h2 es[j] (by rw [List.mem_iff_getElem]; exact ⟨j, by rw [List.length_take]; omega, by rw [List.getElem_take]⟩)
    simpa using this
  unfold fndE
  rw [this]
theorem fndE_none {es : List (Int × Int)} {e : Int × Int} (h2 : ∀ x ∈ es, x ≠ e) : fndE es e = -1 := by
  have : es.findIdx? (fun x => decide (x = e)) = none := by
    rw [List.findIdx?_eq_none_iff]
    intro x hx
    simpa using h2 x hx
  unfold fndE
  rw [this]
/-- What Find returns. -/
def rfnd (n : Int) (es : List (Int × Int)) (u v : Int) : Int := if chkG n es = 0 then fndE es (edgeP u v) else -1

set_option maxRecDepth 100000 in
set_option maxHeartbeats 2000000 in
theorem rfind_any (A : Option Addr) (m c : Nat) (n : Int) (es : List (Int × Int)) (u v : Int) (w : World) (h : RE w A m es) (hm : m ≤ 274877906944) :
    Calls Tryd.prog 26 #[.agg #[.int .i64 n, .slice A m c], .int .i64 u, .int .i64 v] w fun e w' => e = .returned (.int .i64 (rfnd n es u v)) ∧ Below w.heap.size w w' := by
  have k1 := fun w h => rcheck_any A m c n es w h (by omega)
  by_cases hz : chkG n es = 0
  · have hv : rfnd n es u v = fndE es (edgeP u v) := if_pos hz
    rw [hz] at k1
    replace k1 := Lib.hid k1
    replace hv := Lib.hid hv
    have hml := Lib.hid h.len
    clear hz
    go_enter Tryd.func26, Tryd.ntmps26
    go_wp2_with fail
    refine (k1.out _ (h.alloc _)).mono ?_
    rintro e w1 ⟨rfl, hb1⟩
    have G1 : Blk w1 w.heap.size 24 #[.int .i64 n, .slice A m c] := Blk.below (Blk.new _ _ _) hb1 (by simp)
    have hb0 : Below w.heap.size w w1 := ((Below.refl _ _).alloc (Nat.le_refl _) _).trans (hb1.mono (by simp))
    have c11 := Blk.cell G1 1
    simp at c11
    clear hb1 k1
    go_wp2_with fail
    go_loopw [15] (fun i wr => ∃ k : Nat, k ≤ m ∧ i = .int .i64 k ∧ Hid (∀ x ∈ es.take k, x ≠ edgeP u v) ∧ Below w.heap.size w wr) (fun i _ => m - (intOf i).toNat)
    case atStart => exact ⟨0, Nat.zero_le _, rfl, Lib.hid (by simp), hb0⟩
    case round =>
      obtain ⟨k, hk, rfl, hx, hb⟩ := hrel
      clear hb0 c11 G1
      by_cases hlt : k < m
      · obtain ⟨ad, x, y, rfl, hbl, hy, hc1, hc2⟩ := (RE.below h hb (Nat.le_refl _)).get hlt
        have hs := hb.size
        have ke := fun w => edge_any u v w
        have hw : ((x == (edgeP u v).1) = true ∧ (y == (edgeP u v).2) = true ∧ rfnd n es u v = (k : Int)) ∨ ((x == (edgeP u v).1) = false ∧ ∀ z ∈ es.take (k + 1), z ≠ edgeP u v) ∨ ((x == (edgeP u v).1) = true ∧ (y == (edgeP u v).2) = false ∧ ∀ z ∈ es.take (k + 1), z ≠ edgeP u v) := by
          simp only [beq_iff_eq, beq_eq_false_iff_ne]
          by_cases he : (x, y) = edgeP u v
          · refine .inl ⟨by rw [← he], by rw [← he], ?_⟩
            rw [hv.out, fndE_some (he ▸ hy.out) hx.out]
          · have hh : ∀ z ∈ es.take (k + 1), z ≠ edgeP u v := by
              rw [takeE hy.out]
              intro z hz
              rw [List.mem_append] at hz
              rcases hz with hz | hz
              · exact hx.out z hz
              · simp at hz; rw [hz]; exact he
            by_cases h1 : x = (edgeP u v).1
            · exact .inr (.inr ⟨h1, fun h2 => he (Prod.ext h1 h2), hh⟩)
            · exact .inr (.inl ⟨h1, hh⟩)
        generalize (edgeP u v).1 = a at *
        generalize (edgeP u v).2 = b at *
        replace ke := Lib.hid ke
        clear hx
        have hN : Blk (wr.alloc (.cells #[.int .i64 x, .int .i64 y] 59)) wr.heap.size 59 #[.int .i64 x, .int .i64 y] := Blk.new _ _ _
        have BV : Below w.heap.size w (wr.alloc (.cells #[.int .i64 x, .int .i64 y] 59)) := hb.alloc hs _
        have ZZ : wr.heap.size + 1 ≤ (wr.alloc (.cells #[.int .i64 x, .int .i64 y] 59)).heap.size := by simp
        rcases hw with ⟨q1, q2, hh⟩ | ⟨q1, hh⟩ | ⟨q1, q2, hh⟩
        all_goals
          replace hh := Lib.hid hh
          go_wp2_with fail
          generalize wr.alloc (.cells #[.int .i64 x, .int .i64 y] 59) = W at *
          clear hc1 hc2
          have n0 := Blk.cell hN 0
          have n1 := Blk.cell hN 1
          simp at n0 n1
          go_region_held3 (fun w' => w'.cell? ⟨wr.heap.size, 0, none⟩ = some (.int .i64 x) ∧ w'.cell? ⟨wr.heap.size, 1, none⟩ = some (.int .i64 y))
            ((first | (go_split_ands; refine ⟨?_, ?_⟩ <;> (rw [hb9.cell (by simp; omega)]; assumption)) | ((repeat' apply And.intro) <;> (go_keep; done))))
            ((go_at_call 49; (with_reducible refine (ke.out _).mono ?_); rintro e w9 ⟨rfl, hb9⟩; replace BV : Below w.heap.size w w9 := (by first | exact below_call BV hb9 | exact below_call BV.drew hb9)))
          go_wp2_with fail
          first
            | (go_ret; exact ⟨retInt hh.out.symm, BV⟩)
            | (go_roundw
               case rel => exact ⟨k + 1, by omega, by go_num, hh, BV⟩
               case measure => simp [intOf]; omega)
      · have hfin : rfnd n es u v = -1 := by
          rw [hv.out]
          refine fndE_none ?_
          have := hx.out
          rwa [List.take_of_length_le (by rw [hml.out]; omega)] at this
        replace hfin := Lib.hid hfin
        go_wp2_with fail
        go_ret
        exact ⟨retInt hfin.out.symm, hb⟩
  · have hv : rfnd n es u v = -1 := if_neg hz
    have hq : (chkG n es != 0) = true := by rw [bne_iff_ne]; exact hz
    generalize chkG n es = q at *
    replace k1 := Lib.hid k1
    replace hv := Lib.hid hv
    clear hz
    go_enter Tryd.func26, Tryd.ntmps26
    go_wp2_with fail
    refine (k1.out _ (h.alloc _)).mono ?_
    rintro e w1 ⟨rfl, hb1⟩
    have hb0 : Below w.heap.size w w1 := ((Below.refl _ _).alloc (Nat.le_refl _) _).trans (hb1.mono (by simp))
    clear hb1
    go_wp2_with fail
    go_ret
    exact ⟨retInt hv.out.symm, hb0⟩
end Go.Proofs.YtknlmgcbdcepnaaDoor
