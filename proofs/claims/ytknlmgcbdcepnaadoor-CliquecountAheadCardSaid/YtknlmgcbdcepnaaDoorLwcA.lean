/- The laws of chapter 25: the graph with all edges. -/
import Derived.Test.YtknlmgcbdcepnaaDoorGrfB
import Derived.Test.YtknlmgcbdcepnaaDoorCliF
import Derived.Test.YtknlmgcbdcepnaaDoorSrtM
set_option linter.unusedVariables false
set_option linter.unusedSimpArgs false
namespace Go.Proofs.YtknlmgcbdcepnaaDoor
open Go.RowKit CoBit CoCli

/-- The edges whose ends stand ahead of (u, v) in the order of edges. -/
def Till (n : Int) (es : List (Int × Int)) (u v : Int) : Prop := Srt n es ∧ ∀ a b : Int, (a, b) ∈ es ↔ 0 ≤ a ∧ a < b ∧ b < n ∧ (a < u ∨ a = u ∧ b < v)
theorem Till.push {n : Int} {es : List (Int × Int)} {u v : Int} (h : Till n es u v) (h0 : 0 ≤ u) (h1 : u < v) (h2 : v < n) : Till n (es ++ [(u, v)]) u (v + 1) := by
  refine ⟨srt_push h.1 (fun e he => ?_) h0 h1 h2, fun a b => ?_⟩
  · have := (h.2 e.1 e.2).1 he
    unfold ltE; simp only; omega
  · rw [List.mem_append, h.2]
    simp only [List.mem_singleton, Prod.mk.injEq]
    omega
theorem Till.row {n : Int} {es : List (Int × Int)} {u v : Int} (h : Till n es u v) (hv : n ≤ v) : Till n es (u + 1) (u + 1 + 1) := ⟨h.1, fun a b => by rw [h.2]; omega⟩
/-- All edges. -/
def Whl (n : Int) (es : List (Int × Int)) : Prop := Srt n es ∧ ∀ a b : Int, (a, b) ∈ es ↔ 0 ≤ a ∧ a < b ∧ b < n
theorem Till.whole {n : Int} {es : List (Int × Int)} {u v : Int} (h : Till n es u v) (hv : n ≤ u) : Whl n es := ⟨h.1, fun a b => by rw [h.2]; omega⟩

set_option maxRecDepth 100000 in
set_option maxHeartbeats 4000000 in
theorem whole25_any (n : Nat) (hn : n ≤ 64) (w : World) :
    Calls Tryd.prog 9 #[.int .i64 n] w fun e w' => ∃ A m c es, e = .returned (.agg #[.int .i64 n, .slice A m c]) ∧ m ≤ c ∧ RE w' A m es ∧ Below w.heap.size w w' ∧ Fr w.heap.size A ∧ Whl n es := by
  go_enter Tryd.func9, Tryd.ntmps9
  go_wp2_with fail
  have hR : Blk ((w.alloc (.cells #[.int .i64 0, .slice none 0 0] 24)).alloc (.cells #[.int .i64 n, .slice none 0 0] 24)) w.heap.size 24 #[.int .i64 0, .slice none 0 0] := Blk.alloc (Blk.new _ _ _) _
  have hB : Blk ((w.alloc (.cells #[.int .i64 0, .slice none 0 0] 24)).alloc (.cells #[.int .i64 n, .slice none 0 0] 24)) (w.heap.size + 1) 24 #[.int .i64 n, .slice none 0 0] := Blk.new' _ _ _ (by simp)
  have hb : Below w.heap.size w ((w.alloc (.cells #[.int .i64 0, .slice none 0 0] 24)).alloc (.cells #[.int .i64 n, .slice none 0 0] 24)) := ((Below.refl _ _).alloc (Nat.le_refl _) _).alloc (by simp) _
  generalize (w.alloc (.cells #[.int .i64 0, .slice none 0 0] 24)).alloc (.cells #[.int .i64 n, .slice none 0 0] 24) = w1 at *
  obtain ⟨gb, hgb⟩ : ∃ gb, gb = w.heap.size + 1 := ⟨_, rfl⟩
  rw [← hgb] at hB ⊢
  have hgb2 : w.heap.size < gb := by omega
  clear hgb
  go_loopw [4] (fun i wr => ∃ (k : Nat) (es : List (Int × Int)) (v : Value), k ≤ n ∧ i = .int .i64 k ∧ Hid (Till n es k (k + 1)) ∧ es.length ≤ 64 * k ∧ Blk wr gb 24 #[.int .i64 n, v] ∧ Blk wr w.heap.size 24 #[.int .i64 0, .slice none 0 0] ∧ OE wr (gb + 1) v es ∧ Below w.heap.size w wr) (fun i _ => n - (intOf i).toNat)
  case atStart => exact ⟨0, [], _, Nat.zero_le _, rfl, Lib.hid ⟨⟨by simp, List.Pairwise.nil⟩, fun a b => by simp; omega⟩, Nat.le_refl _, hB, hR, OE.nil_, hb⟩
  case round =>
    obtain ⟨k, es, v, hk, rfl, hse, hlen, hB', hR', ho, hb'⟩ := hrel
    clear hB hR hb
    by_cases hlt : k < n
    · go_wp2_with fail
      obtain ⟨wo, rfl⟩ : ∃ wo : World, wo = wr := ⟨_, rfl⟩
      go_loopw [5] (fun i wr => ∃ (j : Nat) (es : List (Int × Int)) (v : Value), k + 1 ≤ j ∧ j ≤ n ∧ i = .int .i64 j ∧ Hid (Till n es k j) ∧ es.length ≤ 64 * k + j ∧ Blk wr gb 24 #[.int .i64 n, v] ∧ Blk wr w.heap.size 24 #[.int .i64 0, .slice none 0 0] ∧ OE wr (gb + 1) v es ∧ Below w.heap.size w wr) (fun i _ => n - (intOf i).toNat)
      case atStart => exact ⟨k + 1, es, v, Nat.le_refl _, by omega, by go_num, hse, by omega, hB', hR', ho, hb'⟩
      case round =>
        obtain ⟨j, es2, v2, hkj, hj, rfl, hse2, hlen2, hB2, hR2, ho2, hb2⟩ := hrel
        clear hB' hR' ho hb' hse hlen
        by_cases hlt2 : j < n
        · have hpush := Lib.hid (hse2.out.push (by omega) (by omega) (by omega))
          have c1 := Blk.cell hB2 1
          have f1 := Blk.frozen hB2 1
          simp at c1
          have hl2 := hB2.lt
          go_wp2_with (at_builtin; refine wpList_pushE rfl _ _ rfl rfl rfl (by simp) ho2 (by omega) (by omega) ?_; intro v' w4 ho' hb' hg4; have hB4 := Blk.grown hB2 hg4 (by intro e; have := (ho2.block_lt _ e.symm).1; omega); have c4 := Blk.cell hB4 1; have f4 := Blk.frozen hB4 1; simp at c4; obtain ⟨A4, n4, m4, rfl, hn4, hm4, hc4, hr4, hf4⟩ := ho'.form; replace hn4 := Lib.hid hn4)
          have hB5 := Blk.set hB4 1 (.slice A4 n4 m4)
          simp at hB5
          have hR5 : Blk (w4.setCell ⟨gb, 1, none⟩ (.slice A4 n4 m4)) w.heap.size 24 #[.int .i64 0, .slice none 0 0] := (hR2.below hb' (by omega)).far (by simp; omega) _
          have ho5 := ho'.set_far (p := ⟨gb, 1, none⟩) (by simp) (.slice A4 n4 m4)
          have hb5 : Below w.heap.size w (w4.setCell ⟨gb, 1, none⟩ (.slice A4 n4 m4)) := (hb2.trans (hb'.mono (by omega))).setCell (p := ⟨gb, 1, none⟩) (by simp; omega) _
          clear hb' hg4 hB4 c4 f4 ho' ho2 hB2 hR2 hb2 c1 f1
          go_roundw
          case rel => exact ⟨j + 1, _, _, by omega, by omega, by go_num, hpush, by simp; omega, hB5, hR5, ho5, hb5⟩
          case measure => simp [intOf]; omega
        · have hnext := Lib.hid (hse2.out.row (by omega))
          go_wp2_with fail
          go_roundw
          case rel => exact ⟨k + 1, es2, v2, by omega, by go_num, hnext, by omega, hB2, hR2, ho2, hb2⟩
          case measure => simp [intOf]; omega
    · obtain ⟨A4, n4, m4, rfl, hn4, hm4, hc4, hr4, hf4⟩ := ho.form
      replace hn4 := Lib.hid hn4
      have c0 := Blk.cell hB' 0
      have c1 := Blk.cell hB' 1
      have r0 := Blk.cell hR' 0
      have r1 := Blk.cell hR' 1
      simp at c0 c1 r0 r1
      have f0 := Blk.frozen hR' 0
      have f1 := Blk.frozen hR' 1
      have ho5 := (ho.set_far (p := ⟨w.heap.size, 0, none⟩) (by simp; omega) (.int .i64 (n : Int))).set_far (p := ⟨w.heap.size, 1, none⟩) (by simp; omega) (.slice A4 n4 m4)
      obtain ⟨hr5, _, hf5⟩ := ho5.re hn4.out
      have hR5 := Blk.set (Blk.set hR' 0 (.int .i64 (n : Int))) 1 (.slice A4 n4 m4)
      simp at hR5
      have s0 := Blk.cell hR5 0
      have s1 := Blk.cell hR5 1
      simp at s0 s1
      have hb5 := (hb'.setCell (p := ⟨w.heap.size, 0, none⟩) (by simp) (.int .i64 (n : Int))).setCell (p := ⟨w.heap.size, 1, none⟩) (by simp) (.slice A4 n4 m4)
      have hfin := Lib.hid (⟨A4, n4, m4, es, rfl, hm4, hr5, hb5, hf5.mono (by omega), hse.out.whole (by omega)⟩ : ∃ A m c es', Ending.returned (.agg #[.int .i64 n, .slice A4 n4 m4]) = .returned (.agg #[.int .i64 n, .slice A m c]) ∧ m ≤ c ∧ RE ((wr.setCell ⟨w.heap.size, 0, none⟩ (.int .i64 (n : Int))).setCell ⟨w.heap.size, 1, none⟩ (.slice A4 n4 m4)) A m es' ∧ Below w.heap.size w ((wr.setCell ⟨w.heap.size, 0, none⟩ (.int .i64 (n : Int))).setCell ⟨w.heap.size, 1, none⟩ (.slice A4 n4 m4)) ∧ Fr w.heap.size A ∧ Whl n es')
      have hne : gb ≠ w.heap.size := by omega
      clear hr5 hf5 ho5 hR5 ho hr4 hf4 hb5 hb' hB' hR' hse
      go_wp2_with fail
      refine bodyPost_ret (v := .agg #[.int .i64 n, .slice A4 n4 m4]) (by simp [results, Tryd.results9, go_sem, s0, s1]) rfl ?_
      exact hfin.out
end Go.Proofs.YtknlmgcbdcepnaaDoor
