/- The reference's graphs (cohesionref03): Of. -/
import Derived.Test.YtfefginhlliccaaDoorGrfD
set_option linter.unusedVariables false
set_option linter.unusedSimpArgs false
namespace Go.Proofs.YtfefginhlliccaaDoor
open Go.RowKit

/-- Edges put in one after the other. -/
def putsL (l : List (Int × Int)) : List (Int × Int) := l.foldl (fun es e => withL es (edgeP e.1 e.2)) []
theorem putsL_take {l : List (Int × Int)} {k : Nat} {x y : Int} (h : l[k]? = some (x, y)) : putsL (l.take (k + 1)) = withL (putsL (l.take k)) (edgeP x y) := by
  unfold putsL
  rw [takeE h, List.foldl_append]; rfl
theorem putsL_len (l : List (Int × Int)) : (putsL l).length ≤ l.length := by
  have h : ∀ (l es : List (Int × Int)), (l.foldl (fun es e => withL es (edgeP e.1 e.2)) es).length ≤ es.length + l.length := by
    intro l
    induction l with
    | nil => intro es; simp
    | cons x l ih =>
      intro es
      rw [List.foldl_cons, List.length_cons]
      have h1 := ih (withL es (edgeP x.1 x.2))
      have h2 := with_length es (edgeP x.1 x.2)
      omega
  simpa [putsL] using h l []
theorem mem_puts {l : List (Int × Int)} {z : Int × Int} : z ∈ putsL l ↔ ∃ e ∈ l, z = edgeP e.1 e.2 := by
  have h : ∀ (l es : List (Int × Int)), z ∈ l.foldl (fun es e => withL es (edgeP e.1 e.2)) es ↔ z ∈ es ∨ ∃ e ∈ l, z = edgeP e.1 e.2 := by
    intro l
    induction l with
    | nil => intro es; simp
    | cons x l ih =>
      intro es
      rw [List.foldl_cons, ih, mem_with]
      constructor
      · rintro ((h | h) | ⟨e, he, h⟩)
        · exact .inr ⟨x, by simp, h⟩
        · exact .inl h
        · exact .inr ⟨e, by simp [he], h⟩
      · rintro (h | ⟨e, he, h⟩)
        · exact .inl (.inr h)
        · rcases List.mem_cons.1 he with rfl | he
          · exact .inl (.inl h)
          · exact .inr ⟨e, he, h⟩
  have := h l []
  simpa [putsL] using this
theorem edgeP_ok {n u v : Int} (h : endsB n u v = true) : 0 ≤ (edgeP u v).1 ∧ (edgeP u v).1 < (edgeP u v).2 ∧ (edgeP u v).2 < n := by
  unfold endsB at h
  rw [decide_eq_true_iff] at h
  unfold edgeP; simp only; omega
theorem srt_puts {n : Int} {l : List (Int × Int)} (h : ∀ e ∈ l, endsB n e.1 e.2 = true) : Srt n (putsL l) := by
  have h2 : ∀ (l es : List (Int × Int)), Srt n es → (∀ e ∈ l, endsB n e.1 e.2 = true) → Srt n (l.foldl (fun es e => withL es (edgeP e.1 e.2)) es) := by
    intro l
    induction l with
    | nil => intro es hs _; exact hs
    | cons x l ih =>
      intro es hs hl
      rw [List.foldl_cons]
      obtain ⟨a, b, c⟩ := edgeP_ok (hl x (by simp))
      exact ih _ (srt_with hs a b c) (fun e he => hl e (by simp [he]))
  exact h2 l [] ⟨by simp, List.Pairwise.nil⟩ h

set_option maxRecDepth 100000 in
set_option maxHeartbeats 4000000 in
theorem rof_any (n : Nat) (hn : n ≤ 64) (A : Option Addr) (m c : Nat) (l : List (Int × Int)) (w : World) (h : RE w A m l) (hm : m ≤ 1073741824) (he : ∀ e ∈ l, endsB n e.1 e.2 = true) :
    Calls Tryd.prog 38 #[.int .i64 n, .slice A m c] w (RetGr w n (putsL l) 0) := by
  have hml := Lib.hid h.len
  replace he := Lib.hid he
  go_enter Tryd.func38, Tryd.ntmps38
  have q1 : decide ((n : Int) < 0) = false := by simp
  have q2 : decide (64 < (n : Int)) = false := by simp; omega
  go_wp2_with fail
  have hR := Blk.alloc (Blk.new w 27 #[.int .i64 0, .slice none 0 0]) (.cells #[.int .i64 n, .slice none 0 0] 27)
  have hO := Blk.new' (w.alloc (.cells #[.int .i64 0, .slice none 0 0] 27)) 27 #[.int .i64 n, .slice none 0 0] (n := w.heap.size + 1) (by simp)
  have hb0 : Below w.heap.size w ((w.alloc (.cells #[.int .i64 0, .slice none 0 0] 27)).alloc (.cells #[.int .i64 n, .slice none 0 0] 27)) := ((Below.refl _ _).alloc (Nat.le_refl _) _).alloc (by simp) _
  generalize (w.alloc (.cells #[.int .i64 0, .slice none 0 0] 27)).alloc (.cells #[.int .i64 n, .slice none 0 0] 27) = w1 at *
  obtain ⟨go, hgo⟩ : ∃ go, go = w.heap.size + 1 := ⟨_, rfl⟩
  rw [← hgo] at hO ⊢
  have hgo2 : w.heap.size < go := by omega
  clear hgo q1 q2
  go_loopw [20] (fun i wr => ∃ (k : Nat) (A1 : Option Addr) (n1 c1 : Nat), k ≤ m ∧ i = .int .i64 k ∧ Blk wr go 27 #[.int .i64 n, .slice A1 n1 c1] ∧ Blk wr w.heap.size 27 #[.int .i64 0, .slice none 0 0] ∧ RE wr A1 n1 (putsL (l.take k)) ∧ n1 ≤ c1 ∧ Fr (go + 1) A1 ∧ Below w.heap.size w wr) (fun i _ => m - (intOf i).toNat)
  case atStart => exact ⟨0, none, 0, 0, Nat.zero_le _, rfl, hO, hR, RE.none_, Nat.le_refl _, Fr.none_, hb0⟩
  case round =>
    obtain ⟨k, A1, n1, c1, hk, rfl, hO', hR', ho, hnc, hf1, hb⟩ := hrel
    clear hO hR hb0
    have hs := hb.size
    have hgl := hO'.lt
    by_cases hlt : k < m
    · obtain ⟨ad, x, y, rfl, hbl, hy, hc1, hc2⟩ := (RE.below h hb (Nat.le_refl _)).get hlt
      have ke := fun w => ends_any n x y w
      rw [he.out (x, y) (List.mem_of_getElem? hy.out)] at ke
      have hst := Lib.hid (putsL_take hy.out)
      have hln := putsL_len (l.take k)
      rw [ho.len, List.length_take] at hln
      have hn1 : n1 ≤ 68719476736 := by omega
      have kd := fun w => edge_any x y w
      have kw := fun w h => with_any A1 n1 c1 (putsL (l.take k)) (edgeP x y).1 (edgeP x y).2 w h hnc hn1
      have hep : ((edgeP x y).1, (edgeP x y).2) = edgeP x y := rfl
      rw [hep, ← hst.out] at kw
      generalize (edgeP x y).1 = a at *
      generalize (edgeP x y).2 = b at *
      replace ke := Lib.hid ke
      replace kd := Lib.hid kd
      replace kw := Lib.hid kw
      have hN := Blk.new wr 63 #[.int .i64 x, .int .i64 y]
      have hO2 := hO'.alloc (.cells #[.int .i64 x, .int .i64 y] 63)
      have hR2 := hR'.alloc (.cells #[.int .i64 x, .int .i64 y] 63)
      have ho2 := ho.alloc (.cells #[.int .i64 x, .int .i64 y] 63)
      have BV : Below w.heap.size w (wr.alloc (.cells #[.int .i64 x, .int .i64 y] 63)) := hb.alloc hs _
      have ZZ : wr.heap.size + 1 ≤ (wr.alloc (.cells #[.int .i64 x, .int .i64 y] 63)).heap.size := by simp
      go_wp2_with fail
      clear hO' hR' ho hb hc1 hc2 hep
      generalize wr.alloc (.cells #[.int .i64 x, .int .i64 y] 63) = W at *
      have n0 := Blk.cell hN 0
      have n1' := Blk.cell hN 1
      simp at n0 n1'
      refine (ke.out _).mono ?_
      rintro e w5 ⟨rfl, rfl⟩
      have g1 := Blk.cell hO2 1
      simp at g1
      have hel := hN.lt
      have hgl2 := hO2.lt
      have BN : Below w5.heap.size w5 w5 := Below.refl _ _
      have hfz := Blk.frozen hO2 1
      have hog := Lib.hid (Blk.cell hO2 1)
      go_wp2_with fail
      go_region_with ((first
        | (go_at_call 41; (with_reducible refine (kd.out _).mono ?_); rintro e w9 ⟨rfl, hb9⟩; replace BN : Below w5.heap.size w5 w9 := (by first | exact below_call BN hb9 | exact below_call BN.drew hb9); have g9 : w9.cell? ⟨go, 1, none⟩ = some (.slice A1 n1 c1) := (BN.cell (p := ⟨go, 1, none⟩) hgl2).trans g1)
        | (go_at_call 63; (with_reducible refine (kw.out _ (ho2.below BN (Nat.le_refl _))).mono ?_); rintro e wA ⟨A6, n6, c6, rfl, hc6, hr6, hb6, hf6⟩; replace BN : Below w5.heap.size w5 wA := below_call BN hb6; have gA : wA.cell? ⟨go, 1, none⟩ = some (.slice A1 n1 c1) := (BN.cell (p := ⟨go, 1, none⟩) hgl2).trans g1; have fA : wA.frozen? ⟨go, 1, none⟩ = false := (BN.frozen (p := ⟨go, 1, none⟩) hgl2).trans hfz)))
      all_goals
        have hO6 := hO2.below BN hgl2
        have hR6 := (hR2.below BN (by omega)).far (p := ⟨go, 1, none⟩) (by simp; omega) (.slice A6 n6 c6)
        have hO7 := Blk.set hO6 1 (.slice A6 n6 c6)
        simp at hO7
        have hfr : Fr (go + 1) A6 := by
          rcases hf6 with rfl | hf6
          · exact hf1
          · refine hf6.mono ?_
            have h1 := hb6.size
            have h2 := hb9.size
            first | omega | (simp at h1 h2 ⊢; omega)
        have hr7 := RE.kept hr6 (grown_set (World.grownBy.refl wA (some go)) 1 (.slice A6 n6 c6)) (fun ad h e => by have := hfr ad h; injection e with e; omega)
        have hb7 := (BV.trans (BN.mono BV.size)).setCell (p := ⟨go, 1, none⟩) (by simp; omega) (.slice A6 n6 c6)
        clear hO2 hR2 ho2 BN hb6 hb9 hO6 hr6 BV gA fA g9 g1 n0 n1' hN
        go_wp2_with fail
        go_roundw
        case rel => exact ⟨k + 1, A6, n6, c6, by omega, by go_num, hO7, hR6, by first | exact hr7 | (rw [hst.out] at hr7; exact hr7), hc6, hfr, hb7⟩
        case measure => simp [intOf]; omega
    · have hall : putsL (l.take k) = putsL l := by rw [List.take_of_length_le (by rw [hml.out]; omega)]
      rw [hall] at ho
      have c0 := Blk.cell hO' 0
      have c1' := Blk.cell hO' 1
      have r0 := Blk.cell hR' 0
      have r1 := Blk.cell hR' 1
      simp at c0 c1' r0 r1
      have f0 := Blk.frozen hR' 0
      have f1 := Blk.frozen hR' 1
      have hr5 := RE.kept ho (grown_set (grown_set (World.grownBy.refl wr (some w.heap.size)) 0 (.int .i64 (n : Int))) 1 (.slice A1 n1 c1)) (fun ad h e => by have := hf1 ad h; injection e with e; omega)
      have hR5 := Blk.set (Blk.set hR' 0 (.int .i64 (n : Int))) 1 (.slice A1 n1 c1)
      simp at hR5
      have s0 := Blk.cell hR5 0
      have s1 := Blk.cell hR5 1
      simp at s0 s1
      have hb5 := (hb.setCell (p := ⟨w.heap.size, 0, none⟩) (by simp) (.int .i64 (n : Int))).setCell (p := ⟨w.heap.size, 1, none⟩) (by simp) (.slice A1 n1 c1)
      have hfin : RetGr w n (putsL l) 0 (.returned (.tuple #[.agg #[.int .i64 n, .slice A1 n1 c1], .int .i64 0])) ((wr.setCell ⟨w.heap.size, 0, none⟩ (.int .i64 (n : Int))).setCell ⟨w.heap.size, 1, none⟩ (.slice A1 n1 c1)) :=
        ⟨A1, n1, c1, rfl, hnc, hr5, hb5, hf1.mono (by omega)⟩
      replace hfin := Lib.hid hfin
      have hne : go ≠ w.heap.size := by omega
      clear hr5 hR5 ho hb5 hb hO' hR' hall hf1
      go_wp2_with fail
      refine bodyPost_ret (v := .tuple #[.agg #[.int .i64 n, .slice A1 n1 c1], .int .i64 0]) (by simp [results, Tryd.results38, go_sem, s0, s1]) rfl ?_
      exact hfin.out
end Go.Proofs.YtfefginhlliccaaDoor
