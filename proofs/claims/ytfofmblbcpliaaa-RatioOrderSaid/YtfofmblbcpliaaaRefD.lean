/- Make and Valid of ratio and of the reference; the sanity check awake. -/
import Derived.Test.YtfofmblbcpliaaaRefC
import Derived.Test.YtfofmblbcpliaaaRatF
set_option linter.unusedVariables false
namespace Go.Proofs.Ytfofmblbcpliaaa
open Go.RowKit CoRat

/-- What two integers make. -/
def mkN (a b : Int) : Int := if b = 0 then 0 else redN (decide (a < 0) != decide (b < 0)) a.natAbs b.natAbs
def mkD (a b : Int) : Int := if b = 0 then 0 else redD a.natAbs b.natAbs
def mkE (a b : Int) : Int := if b = 0 then 2 else redE a.natAbs b.natAbs

set_option maxHeartbeats 1000000 in
theorem make_any (a b : Int) (w : World) (a0 : -9223372036854775808 ≤ a) (a1 : a ≤ 9223372036854775807) (b0 : -9223372036854775808 ≤ b) (b1 : b ≤ 9223372036854775807) :
    Calls Try.prog 8 #[.int .i64 a, .int .i64 b] w fun e w' => e = .returned (.tuple #[.agg #[.int .i64 (mkN a b), .int .i64 (mkD a b)], .int .i64 (mkE a b)]) ∧ Below w.heap.size w w' := by
  by_cases hb : b = 0
  · subst hb
    go_enter Try.func8, Try.ntmps8
    go_wp2_with fail
    go_returns
    exact ⟨rfl, by go_grown⟩
  · have e1 : Hid (mkN a b = redN (decide (a < 0) != decide (b < 0)) a.natAbs b.natAbs) := Lib.hid (by unfold mkN; rw [if_neg hb])
    have e2 : Hid (mkD a b = redD a.natAbs b.natAbs) := Lib.hid (by unfold mkD; rw [if_neg hb])
    have e3 : Hid (mkE a b = redE a.natAbs b.natAbs) := Lib.hid (by unfold mkE; rw [if_neg hb])
    by_cases h : (-4611686018427387904 ≤ a ∧ a ≤ 4611686018427387904) ∧ (-4611686018427387904 ≤ b ∧ b ≤ 4611686018427387904)
    · obtain ⟨ha, hbb⟩ := h
      have wa := fun w => within_any a 4611686018427387904 w (by omega) (by omega)
      have wb := fun w => within_any b 4611686018427387904 w (by omega) (by omega)
      rw [decide_eq_true ha] at wa
      rw [decide_eq_true hbb] at wb
      have lw := fun w => lowest_any a b w ha.1 ha.2 hbb.1 hbb.2 hb
      replace wa := Lib.hid wa
      replace wb := Lib.hid wb
      replace lw := Lib.hid lw
      have hb' : (b == 0) = false := by simpa using hb
      clear hb
      go_enter Try.func8, Try.ntmps8
      go_wp2_with fail
      refine (wa.out _).mono ?_; rintro e w1 ⟨rfl, rfl⟩
      go_wp2_with fail
      refine (wb.out _).mono ?_; rintro e w1 ⟨rfl, rfl⟩
      go_wp2_with fail
      refine (lw.out _).mono ?_; rintro e w1 ⟨rfl, hb1⟩; obtain ⟨hc1, hf1⟩ := bat hb1 (w.heap.size + 1) (by simp)
      go_wp2_with fail
      refine bodyPost_ret (v := .tuple #[.agg #[.int .i64 (redN (decide (a < 0) != decide (b < 0)) a.natAbs b.natAbs), .int .i64 (redD a.natAbs b.natAbs)], .int .i64 (redE a.natAbs b.natAbs)]) (by simp [results, Try.results8, go_sem, hc1]) rfl ?_
      exact ⟨by rw [e1.out, e2.out, e3.out], ((by go_grown : Below w.heap.size w _).trans (hb1.mono (by simp))).trans (two_below (Below.refl _ _) (by have := hb1.size; simp at this; omega) _ _)⟩
    · have hb' : (b == 0) = false := by simpa using hb
      have ex := fun w => exact_any (hi a.natAbs) (lo a.natAbs) (hi b.natAbs) (lo b.natAbs) (decide (a < 0)) (decide (b < 0)) a.natAbs b.natAbs w (W.mk _) (by unfold B; omega) (W.mk _) (by unfold B; omega) (by omega)
      replace ex := Lib.hid ex
      have wa := fun w => within_any a 4611686018427387904 w (by omega) (by omega)
      have wb := fun w => within_any b 4611686018427387904 w (by omega) (by omega)
      by_cases ha : -4611686018427387904 ≤ a ∧ a ≤ 4611686018427387904
      · rw [decide_eq_true ha] at wa
        rw [decide_eq_false (show ¬ (-4611686018427387904 ≤ b ∧ b ≤ 4611686018427387904) from fun x => h ⟨ha, x⟩)] at wb
        clear ha
        replace wa := Lib.hid wa
        replace wb := Lib.hid wb
        clear hb h
        go_enter Try.func8, Try.ntmps8
        go_wp2_with fail
        refine (wa.out _).mono ?_; rintro e w1 ⟨rfl, rfl⟩
        go_wp2_with fail
        refine (wb.out _).mono ?_; rintro e w1 ⟨rfl, rfl⟩
        go_wp2_with fail
        refine (of_any a _ a0 a1).mono ?_; rintro e w1 ⟨rfl, hb1⟩; obtain ⟨hc1, hf1⟩ := bat hb1 (w.heap.size + 1) (by simp)
        have s1 : w.heap.size + 1 ≤ w1.heap.size := by have := hb1.size; simpa using this
        go_wp2_with fail
        refine (of_any b _ b0 b1).mono ?_; rintro e w2 ⟨rfl, hb2⟩; obtain ⟨hc2, hf2⟩ := bat hb2 (w.heap.size + 1) s1
        have s2 : w.heap.size + 1 ≤ w2.heap.size := by have := hb2.size; omega
        go_wp2_with fail
        refine (ex.out _).mono ?_; rintro e w3 ⟨rfl, hb3⟩; obtain ⟨hc3, hf3⟩ := bat hb3 (w.heap.size + 1) s2
        go_wp2_with fail
        refine bodyPost_ret (v := .tuple #[.agg #[.int .i64 (redN (decide (a < 0) != decide (b < 0)) a.natAbs b.natAbs), .int .i64 (redD a.natAbs b.natAbs)], .int .i64 (redE a.natAbs b.natAbs)]) (by simp [results, Try.results8, go_sem, hc1, hc2, hc3]) rfl ?_
        exact ⟨by rw [e1.out, e2.out, e3.out], ((((by go_grown : Below w.heap.size w _).trans (hb1.mono (by simp))).trans (hb2.mono (by omega))).trans (hb3.mono (by omega))).trans (two_below (Below.refl _ _) (by have := hb3.size; omega) _ _)⟩
      · rw [decide_eq_false ha] at wa
        clear ha wb
        replace wa := Lib.hid wa
        clear hb h
        go_enter Try.func8, Try.ntmps8
        go_wp2_with fail
        refine (wa.out _).mono ?_; rintro e w1 ⟨rfl, rfl⟩
        go_wp2_with fail
        refine (of_any a _ a0 a1).mono ?_; rintro e w1 ⟨rfl, hb1⟩; obtain ⟨hc1, hf1⟩ := bat hb1 (w.heap.size + 1) (by simp)
        have s1 : w.heap.size + 1 ≤ w1.heap.size := by have := hb1.size; simpa using this
        go_wp2_with fail
        refine (of_any b _ b0 b1).mono ?_; rintro e w2 ⟨rfl, hb2⟩; obtain ⟨hc2, hf2⟩ := bat hb2 (w.heap.size + 1) s1
        have s2 : w.heap.size + 1 ≤ w2.heap.size := by have := hb2.size; omega
        go_wp2_with fail
        refine (ex.out _).mono ?_; rintro e w3 ⟨rfl, hb3⟩; obtain ⟨hc3, hf3⟩ := bat hb3 (w.heap.size + 1) s2
        go_wp2_with fail
        refine bodyPost_ret (v := .tuple #[.agg #[.int .i64 (redN (decide (a < 0) != decide (b < 0)) a.natAbs b.natAbs), .int .i64 (redD a.natAbs b.natAbs)], .int .i64 (redE a.natAbs b.natAbs)]) (by simp [results, Try.results8, go_sem, hc1, hc2, hc3]) rfl ?_
        exact ⟨by rw [e1.out, e2.out, e3.out], ((((by go_grown : Below w.heap.size w _).trans (hb1.mono (by simp))).trans (hb2.mono (by omega))).trans (hb3.mono (by omega))).trans (two_below (Below.refl _ _) (by have := hb3.size; omega) _ _)⟩

set_option maxHeartbeats 1000000 in
theorem rmake_any (a b : Int) (w : World) (a0 : -9223372036854775808 ≤ a) (a1 : a ≤ 9223372036854775807) (b0 : -9223372036854775808 ≤ b) (b1 : b ≤ 9223372036854775807) :
    Calls Try.prog 9 #[.int .i64 a, .int .i64 b] w fun e w' => e = .returned (.tuple #[.agg #[.int .i64 (mkN a b), .int .i64 (mkD a b)], .int .i64 (mkE a b)]) ∧ Below w.heap.size w w' := by
  by_cases hb : b = 0
  · subst hb
    go_enter Try.func9, Try.ntmps9
    go_wp2_with fail
    go_returns
    exact ⟨rfl, by go_grown⟩
  · have e1 : Hid (mkN a b = redN (decide (a < 0) != decide (b < 0)) a.natAbs b.natAbs) := Lib.hid (by unfold mkN; rw [if_neg hb])
    have e2 : Hid (mkD a b = redD a.natAbs b.natAbs) := Lib.hid (by unfold mkD; rw [if_neg hb])
    have e3 : Hid (mkE a b = redE a.natAbs b.natAbs) := Lib.hid (by unfold mkE; rw [if_neg hb])
    have hb' : (b == 0) = false := by simpa using hb
    by_cases ha : a < 0 <;> by_cases hb2 : b < 0
    · have hS : (decide (a < 0) != decide (b < 0)) = false := by simp [ha, hb2]
      rw [hS] at e1
      have rd := fun w => reduce_any false 0 (a.natAbs : Int) 0 (b.natAbs : Int) a.natAbs b.natAbs w (W.low rfl (by omega)) (by unfold B; omega) (W.low rfl (by omega)) (by unfold B; omega) (by omega)
      replace rd := Lib.hid rd
      clear hb hS
      go_enter Try.func9, Try.ntmps9
      go_wp2_with fail
      refine (rsize_any a _ a0 a1).mono ?_; rintro e w1 ⟨rfl, rfl⟩
      go_wp2_with fail
      refine (rsize_any b _ b0 b1).mono ?_; rintro e w1 ⟨rfl, rfl⟩
      go_wp2_with fail
      refine (rd.out _).mono ?_; rintro e w3 ⟨rfl, hb3⟩; obtain ⟨hc3, hf3⟩ := bat hb3 (w.heap.size + 1) (by simp)
      go_wp2_with fail
      refine bodyPost_ret (v := .tuple #[.agg #[.int .i64 (redN false a.natAbs b.natAbs), .int .i64 (redD a.natAbs b.natAbs)], .int .i64 (redE a.natAbs b.natAbs)]) (by simp [results, Try.results9, go_sem, hc3]) rfl ?_
      exact ⟨by rw [e1.out, e2.out, e3.out], ((by go_grown : Below w.heap.size w _).trans (hb3.mono (by simp))).trans (two_below (Below.refl _ _) (by have := hb3.size; simp at this; omega) _ _)⟩
    · have hS : (decide (a < 0) != decide (b < 0)) = true := by simp [ha, hb2]
      rw [hS] at e1
      have rd := fun w => reduce_any true 0 (a.natAbs : Int) 0 (b.natAbs : Int) a.natAbs b.natAbs w (W.low rfl (by omega)) (by unfold B; omega) (W.low rfl (by omega)) (by unfold B; omega) (by omega)
      replace rd := Lib.hid rd
      clear hb hS
      go_enter Try.func9, Try.ntmps9
      go_wp2_with fail
      refine (rsize_any a _ a0 a1).mono ?_; rintro e w1 ⟨rfl, rfl⟩
      go_wp2_with fail
      refine (rsize_any b _ b0 b1).mono ?_; rintro e w1 ⟨rfl, rfl⟩
      go_wp2_with fail
      refine (rd.out _).mono ?_; rintro e w3 ⟨rfl, hb3⟩; obtain ⟨hc3, hf3⟩ := bat hb3 (w.heap.size + 1) (by simp)
      go_wp2_with fail
      refine bodyPost_ret (v := .tuple #[.agg #[.int .i64 (redN true a.natAbs b.natAbs), .int .i64 (redD a.natAbs b.natAbs)], .int .i64 (redE a.natAbs b.natAbs)]) (by simp [results, Try.results9, go_sem, hc3]) rfl ?_
      exact ⟨by rw [e1.out, e2.out, e3.out], ((by go_grown : Below w.heap.size w _).trans (hb3.mono (by simp))).trans (two_below (Below.refl _ _) (by have := hb3.size; simp at this; omega) _ _)⟩
    · have hS : (decide (a < 0) != decide (b < 0)) = true := by simp [ha, hb2]
      rw [hS] at e1
      have rd := fun w => reduce_any true 0 (a.natAbs : Int) 0 (b.natAbs : Int) a.natAbs b.natAbs w (W.low rfl (by omega)) (by unfold B; omega) (W.low rfl (by omega)) (by unfold B; omega) (by omega)
      replace rd := Lib.hid rd
      clear hb hS
      go_enter Try.func9, Try.ntmps9
      go_wp2_with fail
      refine (rsize_any a _ a0 a1).mono ?_; rintro e w1 ⟨rfl, rfl⟩
      go_wp2_with fail
      refine (rsize_any b _ b0 b1).mono ?_; rintro e w1 ⟨rfl, rfl⟩
      go_wp2_with fail
      refine (rd.out _).mono ?_; rintro e w3 ⟨rfl, hb3⟩; obtain ⟨hc3, hf3⟩ := bat hb3 (w.heap.size + 1) (by simp)
      go_wp2_with fail
      refine bodyPost_ret (v := .tuple #[.agg #[.int .i64 (redN true a.natAbs b.natAbs), .int .i64 (redD a.natAbs b.natAbs)], .int .i64 (redE a.natAbs b.natAbs)]) (by simp [results, Try.results9, go_sem, hc3]) rfl ?_
      exact ⟨by rw [e1.out, e2.out, e3.out], ((by go_grown : Below w.heap.size w _).trans (hb3.mono (by simp))).trans (two_below (Below.refl _ _) (by have := hb3.size; simp at this; omega) _ _)⟩
    · have hS : (decide (a < 0) != decide (b < 0)) = false := by simp [ha, hb2]
      rw [hS] at e1
      have rd := fun w => reduce_any false 0 (a.natAbs : Int) 0 (b.natAbs : Int) a.natAbs b.natAbs w (W.low rfl (by omega)) (by unfold B; omega) (W.low rfl (by omega)) (by unfold B; omega) (by omega)
      replace rd := Lib.hid rd
      clear hb hS
      go_enter Try.func9, Try.ntmps9
      go_wp2_with fail
      refine (rsize_any a _ a0 a1).mono ?_; rintro e w1 ⟨rfl, rfl⟩
      go_wp2_with fail
      refine (rsize_any b _ b0 b1).mono ?_; rintro e w1 ⟨rfl, rfl⟩
      go_wp2_with fail
      refine (rd.out _).mono ?_; rintro e w3 ⟨rfl, hb3⟩; obtain ⟨hc3, hf3⟩ := bat hb3 (w.heap.size + 1) (by simp)
      go_wp2_with fail
      refine bodyPost_ret (v := .tuple #[.agg #[.int .i64 (redN false a.natAbs b.natAbs), .int .i64 (redD a.natAbs b.natAbs)], .int .i64 (redE a.natAbs b.natAbs)]) (by simp [results, Try.results9, go_sem, hc3]) rfl ?_
      exact ⟨by rw [e1.out, e2.out, e3.out], ((by go_grown : Below w.heap.size w _).trans (hb3.mono (by simp))).trans (two_below (Below.refl _ _) (by have := hb3.size; simp at this; omega) _ _)⟩
end Go.Proofs.Ytfofmblbcpliaaa
