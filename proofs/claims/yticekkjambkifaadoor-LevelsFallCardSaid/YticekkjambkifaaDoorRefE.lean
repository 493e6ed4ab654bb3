/- Make and Valid of ratio and of the reference; the sanity check awake. -/
import Derived.Test.YticekkjambkifaaDoorRefC
import Derived.Test.YticekkjambkifaaDoorRatF
set_option linter.unusedVariables false
namespace Go.Proofs.YticekkjambkifaaDoor.Rt
open Go.RowKit CoRat

/-- What two integers make. -/
def mkN (a b : Int) : Int := if b = 0 then 0 else redN (decide (a < 0) != decide (b < 0)) a.natAbs b.natAbs
def mkD (a b : Int) : Int := if b = 0 then 0 else redD a.natAbs b.natAbs
def mkE (a b : Int) : Int := if b = 0 then 2 else redE a.natAbs b.natAbs

set_option maxHeartbeats 1000000 in
theorem make_any (a b : Int) (w : World) (a0 : -9223372036854775808 ≤ a) (a1 : a ≤ 9223372036854775807) (b0 : -9223372036854775808 ≤ b) (b1 : b ≤ 9223372036854775807) :
    Calls Tryd.prog 62 #[.int .i64 a, .int .i64 b] w fun e w' => e = .returned (.tuple #[.agg #[.int .i64 (mkN a b), .int .i64 (mkD a b)], .int .i64 (mkE a b)]) ∧ Below w.heap.size w w' := by
  by_cases hb : b = 0
  · subst hb
    go_enter Tryd.func62, Tryd.ntmps62
    go_wp2_with fail
    go_returns
    exact ⟨rfl, by go_grown⟩
  · have e1 : Hid (mkN a b = redN (decide (a < 0) != decide (b < 0)) a.natAbs b.natAbs) := Lib.hid (by unfold mkN; rw [if_neg hb])
    have e2 : Hid (mkD a b = redD a.natAbs b.natAbs) := Lib.hid (by unfold mkD; rw [if_neg hb])
    have e3 : Hid (mkE a b = redE a.natAbs b.natAbs) := Lib.hid (by unfold mkE; rw [if_neg hb])
    by_cases h : (-4611686018427387904 ≤ a ∧ a ≤ 4611686018427387904) ∧ (-4611686018427387904 ≤ b ∧ b ≤ 4611686018427387904)
    · obtain ⟨ha, hbb⟩ := h
      have wa := fun w => within_any a 4611686018427387904 w (by omega) (by omega)
      have wb := fun w => within_any b 4611686018427387904 w (by omega) (by omega)
      rw [decide_eq_true ha] at wa
      rw [decide_eq_true hbb] at wb
      have lw := fun w => lowest_any a b w ha.1 ha.2 hbb.1 hbb.2 hb
      replace wa := Lib.hid wa
      replace wb := Lib.hid wb
      replace lw := Lib.hid lw
      have hb' : (b == 0) = false := by simpa using hb
      clear hb
      go_enter Tryd.func62, Tryd.ntmps62
      go_wp2_with fail
      refine (wa.out _).mono ?_; rintro e w1 ⟨rfl, rfl⟩
      go_wp2_with fail
      refine (wb.out _).mono ?_; rintro e w1 ⟨rfl, rfl⟩
      go_wp2_with fail
      refine (lw.out _).mono ?_; rintro e w1 ⟨rfl, hb1⟩; obtain ⟨hc1, hf1⟩ := bat hb1 (w.heap.size + 1) (by simp)
      go_wp2_with fail
      refine bodyPost_ret (v := .tuple #[.agg #[.int .i64 (redN (decide (a < 0) != decide (b < 0)) a.natAbs b.natAbs), .int .i64 (redD a.natAbs b.natAbs)], .int .i64 (redE a.natAbs b.natAbs)]) (by simp [results, Tryd.results62, go_sem, hc1]) rfl ?_
      exact ⟨by rw [e1.out, e2.out, e3.out], ((by go_grown : Below w.heap.size w _).trans (hb1.mono (by simp))).trans (two_below (Below.refl _ _) (by have := hb1.size; simp at this; omega) _ _)⟩
    · have hb' : (b == 0) = false := by simpa using hb
      have ex := fun w => exact_any (hi a.natAbs) (lo a.natAbs) (hi b.natAbs) (lo b.natAbs) (decide (a < 0)) (decide (b < 0)) a.natAbs b.natAbs w (W.mk _) (by unfold B; omega) (W.mk _) (by unfold B; omega) (by omega)
      replace ex := Lib.hid ex
      have wa := fun w => within_any a 4611686018427387904 w (by omega) (by omega)
      have wb := fun w => within_any b 4611686018427387904 w (by omega) (by omega)
      by_cases ha : -4611686018427387904 ≤ a ∧ a ≤ 4611686018427387904
      · rw [decide_eq_true ha] at wa
        rw [decide_eq_false (show ¬ (-4611686018427387904 ≤ b ∧ b ≤ 4611686018427387904) from fun x => h ⟨ha, x⟩)] at wb
        clear ha
        replace wa := Lib.hid wa
        replace wb := Lib.hid wb
        clear hb h
        go_enter Tryd.func62, Tryd.ntmps62
        go_wp2_with fail
        refine (wa.out _).mono ?_; rintro e w1 ⟨rfl, rfl⟩
        go_wp2_with fail
        refine (wb.out _).mono ?_; rintro e w1 ⟨rfl, rfl⟩
        go_wp2_with fail
        refine (of_any a _ a0 a1).mono ?_; rintro e w1 ⟨rfl, hb1⟩; obtain ⟨hc1, hf1⟩ := bat hb1 (w.heap.size + 1) (by simp)
        have s1 : w.heap.size + 1 ≤ w1.heap.size := by have := hb1.size; simpa using this
        go_wp2_with fail
        refine (of_any b _ b0 b1).mono ?_; rintro e w2 ⟨rfl, hb2⟩; obtain ⟨hc2, hf2⟩ := bat hb2 (w.heap.size + 1) s1
        have s2 : w.heap.size + 1 ≤ w2.heap.size := by have := hb2.size; omega
        go_wp2_with fail
        refine (ex.out _).mono ?_; rintro e w3 ⟨rfl, hb3⟩; obtain ⟨hc3, hf3⟩ := bat hb3 (w.heap.size + 1) s2
        go_wp2_with fail
        refine bodyPost_ret (v := .tuple #[.agg #[.int .i64 (redN (decide (a < 0) != decide (b < 0)) a.natAbs b.natAbs), .int .i64 (redD a.natAbs b.natAbs)], .int .i64 (redE a.natAbs b.natAbs)]) (by simp [results, Tryd.results62, go_sem, hc1, hc2, hc3]) rfl ?_
        exact ⟨by rw [e1.out, e2.out, e3.out], ((((by go_grown : Below w.heap.size w _).trans (hb1.mono (by simp))).trans (hb2.mono (by omega))).trans (hb3.mono (by omega))).trans (two_below (Below.refl _ _) (by have := hb3.size; omega) _ _)⟩
      · rw [decide_eq_false ha] at wa
        clear ha wb
        replace wa := Lib.hid wa
        clear hb h
        go_enter Tryd.func62, Tryd.ntmps62
        go_wp2_with fail
        refine (wa.out _).mono ?_; rintro e w1 ⟨rfl, rfl⟩
        go_wp2_with fail
        refine (of_any a _ a0 a1).mono ?_; rintro e w1 ⟨rfl, hb1⟩; obtain ⟨hc1, hf1⟩ := bat hb1 (w.heap.size + 1) (by simp)
        have s1 : w.heap.size + 1 ≤ w1.heap.size := by have := hb1.size; simpa using this
        go_wp2_with fail
        refine (of_any b _ b0 b1).mono ?_; rintro e w2 ⟨rfl, hb2⟩; obtain ⟨hc2, hf2⟩ := bat hb2 (w.heap.size + 1) s1
        have s2 : w.heap.size + 1 ≤ w2.heap.size := by have := hb2.size; omega
        go_wp2_with fail
        refine (ex.out _).mono ?_; rintro e w3 ⟨rfl, hb3⟩; obtain ⟨hc3, hf3⟩ := bat hb3 (w.heap.size + 1) s2
        go_wp2_with fail
        refine bodyPost_ret (v := .tuple #[.agg #[.int .i64 (redN (decide (a < 0) != decide (b < 0)) a.natAbs b.natAbs), .int .i64 (redD a.natAbs b.natAbs)], .int .i64 (redE a.natAbs b.natAbs)]) (by simp [results, Tryd.results62, go_sem, hc1, hc2, hc3]) rfl ?_
        exact ⟨by rw [e1.out, e2.out, e3.out], ((((by go_grown : Below w.heap.size w _).trans (hb1.mono (by simp))).trans (hb2.mono (by omega))).trans (hb3.mono (by omega))).trans (two_below (Below.refl _ _) (by have := hb3.size; omega) _ _)⟩

set_option maxHeartbeats 1000000 in
theorem rmake_any (a b : Int) (w : World) (a0 : -9223372036854775808 ≤ a) (a1 : a ≤ 9223372036854775807) (b0 : -9223372036854775808 ≤ b) (b1 : b ≤ 9223372036854775807) :
    Calls Tryd.prog 69 #[.int .i64 a, .int .i64 b] w fun e w' => e = .returned (.tuple #[.agg #[.int .i64 (mkN a b), .int .i64 (mkD a b)], .int .i64 (mkE a b)]) ∧ Below w.heap.size w w' := by
  by_cases hb : b = 0
  · subst hb
    go_enter Tryd.func69, Tryd.ntmps69
    go_wp2_with fail
    go_returns
    exact ⟨rfl, by go_grown⟩
  · have e1 : Hid (mkN a b = redN (decide (a < 0) != decide (b < 0)) a.natAbs b.natAbs) := Lib.hid (by unfold mkN; rw [if_neg hb])
    have e2 : Hid (mkD a b = redD a.natAbs b.natAbs) := Lib.hid (by unfold mkD; rw [if_neg hb])
    have e3 : Hid (mkE a b = redE a.natAbs b.natAbs) := Lib.hid (by unfold mkE; rw [if_neg hb])
    have hb' : (b == 0) = false := by simpa using hb
    by_cases ha : a < 0 <;> by_cases hb2 : b < 0
    · have hS : (decide (a < 0) != decide (b < 0)) = false := by simp [ha, hb2]
      rw [hS] at e1
      have rd := fun w => reduce_any false 0 (a.natAbs : Int) 0 (b.natAbs : Int) a.natAbs b.natAbs w (W.low rfl (by omega)) (by unfold B; omega) (W.low rfl (by omega)) (by unfold B; omega) (by omega)
      replace rd := Lib.hid rd
      clear hb hS
      go_enter Tryd.func69, Tryd.ntmps69
      go_wp2_with fail
      refine (rsize_any a _ a0 a1).mono ?_; rintro e w1 ⟨rfl, rfl⟩
      go_wp2_with fail
      refine (rsize_any b _ b0 b1).mono ?_; rintro e w1 ⟨rfl, rfl⟩
      go_wp2_with fail
      refine (rd.out _).mono ?_; rintro e w3 ⟨rfl, hb3⟩; obtain ⟨hc3, hf3⟩ := bat hb3 (w.heap.size + 1) (by simp)
      go_wp2_with fail
      refine bodyPost_ret (v := .tuple #[.agg #[.int .i64 (redN false a.natAbs b.natAbs), .int .i64 (redD a.natAbs b.natAbs)], .int .i64 (redE a.natAbs b.natAbs)]) (by simp [results, Tryd.results69, go_sem, hc3]) rfl ?_
      exact ⟨by rw [e1.out, e2.out, e3.out], ((by go_grown : Below w.heap.size w _).trans (hb3.mono (by simp))).trans (two_below (Below.refl _ _) (by have := hb3.size; simp at this; omega) _ _)⟩
    · have hS : (decide (a < 0) != decide (b < 0)) = true := by simp [ha, hb2]
      rw [hS] at e1
      have rd := fun w => reduce_any true 0 (a.natAbs : Int) 0 (b.natAbs : Int) a.natAbs b.natAbs w (W.low rfl (by omega)) (by unfold B; omega) (W.low rfl (by omega)) (by unfold B; omega) (by omega)
      replace rd := Lib.hid rd
      clear hb hS
      go_enter Tryd.func69, Tryd.ntmps69
      go_wp2_with fail
      refine (rsize_any a _ a0 a1).mono ?_; rintro e w1 ⟨rfl, rfl⟩
      go_wp2_with fail
      refine (rsize_any b _ b0 b1).mono ?_; rintro e w1 ⟨rfl, rfl⟩
      go_wp2_with fail
      refine (rd.out _).mono ?_; rintro e w3 ⟨rfl, hb3⟩; obtain ⟨hc3, hf3⟩ := bat hb3 (w.heap.size + 1) (by simp)
      go_wp2_with fail
      refine bodyPost_ret (v := .tuple #[.agg #[.int .i64 (redN true a.natAbs b.natAbs), .int .i64 (redD a.natAbs b.natAbs)], .int .i64 (redE a.natAbs b.natAbs)]) (by simp [results, Tryd.results69, go_sem, hc3]) rfl ?_
      exact ⟨by rw [e1.out, e2.out, e3.out], ((by go_grown : Below w.heap.size w _).trans (hb3.mono (by simp))).trans (two_below (Below.refl _ _) (by have := hb3.size; simp at this; omega) _ _)⟩
    · have hS : (decide (a < 0) != decide (b < 0)) = true := by simp [ha, hb2]
      rw [hS] at e1
      have rd := fun w => reduce_any true 0 (a.natAbs : Int) 0 (b.natAbs : Int) a.natAbs b.natAbs w (W.low rfl (by omega)) (by unfold B; omega) (W.low rfl (by omega)) (by unfold B; omega) (by omega)
      replace rd := Lib.hid rd
      clear hb hS
      go_enter Tryd.func69, Tryd.ntmps69
      go_wp2_with fail
      refine (rsize_any a _ a0 a1).mono ?_; rintro e w1 ⟨rfl, rfl⟩
      go_wp2_with fail
      refine (rsize_any b _ b0 b1).mono ?_; rintro e w1 ⟨rfl, rfl⟩
      go_wp2_with fail
      refine (rd.out _).mono ?_; rintro e w3 ⟨rfl, hb3⟩; obtain ⟨hc3, hf3⟩ := bat hb3 (w.heap.size + 1) (by simp)
      go_wp2_with fail
      refine bodyPost_ret (v := .tuple #[.agg #[.int .i64 (redN true a.natAbs b.natAbs), .int .i64 (redD a.natAbs b.natAbs)], .int .i64 (redE a.natAbs b.natAbs)]) (by simp [results, Tryd.results69, go_sem, hc3]) rfl ?_
      exact ⟨by rw [e1.out, e2.out, e3.out], ((by go_grown : Below w.heap.size w _).trans (hb3.mono (by simp))).trans (two_below (Below.refl _ _) (by have := hb3.size; simp at this; omega) _ _)⟩
    · have hS : (decide (a < 0) != decide (b < 0)) = false := by simp [ha, hb2]
      rw [hS] at e1
      have rd := fun w => reduce_any false 0 (a.natAbs : Int) 0 (b.natAbs : Int) a.natAbs b.natAbs w (W.low rfl (by omega)) (by unfold B; omega) (W.low rfl (by omega)) (by unfold B; omega) (by omega)
      replace rd := Lib.hid rd
      clear hb hS
      go_enter Tryd.func69, Tryd.ntmps69
      go_wp2_with fail
      refine (rsize_any a _ a0 a1).mono ?_; rintro e w1 ⟨rfl, rfl⟩
      go_wp2_with fail
      refine (rsize_any b _ b0 b1).mono ?_; rintro e w1 ⟨rfl, rfl⟩
      go_wp2_with fail
      refine (rd.out _).mono ?_; rintro e w3 ⟨rfl, hb3⟩; obtain ⟨hc3, hf3⟩ := bat hb3 (w.heap.size + 1) (by simp)
      go_wp2_with fail
      refine bodyPost_ret (v := .tuple #[.agg #[.int .i64 (redN false a.natAbs b.natAbs), .int .i64 (redD a.natAbs b.natAbs)], .int .i64 (redE a.natAbs b.natAbs)]) (by simp [results, Tryd.results69, go_sem, hc3]) rfl ?_
      exact ⟨by rw [e1.out, e2.out, e3.out], ((by go_grown : Below w.heap.size w _).trans (hb3.mono (by simp))).trans (two_below (Below.refl _ _) (by have := hb3.size; simp at this; omega) _ _)⟩
end Go.Proofs.YticekkjambkifaaDoor.Rt

namespace Go.Proofs.YticekkjambkifaaDoor.Rt
open Go.RowKit CoRat

/-- Is a fraction valid? -/
def okF (n d : Int) : Bool := decide (-1152921504606846976 ≤ n ∧ n ≤ 1152921504606846976 ∧ 1 ≤ d ∧ d ≤ 1152921504606846976 ∧ Nat.gcd n.natAbs d.natAbs = 1)

set_option maxHeartbeats 1000000 in
theorem valid_any (n d : Int) (w : World) :
    Calls Tryd.prog 113 #[.agg #[.int .i64 n, .int .i64 d]] w fun e w' => e = .returned (.bool (okF n d)) ∧ Below w.heap.size w w' := by
  have wn := fun w => within_any n 1152921504606846976 w (by omega) (by omega)
  by_cases hn : -1152921504606846976 ≤ n ∧ n ≤ 1152921504606846976
  · rw [decide_eq_true hn] at wn
    replace wn := Lib.hid wn
    by_cases hd : 1 ≤ d ∧ d ≤ 1152921504606846976
    · obtain ⟨g, hg⟩ : ∃ g, Nat.gcd n.natAbs d.natAbs = g := ⟨_, rfl⟩
      have ho : Hid (okF n d = decide (g = 1)) := Lib.hid (by unfold okF; rw [decide_eq_decide, hg]; omega)
      obtain ⟨hd1, hd2⟩ := hd
      obtain ⟨hn1, hn2⟩ := hn
      replace hg := Lib.hid hg
      go_enter Tryd.func113, Tryd.ntmps113
      go_wp2_with fail
      refine (wn.out _).mono ?_; rintro e w1 ⟨rfl, rfl⟩
      go_wp2_with fail
      all_goals
        refine (common_any _ _ _ (by omega) (by omega) (by omega) (by omega)).mono ?_; rintro e w1 ⟨rfl, k1, rfl⟩
        rw [gcd_abs]
        try simp only [Int.natAbs_neg]
        simp only [hg.out]
        go_wp2_with fail
        go_returns
        refine ⟨retBool (by rw [ho.out, Bool.eq_iff_iff]; simp; omega), ?_⟩
        exact below_drewN ((Below.refl _ _).alloc (Nat.le_refl _) _) _
    · have ho : Hid (okF n d = false) := Lib.hid (by unfold okF; rw [decide_eq_false_iff_not]; omega)
      clear hn
      by_cases hd1 : 1 ≤ d
      · have hd2 : 1152921504606846976 < d := by omega
        clear hd
        go_enter Tryd.func113, Tryd.ntmps113
        go_wp2_with fail
        refine (wn.out _).mono ?_; rintro e w1 ⟨rfl, rfl⟩
        go_wp2_with fail
        go_returns
        exact ⟨retBool ho.out.symm, by go_grown⟩
      · clear hd
        go_enter Tryd.func113, Tryd.ntmps113
        go_wp2_with fail
        refine (wn.out _).mono ?_; rintro e w1 ⟨rfl, rfl⟩
        go_wp2_with fail
        go_returns
        exact ⟨retBool ho.out.symm, by go_grown⟩
  · have ho : Hid (okF n d = false) := Lib.hid (by unfold okF; rw [decide_eq_false_iff_not]; omega)
    rw [decide_eq_false hn] at wn
    replace wn := Lib.hid wn
    clear hn
    go_enter Tryd.func113, Tryd.ntmps113
    go_wp2_with fail
    refine (wn.out _).mono ?_; rintro e w1 ⟨rfl, rfl⟩
    go_wp2_with fail
    go_returns
    exact ⟨retBool ho.out.symm, by go_grown⟩

set_option maxHeartbeats 1000000 in
theorem rvalid_any (n d : Int) (w : World) :
    Calls Tryd.prog 43 #[.agg #[.int .i64 n, .int .i64 d]] w fun e w' => e = .returned (.bool (okF n d)) ∧ Below w.heap.size w w' := by
  by_cases h : -1152921504606846976 ≤ n ∧ n ≤ 1152921504606846976 ∧ 1 ≤ d ∧ d ≤ 1152921504606846976
  · obtain ⟨h1, h2, h3, h4⟩ := h
    obtain ⟨g, hg⟩ : ∃ g, Nat.gcd n.natAbs d.natAbs = g := ⟨_, rfl⟩
    have ho : Hid (okF n d = decide (g = 1)) := Lib.hid (by unfold okF; rw [decide_eq_decide, hg]; omega)
    have hg1 : g ≤ d.natAbs := hg ▸ Nat.le_of_dvd (by omega) (Nat.gcd_dvd_right _ _)
    obtain ⟨eg1, eg2⟩ := hi_small (z := g) (by omega)
    have rg := fun w => rgcd_any 0 (n.natAbs : Int) 0 d n.natAbs d.natAbs w (W.low rfl (by omega)) (by unfold B; omega) (W.low (by omega) (by omega)) (by unfold B; omega)
    rw [hg, eg1, eg2] at rg
    replace rg := Lib.hid rg
    replace hg := Lib.hid hg
    clear eg1 eg2
    have wd : IntKind.u64.wrap d = d := IntWalk.u64_in _ ⟨by omega, by omega⟩
    by_cases hgo : g = 1
    · have hgb : ((g : Int) == 1) = true := by simp; omega
      replace hgo := Lib.hid hgo
      go_enter Tryd.func43, Tryd.ntmps43
      go_wp2_with fail
      go_region_with (first | (go_at_call 66; (with_reducible refine (rsize_any n _ (by omega) (by omega)).mono ?_); rintro e w1 ⟨rfl, rfl⟩) | (go_at_call 85; (with_reducible refine (rg.out _).mono ?_); rintro e w2 ⟨rfl, hb2⟩))
      all_goals go_wp2_with fail
      all_goals go_returns
      all_goals exact ⟨retBool (by rw [ho.out]; simp [hgo.out]), ((Below.refl _ _).alloc (Nat.le_refl _) _).drew.trans (hb2.mono (by simp))⟩
    · have hgb : ((g : Int) == 1) = false := by simp; omega
      replace hgo := Lib.hid hgo
      go_enter Tryd.func43, Tryd.ntmps43
      go_wp2_with fail
      go_region_with (first | (go_at_call 66; (with_reducible refine (rsize_any n _ (by omega) (by omega)).mono ?_); rintro e w1 ⟨rfl, rfl⟩) | (go_at_call 85; (with_reducible refine (rg.out _).mono ?_); rintro e w2 ⟨rfl, hb2⟩))
      all_goals go_wp2_with fail
      all_goals go_returns
      all_goals exact ⟨retBool (by rw [ho.out]; simp [hgo.out]), ((Below.refl _ _).alloc (Nat.le_refl _) _).drew.trans (hb2.mono (by simp))⟩
  · have ho : Hid (okF n d = false) := Lib.hid (by unfold okF; rw [decide_eq_false_iff_not]; omega)
    replace h := Lib.hid h
    go_enter Tryd.func43, Tryd.ntmps43
    go_wp2_with fail
    all_goals first | (exfalso; have := h.out; omega) | skip
    all_goals go_returns
    all_goals exact ⟨retBool ho.out.symm, by go_grown⟩
theorem okF_bd {n d : Int} (h : okF n d = true) : -1152921504606846976 ≤ n ∧ n ≤ 1152921504606846976 ∧ 1 ≤ d ∧ d ≤ 1152921504606846976 ∧ Nat.gcd n.natAbs d.natAbs = 1 := by
  unfold okF at h; exact of_decide_eq_true h
end Go.Proofs.YticekkjambkifaaDoor.Rt
