/- Package plex: Is, Maximal, Reduce. -/
import Derived.Test.YtfefginhlliccaaDoorPlxF
set_option linter.unusedVariables false
set_option linter.unusedSimpArgs false
namespace Go.Proofs.YtfefginhlliccaaDoor.Pl
open Go.RowKit Go.Shelf CoBit CoCli Go.Proofs.YtfefginhlliccaaDoor

set_option maxHeartbeats 1000000 in
theorem nvalid_any (A : Option Addr) (n c : Nat) (xs : List Int) (m : Int) (w : World) (h : RI w A n xs) (hn : n ≤ 4611686018427387904) :
    Calls Tryd.prog 47 #[.slice A n c, .int .i64 m] w fun e w' => e = .returned (.bool (decide (Vld xs m))) ∧ w = w' := by
  have hl := Lib.hid h.len
  go_enter Tryd.func47, Tryd.ntmps47
  go_wp2
  go_loop [9] (fun i => ∃ k : Nat, k ≤ n ∧ i = .int .i64 k ∧ Hid (Vld (xs.take k) m)) (fun i => n - (intOf i).toNat)
  case atStart => exact ⟨0, Nat.zero_le _, rfl, Lib.hid (vld_nil m)⟩
  case round =>
    obtain ⟨k, hk, rfl, hx⟩ := hrel
    by_cases hlt : k < n
    · obtain ⟨ad, y, rfl, hy, hc⟩ := h.get hlt
      by_cases hb : 0 ≤ y ∧ y < m
      · obtain ⟨hb0, hb1⟩ := hb
        by_cases hk0 : 0 < k
        · obtain ⟨ad', z, had, hz, hcz⟩ := h.get (show k - 1 < n by omega)
          obtain rfl : ad = ad' := by injection had
          clear had
          by_cases hzy : z < y
          · have hv := Lib.hid (vld_next hx.out hz.out hy.out hk0 hb0 hb1 hzy)
            go_wp2
            go_round
            case rel => exact ⟨k + 1, by omega, by go_num, hv⟩
            case measure => simp [intOf]; omega
          · have hv := Lib.hid (vld_down (m := m) hz.out hy.out hk0 (by omega))
            go_wp2
            go_ret
            exact ⟨retBool (decide_eq_false hv.out).symm, rfl⟩
        · have hv := Lib.hid (vld_first hy.out (by omega) hb0 hb1)
          go_wp2
          go_round
          case rel => exact ⟨k + 1, by omega, by go_num, hv⟩
          case measure => simp [intOf]; omega
      · have hv := Lib.hid (vld_out hy.out hb)
        by_cases hb0 : y < 0
        · clear hb
          go_wp2
          go_ret
          exact ⟨retBool (decide_eq_false hv.out).symm, rfl⟩
        · have hb1 : m ≤ y := by omega
          clear hb
          go_wp2
          go_ret
          exact ⟨retBool (decide_eq_false hv.out).symm, rfl⟩
    · have hv : Vld xs m := by
        have := hx.out
        rwa [List.take_of_length_le (by rw [hl.out]; omega)] at this
      replace hv := Lib.hid hv
      go_wp2
      go_ret
      exact ⟨retBool (decide_eq_true hv.out).symm, rfl⟩


/-- What Is says. -/
def isB (n : Int) (es : List (Int × Int)) (xs : List Int) (k : Int) : Bool := decide (chkG n es = 0 ∧ 1 ≤ k ∧ k ≤ 3 ∧ Vld xs n) && decide (plx (ad (rowsL n.toNat es)) k.toNat (xs.map Int.toNat))
theorem isB_no {n : Int} {es : List (Int × Int)} {xs : List Int} {k : Int} (h : ¬ (chkG n es = 0 ∧ 1 ≤ k ∧ k ≤ 3 ∧ Vld xs n)) : isB n es xs k = false := by unfold isB; rw [decide_eq_false h]; rfl
set_option maxRecDepth 100000 in
set_option maxHeartbeats 2000000 in
theorem is_any (A : Option Addr) (m c : Nat) (n : Int) (es : List (Int × Int)) (A2 : Option Addr) (m2 c2 : Nat) (xs : List Int) (k : Int) (w : World) (hE : RE w A m es) (hm : m ≤ 1099511627776) (hT : Tab w) (h2 : RI w A2 m2 xs) (hm2 : m2 ≤ 1099511627776) :
    Calls Tryd.prog 17 #[.agg #[.int .i64 n, .slice A m c], .slice A2 m2 c2, .int .i64 k] w fun e w' => e = .returned (.bool (isB n es xs k)) ∧ Below w.heap.size w w' := by
  have hg := fun w h => gcheck_any A m c n es w h hm
  have hs := slack_any k
  have hv := fun w h => nvalid_any A2 m2 c2 xs n w h (by omega)
  have hB1 : Below w.heap.size w (w.alloc (.cells #[.int .i64 n, .slice A m c] 27)) := (Below.refl _ w).alloc (Nat.le_refl _) _
  by_cases h0 : chkG n es = 0
  · simp only [h0] at hg
    by_cases h1 : 1 ≤ k ∧ k ≤ 3
    · rw [decide_eq_true h1] at hs
      by_cases h3 : Vld xs n
      · simp only [decide_eq_true h3] at hv
        obtain ⟨N, rfl⟩ := Int.eq_ofNat_of_zero_le (chkG_zero h0).1
        obtain ⟨kk, rfl⟩ := Int.eq_ofNat_of_zero_le (show 0 ≤ k by omega)
        have hN : N ≤ 64 := by have := (chkG_zero h0).2.1; omega
        obtain ⟨e1, e2, e3⟩ := nt_toNat h3
        have hf : isB N es xs kk = decide (plx (ad (rowsL N es)) kk (xs.map Int.toNat)) := by unfold isB; rw [decide_eq_true ⟨h0, h1.1, h1.2, h3⟩]; rfl
        rw [hf]
        clear hf
        have h2x := h2
        rw [← e1] at h2
        have hm3 := h2.len
        clear e1
        generalize xs.map Int.toNat = S at *
        have h64 : ∀ x ∈ S, x < 64 := fun x hx => Nat.lt_of_lt_of_le (e3 x hx) hN
        have hmk := fun w h => pmasks_any A m c N es w h hm hN h0
        have hms := fun w h => mask_any A2 m2 c2 S w h hm2 h64
        have hbl := bl_msk e2 h64
        have hXn : ∀ i, (mskN S).testBit i = true → i < N := fun i hi => by rw [mskN_bit, decide_eq_true_iff] at hi; exact e3 i hi
        have hpl := fun gr w hT hA => plex_any gr N (rowsL N es) (rowsL_length N es) (rows_lt es hN) (mskN S) kk (by omega) w (mskN_lt h64) hXn hT hA
        simp only [hbl] at hpl
        generalize decide (plx (ad (rowsL N es)) kk S) = P at *
        replace hg := Lib.hid hg
        replace hs := Lib.hid hs
        replace hv := Lib.hid hv
        replace hmk := Lib.hid hmk
        replace hms := Lib.hid hms
        replace hpl := Lib.hid hpl
        clear hbl hXn e2 e3 h64 h3 h0 hm3
        have hlt : w.heap.size < (w.alloc (.cells #[.int .i64 N, .slice A m c] 27)).heap.size := by simp
        go_enter Tryd.func17, Tryd.ntmps17
        go_wp2_with (first
          | (go_at_call 45; refine (hg.out _ (hE.alloc _)).mono ?_; rintro e w1 ⟨rfl, hb1⟩
             have bg1 := Blk.below (Blk.new w 27 #[.int .i64 N, .slice A m c]) hb1 hlt
             have g0 := Blk.cell bg1 0
             have g1 := Blk.cell bg1 1
             simp at g0 g1
             have hW1 : Below w.heap.size w w1 := hB1.trans (hb1.mono (by simp))
             have hE1 := hE.below hW1 (Nat.le_refl _)
             have hT1 := hT.below hW1 hT.lt
             have h2v := h2x.below hW1 (Nat.le_refl _)
             have h21 := h2.below hW1 (Nat.le_refl _))
          | (go_at_call 46; refine (hs.out _).mono ?_; rintro e wa ⟨rfl, hwa⟩; obtain rfl := hwa.symm)
          | (go_at_call 47; refine (hv.out _ h2v).mono ?_; rintro e wb ⟨rfl, hwb⟩; obtain rfl := hwb)
          | (go_at_call 49; refine (hmk.out _ hE1).mono ?_; rintro e w2 ⟨gr, rfl, hgr, hA2, hb2⟩
             have h22 := h21.below hb2 (Nat.le_refl _)
             have hT2 := hT1.below hb2 hT1.lt)
          | (go_at_call 50; refine (hms.out _ h22).mono ?_; rintro e wc ⟨rfl, hwc⟩; obtain rfl := hwc.symm)
          | (go_at_call 48; refine (hpl.out gr _ hT2 hA2).mono ?_; rintro e wd ⟨rfl, hwd⟩; obtain rfl := hwd.symm)
          | fail)
        go_ret
        exact ⟨rfl, hW1.trans (hb2.mono hW1.size)⟩
      · have hf := isB_no (es := es) (k := k) (fun h => h3 h.2.2.2)
        rw [hf]
        simp only [decide_eq_false h3] at hv
        replace hg := Lib.hid hg
        replace hs := Lib.hid hs
        replace hv := Lib.hid hv
        clear hf h3 h0 h1
        have hlt : w.heap.size < (w.alloc (.cells #[.int .i64 n, .slice A m c] 27)).heap.size := by simp
        go_enter Tryd.func17, Tryd.ntmps17
        go_wp2_with (first
          | (go_at_call 45; refine (hg.out _ (hE.alloc _)).mono ?_; rintro e w1 ⟨rfl, hb1⟩
             have bg1 := Blk.below (Blk.new w 27 #[.int .i64 n, .slice A m c]) hb1 hlt
             have g0 := Blk.cell bg1 0
             have g1 := Blk.cell bg1 1
             simp at g0 g1
             have hW1 : Below w.heap.size w w1 := hB1.trans (hb1.mono (by simp))
             have h21 := h2.below hW1 (Nat.le_refl _))
          | (go_at_call 46; refine (hs.out _).mono ?_; rintro e wa ⟨rfl, hwa⟩; obtain rfl := hwa.symm)
          | (go_at_call 47; refine (hv.out _ h21).mono ?_; rintro e wb ⟨rfl, hwb⟩; obtain rfl := hwb)
          | fail)
        go_ret
        exact ⟨rfl, hW1⟩
    · have hf := isB_no (n := n) (es := es) (xs := xs) (fun h => h1 ⟨h.2.1, h.2.2.1⟩)
      rw [hf]
      rw [decide_eq_false h1] at hs
      replace hg := Lib.hid hg
      replace hs := Lib.hid hs
      clear hf h1 h0 hv
      go_enter Tryd.func17, Tryd.ntmps17
      go_wp2_with (first
        | (go_at_call 45; refine (hg.out _ (hE.alloc _)).mono ?_; rintro e w1 ⟨rfl, hb1⟩; have hW1 : Below w.heap.size w w1 := hB1.trans (hb1.mono (by simp)))
        | (go_at_call 46; refine (hs.out _).mono ?_; rintro e wa ⟨rfl, hwa⟩; obtain rfl := hwa.symm)
        | fail)
      go_ret
      exact ⟨rfl, hW1⟩
  · have hf := isB_no (k := k) (xs := xs) (fun h => h0 h.1)
    rw [hf]
    have hq : (chkG n es == 0) = false := by simpa using h0
    generalize chkG n es = z at *
    replace hg := Lib.hid hg
    clear hf h0 hs hv
    go_enter Tryd.func17, Tryd.ntmps17
    go_wp2_with (first
      | (go_at_call 45; refine (hg.out _ (hE.alloc _)).mono ?_; rintro e w1 ⟨rfl, hb1⟩; have hW1 : Below w.heap.size w w1 := hB1.trans (hb1.mono (by simp)))
      | fail)
    go_ret
    exact ⟨rfl, hW1⟩
/-- What Maximal says. -/
def maxB (n : Int) (es : List (Int × Int)) (xs : List Int) (k : Int) : Bool := decide (xs ≠ []) && (isB n es xs k && clo (ad (rowsL n.toNat es)) n.toNat k.toNat (xs.map Int.toNat))
theorem isB_yes {n : Int} {es : List (Int × Int)} {xs : List Int} {k : Int} (h : isB n es xs k = true) : chkG n es = 0 ∧ 1 ≤ k ∧ k ≤ 3 ∧ Vld xs n := by
  unfold isB at h
  rw [Bool.and_eq_true, decide_eq_true_iff] at h
  exact h.1
set_option maxRecDepth 100000 in
set_option maxHeartbeats 2000000 in
theorem maximal_any (A : Option Addr) (m c : Nat) (n : Int) (es : List (Int × Int)) (A2 : Option Addr) (m2 c2 : Nat) (xs : List Int) (k : Int) (w : World) (hE : RE w A m es) (hm : m ≤ 1099511627776) (hT : Tab w) (h2 : RI w A2 m2 xs) (hm2 : m2 ≤ 1099511627776) :
    Calls Tryd.prog 19 #[.agg #[.int .i64 n, .slice A m c], .slice A2 m2 c2, .int .i64 k] w fun e w' => e = .returned (.bool (maxB n es xs k)) ∧ Below w.heap.size w w' := by
  have hi := fun w hE hT h2 => is_any A m c n es A2 m2 c2 xs k w hE hm hT h2 hm2
  have hB1 : Below w.heap.size w (w.alloc (.cells #[.int .i64 n, .slice A m c] 27)) := (Below.refl _ w).alloc (Nat.le_refl _) _
  have hlt : w.heap.size < (w.alloc (.cells #[.int .i64 n, .slice A m c] 27)).heap.size := by simp
  have hE0 := hE.alloc (.cells #[.int .i64 n, .slice A m c] 27)
  have hT0 : Tab (w.alloc (.cells #[.int .i64 n, .slice A m c] 27)) := hT.below hB1 hT.lt
  have h20 := h2.alloc (.cells #[.int .i64 n, .slice A m c] 27)
  by_cases h0 : 0 < m2
  · have q1 : decide (0 < m2) = true := decide_eq_true h0
    have hne : xs ≠ [] := fun h => by have := h2.len; rw [h] at this; simp at this; omega
    have hf : maxB n es xs k = (isB n es xs k && clo (ad (rowsL n.toNat es)) n.toNat k.toNat (xs.map Int.toNat)) := by unfold maxB; rw [decide_eq_true hne]; rfl
    rw [hf]
    clear hf
    cases hI : isB n es xs k with
    | false =>
      rw [hI] at hi
      rw [Bool.false_and]
      replace hi := Lib.hid hi
      clear hI hne
      go_enter Tryd.func19, Tryd.ntmps19
      go_wp2_with (first
        | (go_at_call 17; refine (hi.out _ hE0 hT0 h20).mono ?_; rintro e w1 ⟨rfl, hb1⟩; have hW1 : Below w.heap.size w w1 := hB1.trans (hb1.mono (by simp)))
        | fail)
      go_ret
      exact ⟨rfl, hW1⟩
    | true =>
      rw [hI] at hi
      rw [Bool.true_and]
      obtain ⟨z0, z1, z2, z3⟩ := isB_yes hI
      obtain ⟨N, rfl⟩ := Int.eq_ofNat_of_zero_le (chkG_zero z0).1
      obtain ⟨kk, rfl⟩ := Int.eq_ofNat_of_zero_le (show 0 ≤ k by omega)
      have hN : N ≤ 64 := by have := (chkG_zero z0).2.1; omega
      obtain ⟨e1, e2, e3⟩ := nt_toNat z3
      have hms := fun w (h : RI w A2 m2 xs) => mask_any A2 m2 c2 (xs.map Int.toNat) w (by rw [e1]; exact h) hm2 (fun x hx => Nat.lt_of_lt_of_le (e3 x hx) hN)
      have h64 : ∀ x ∈ xs.map Int.toNat, x < 64 := fun x hx => Nat.lt_of_lt_of_le (e3 x hx) hN
      have hmk := fun w h => pmasks_any A m c N es w h hm hN z0
      have hbl := bl_msk e2 h64
      have hXn : ∀ i, (mskN (xs.map Int.toNat)).testBit i = true → i < N := fun i hi => by rw [mskN_bit, decide_eq_true_iff] at hi; exact e3 i hi
      have hcl := fun gr w hT hA => closed_any gr N (rowsL N es) (rowsL_length N es) hN (rows_lt es hN) (mskN (xs.map Int.toNat)) kk (by omega) w (mskN_lt h64) hXn hT hA
      simp only [hbl] at hcl
      show Calls Tryd.prog 19 _ _ fun e w' => e = .returned (.bool (clo (ad (rowsL N es)) N kk (xs.map Int.toNat))) ∧ _
      generalize clo (ad (rowsL N es)) N kk (xs.map Int.toNat) = P at *
      generalize mskN (xs.map Int.toNat) = X at *
      replace hi := Lib.hid hi
      replace hmk := Lib.hid hmk
      replace hms := Lib.hid hms
      replace hcl := Lib.hid hcl
      clear hI hne hbl hXn e1 e2 e3 h64 z0 z3
      go_enter Tryd.func19, Tryd.ntmps19
      go_wp2_with (first
        | (go_at_call 17; refine (hi.out _ hE0 hT0 h20).mono ?_; rintro e w1 ⟨rfl, hb1⟩
           have bg1 := Blk.below (Blk.new w 27 #[.int .i64 N, .slice A m c]) hb1 hlt
           have g0 := Blk.cell bg1 0
           have g1 := Blk.cell bg1 1
           simp at g0 g1
           have hW1 : Below w.heap.size w w1 := hB1.trans (hb1.mono (by simp))
           have hE1 := hE.below hW1 (Nat.le_refl _)
           have hT1 := hT.below hW1 hT.lt
           have h21 := h2.below hW1 (Nat.le_refl _))
        | (go_at_call 49; refine (hmk.out _ hE1).mono ?_; rintro e w2 ⟨gr, rfl, hgr, hA2, hb2⟩
           have h22 := h21.below hb2 (Nat.le_refl _)
           have hT2 := hT1.below hb2 hT1.lt)
        | (go_at_call 50; refine (hms.out _ h22).mono ?_; rintro e wc ⟨rfl, hwc⟩; obtain rfl := hwc.symm)
        | (go_at_call 52; refine (hcl.out gr _ hT2 hA2).mono ?_; rintro e wd ⟨rfl, hwd⟩; obtain rfl := hwd.symm)
        | fail)
      go_ret
      exact ⟨rfl, hW1.trans (hb2.mono hW1.size)⟩
  · have q1 : decide (0 < m2) = false := decide_eq_false h0
    have hf : maxB n es xs k = false := by
      have : xs = [] := List.eq_nil_of_length_eq_zero (by have := h2.len; omega)
      unfold maxB; rw [this]; rfl
    rw [hf]
    clear hf hi
    go_enter Tryd.func19, Tryd.ntmps19
    go_wp2_with fail
    go_ret
    exact ⟨rfl, hB1⟩
end Go.Proofs.YtfefginhlliccaaDoor.Pl
