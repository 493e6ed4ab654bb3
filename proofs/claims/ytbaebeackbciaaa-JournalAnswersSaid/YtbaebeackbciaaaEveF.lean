/- Events: the event of ten bytes; Decode. -/
import Derived.Test.YtbaebeackbciaaaEveE
import Derived.Laws.BitsAllLaws
import Derived.Lib.AtoiErrMem
set_option linter.unusedVariables false
set_option linter.unusedSimpArgs false
namespace Go.Proofs.Ytbaebeackbciaaa
open Go.RowKit CoEv

theorem cellA' {w : World} {p : Addr} {v : Value} (h : w.cell? p = some v) (o : Obj) : (w.alloc o).cell? p = some v := by
  rw [World.cell?_alloc_lt w o p (Lib.lt_of_cell h)]; exact h
theorem i64_or_nat (a b : Nat) (ha : a < 9223372036854775808) (hb : b < 9223372036854775808) : bits .or .i64 (a : Int) (b : Int) = ((a ||| b : Nat) : Int) := by
  have hx : a ||| b < 2 ^ 63 := Nat.or_lt_two_pow (by omega) (by omega)
  show IntKind.i64.wrap ((BitVec.ofInt 64 (a : Int) ||| BitVec.ofInt 64 (b : Int)).toNat : Int) = _
  rw [BitVec.toNat_or, ofInt_u64 a (by omega), ofInt_u64 b (by omega)]
  simp [IntKind.wrap, IntKind.bits, IntKind.signed]
  omega
theorem or_16_8 (b c : Nat) (hb : b < 256) (hc : c < 256) : bits .or .i64 ((b : Int) * 65536) ((c : Int) * 256) = ((b * 65536 + c * 256 : Nat) : Int) := by
  rw [show ((b : Int) * 65536) = ((b * 65536 : Nat) : Int) by omega, show ((c : Int) * 256) = ((c * 256 : Nat) : Int) by omega, i64_or_nat _ _ (by omega) (by omega), nat_join16 _ _ (by omega) (by omega)]
theorem or_low8 (m d : Nat) (hm : m < 4294967296) (h : m % 256 = 0) (hd : d < 256) : bits .or .i64 (m : Int) (d : Int) = ((m + d : Nat) : Int) := by
  rw [i64_or_nat _ _ (by omega) (by omega), nat_join8 _ _ h hd]
theorem or_8 (c d : Nat) (hc : c < 256) (hd : d < 256) : bits .or .i64 ((c : Int) * 256) (d : Int) = ((c * 256 + d : Nat) : Int) := by
  rw [show ((c : Int) * 256) = ((c * 256 : Nat) : Int) by omega]; exact or_low8 _ _ (by omega) (by omega) hd
theorem cell10 {w : World} {A : Option Addr} {b0 b1 b2 b3 b4 b5 b6 b7 b8 b9 : Nat} (h : RS BE w A 10 [b0, b1, b2, b3, b4, b5, b6, b7, b8, b9]) :
    ∃ ad, A = some ad ∧ ad.block < w.heap.size ∧ w.cell? ad = some (.int .u8 b0) ∧ w.cell? ⟨ad.block, ad.off + 1, none⟩ = some (.int .u8 b1) ∧ w.cell? ⟨ad.block, ad.off + 2, none⟩ = some (.int .u8 b2) ∧ w.cell? ⟨ad.block, ad.off + 3, none⟩ = some (.int .u8 b3) ∧
      w.cell? ⟨ad.block, ad.off + 4, none⟩ = some (.int .u8 b4) ∧ w.cell? ⟨ad.block, ad.off + 5, none⟩ = some (.int .u8 b5) ∧ w.cell? ⟨ad.block, ad.off + 6, none⟩ = some (.int .u8 b6) ∧ w.cell? ⟨ad.block, ad.off + 7, none⟩ = some (.int .u8 b7) ∧
      w.cell? ⟨ad.block, ad.off + 8, none⟩ = some (.int .u8 b8) ∧ w.cell? ⟨ad.block, ad.off + 9, none⟩ = some (.int .u8 b9) := by
  obtain ⟨ad, e, hb, hc⟩ := h.2 (by omega)
  exact ⟨ad, e, hb, hc 0 _ rfl, hc 1 _ rfl, hc 2 _ rfl, hc 3 _ rfl, hc 4 _ rfl, hc 5 _ rfl, hc 6 _ rfl, hc 7 _ rfl, hc 8 _ rfl, hc 9 _ rfl⟩

set_option maxRecDepth 100000 in
set_option maxHeartbeats 4000000 in
theorem decoded_any (A : Option Addr) (c : Nat) (b0 b1 b2 b3 b4 b5 b6 b7 b8 b9 : Nat) (w : World) (h : RS BE w A 10 [b0, b1, b2, b3, b4, b5, b6, b7, b8, b9]) (hB : Byt [b0, b1, b2, b3, b4, b5, b6, b7, b8, b9]) :
    Calls Try.prog 49 #[.slice A 10 c] w fun e w' => e = .returned (.tuple #[evV (evOf b0 b1 b2 b3 b4 b5 b6 b7 b8 b9), .bool (formB b0 b9)]) ∧ Below w.heap.size w w' := by
  obtain ⟨ad, rfl, hbl, c0, c1, c2, c3, c4, c5, c6, c7, c8, c9⟩ := cell10 h
  have l0 := hB b0 (by simp)
  have l1 := hB b1 (by simp)
  have l2 := hB b2 (by simp)
  have l3 := hB b3 (by simp)
  have l4 := hB b4 (by simp)
  have l5 := hB b5 (by simp)
  have l6 := hB b6 (by simp)
  have l7 := hB b7 (by simp)
  have l8 := hB b8 (by simp)
  have l9 := hB b9 (by simp)
  have q0 : IntKind.i64.wrap (b0 : Int) = (b0 : Int) := by rw [IntKind.wrap_i64]; omega
  have q1 : IntKind.i64.wrap (b1 : Int) = (b1 : Int) := by rw [IntKind.wrap_i64]; omega
  have q2 : IntKind.i64.wrap (b2 : Int) = (b2 : Int) := by rw [IntKind.wrap_i64]; omega
  have q3 : IntKind.i64.wrap (b3 : Int) = (b3 : Int) := by rw [IntKind.wrap_i64]; omega
  have q4 : IntKind.i64.wrap (b4 : Int) = (b4 : Int) := by rw [IntKind.wrap_i64]; omega
  have q5 : IntKind.i64.wrap (b5 : Int) = (b5 : Int) := by rw [IntKind.wrap_i64]; omega
  have q6 : IntKind.i64.wrap (b6 : Int) = (b6 : Int) := by rw [IntKind.wrap_i64]; omega
  have q7 : IntKind.i64.wrap (b7 : Int) = (b7 : Int) := by rw [IntKind.wrap_i64]; omega
  have q8 : IntKind.i64.wrap (b8 : Int) = (b8 : Int) := by rw [IntKind.wrap_i64]; omega
  have q11 : IntKind.i64.wrap ((b1 : Int) * 65536) = (b1 : Int) * 65536 := by rw [IntKind.wrap_i64]; omega
  have q12 : IntKind.i64.wrap ((b2 : Int) * 256) = (b2 : Int) * 256 := by rw [IntKind.wrap_i64]; omega
  have q16 : IntKind.i64.wrap ((b6 : Int) * 256) = (b6 : Int) * 256 := by rw [IntKind.wrap_i64]; omega
  have e1 : bits .or .i64 ((b1 : Int) * 65536) ((b2 : Int) * 256) = (b1 : Int) * 65536 + (b2 : Int) * 256 := by rw [or_16_8 b1 b2 l1 l2]; omega
  have e2 : bits .or .i64 ((b1 : Int) * 65536 + (b2 : Int) * 256) (b3 : Int) = (b1 : Int) * 65536 + (b2 : Int) * 256 + (b3 : Int) := by
    have := or_low8 (b1 * 65536 + b2 * 256) b3 (by omega) (by omega) l3
    rw [show (((b1 * 65536 + b2 * 256 : Nat)) : Int) = (b1 : Int) * 65536 + (b2 : Int) * 256 by omega] at this
    rw [this]; omega
  have e3 : bits .or .i64 ((b6 : Int) * 256) (b7 : Int) = (b6 : Int) * 256 + (b7 : Int) := by rw [or_8 b6 b7 l6 l7]; omega
  clear hB h
  go_enter Try.func49, Try.ntmps49
  go_wp2_with fail
  have R1 : Blk (w.alloc (.cells #[.int .i64 0, .int .i64 0, .int .i64 0, .int .i64 0, .int .i64 0, .int .i64 0, .int .i64 0] 55)) w.heap.size 55 #[.int .i64 0, .int .i64 0, .int .i64 0, .int .i64 0, .int .i64 0, .int .i64 0, .int .i64 0] := Blk.new _ _ _
  have hb0 : Below w.heap.size w (w.alloc (.cells #[.int .i64 0, .int .i64 0, .int .i64 0, .int .i64 0, .int .i64 0, .int .i64 0, .int .i64 0] 55)) := (Below.refl _ _).alloc (Nat.le_refl _) _
  replace c0 := (hb0.cell hbl).trans c0
  replace c1 := (hb0.cell (p := ⟨ad.block, ad.off + 1, none⟩) hbl).trans c1
  replace c2 := (hb0.cell (p := ⟨ad.block, ad.off + 2, none⟩) hbl).trans c2
  replace c3 := (hb0.cell (p := ⟨ad.block, ad.off + 3, none⟩) hbl).trans c3
  replace c4 := (hb0.cell (p := ⟨ad.block, ad.off + 4, none⟩) hbl).trans c4
  replace c5 := (hb0.cell (p := ⟨ad.block, ad.off + 5, none⟩) hbl).trans c5
  replace c6 := (hb0.cell (p := ⟨ad.block, ad.off + 6, none⟩) hbl).trans c6
  replace c7 := (hb0.cell (p := ⟨ad.block, ad.off + 7, none⟩) hbl).trans c7
  replace c8 := (hb0.cell (p := ⟨ad.block, ad.off + 8, none⟩) hbl).trans c8
  replace c9 := (hb0.cell (p := ⟨ad.block, ad.off + 9, none⟩) hbl).trans c9
  generalize w.alloc (.cells #[.int .i64 0, .int .i64 0, .int .i64 0, .int .i64 0, .int .i64 0, .int .i64 0, .int .i64 0] 55) = w1 at *
  go_loud (go_region_held3 (fun w' => w'.cell? ad = some (.int .u8 b0) ∧ w'.cell? ⟨ad.block, ad.off + 1, none⟩ = some (.int .u8 b1) ∧ w'.cell? ⟨ad.block, ad.off + 2, none⟩ = some (.int .u8 b2) ∧ w'.cell? ⟨ad.block, ad.off + 3, none⟩ = some (.int .u8 b3) ∧ w'.cell? ⟨ad.block, ad.off + 4, none⟩ = some (.int .u8 b4) ∧ w'.cell? ⟨ad.block, ad.off + 5, none⟩ = some (.int .u8 b5) ∧ w'.cell? ⟨ad.block, ad.off + 6, none⟩ = some (.int .u8 b6) ∧ w'.cell? ⟨ad.block, ad.off + 7, none⟩ = some (.int .u8 b7) ∧ w'.cell? ⟨ad.block, ad.off + 8, none⟩ = some (.int .u8 b8))
    ((first | exact ⟨c0, c1, c2, c3, c4, c5, c6, c7, c8⟩ | exact ⟨cellA' c0 _, cellA' c1 _, cellA' c2 _, cellA' c3 _, cellA' c4 _, cellA' c5 _, cellA' c6 _, cellA' c7 _, cellA' c8 _⟩))
    (fail))
  have E1 : Blk (w1.alloc (.cells #[.int .i64 b0, .int .i64 ((b1 : Int) * 65536 + (b2 : Int) * 256 + (b3 : Int)), .int .i64 b4, .int .i64 b5, .int .i64 ((b6 : Int) * 256 + (b7 : Int)), .int .i64 b8, .int .i64 0] 55)).drew w1.heap.size 55 #[.int .i64 b0, .int .i64 ((b1 : Int) * 65536 + (b2 : Int) * 256 + (b3 : Int)), .int .i64 b4, .int .i64 b5, .int .i64 ((b6 : Int) * 256 + (b7 : Int)), .int .i64 b8, .int .i64 0] := Blk.new _ _ _
  have hb1 : Below w1.heap.size w1 (w1.alloc (.cells #[.int .i64 b0, .int .i64 ((b1 : Int) * 65536 + (b2 : Int) * 256 + (b3 : Int)), .int .i64 b4, .int .i64 b5, .int .i64 ((b6 : Int) * 256 + (b7 : Int)), .int .i64 b8, .int .i64 0] 55)).drew := ((Below.refl _ _).alloc (Nat.le_refl _) _).drew
  have hbl0 := hbl
  replace hbl : ad.block < w1.heap.size := Nat.lt_of_lt_of_le hbl hb0.size
  replace c9 := (hb1.cell (p := ⟨ad.block, ad.off + 9, none⟩) hbl).trans c9
  have R2 := R1.below hb1 R1.lt
  have hlt := R1.lt
  have hb2 := hb0.trans (hb1.mono hb0.size)
  have hs1 := hb0.size
  clear c0 c1 c2 c3 c4 c5 c6 c7 c8 R1 hb0 hb1 q1 q2 q3 q4 q5 q6 q7 q8 q11 q12 q16 e1 e2 e3
  generalize (w1.alloc (.cells #[.int .i64 b0, .int .i64 ((b1 : Int) * 65536 + (b2 : Int) * 256 + (b3 : Int)), .int .i64 b4, .int .i64 b5, .int .i64 ((b6 : Int) * 256 + (b7 : Int)), .int .i64 b8, .int .i64 0] 55)).drew = w2 at *
  generalize w1.heap.size = g at *
  have q9 : IntKind.i64.wrap (b9 : Int) = (b9 : Int) := by rw [IntKind.wrap_i64]; omega
  have d0 := E1.cell 0
  have d6 := E1.cell 6
  have f6 := E1.frozen 6
  simp at d0 d6
  go_upto_if 50 with fail
  go_cut [2, 3, 4] (fun p2 p3 p4 wx => p2 = .pointer (some ⟨w.heap.size, 0, none⟩) ∧ p4 = .pointer (some ⟨g, 0, none⟩) ∧ Blk wx g 55 (evC (evOf b0 b1 b2 b3 b4 b5 b6 b7 b8 b9)) ∧ Blk wx w.heap.size 55 #[.int .i64 0, .int .i64 0, .int .i64 0, .int .i64 0, .int .i64 0, .int .i64 0, .int .i64 0] ∧ wx.cell? ⟨ad.block, ad.off + 9, none⟩ = some (.int .u8 b9) ∧ Below w.heap.size w wx)
  case first =>
    by_cases h1 : b0 = 1
    · have h1b : ((b0 : Int) == 1) = true := by simp; omega
      replace h1 := Lib.hid h1
      go_wp2_with fail
      go_meet
      have E2 := E1.set 6 (.int .i64 (1 - 2 * (b9 : Int)))
      simp at E2
      refine ⟨rfl, rfl, ?_, R2.far (by simp; omega) _, (World.cell?_setCell_other _ _ _ _ (by intro e; injection e; omega)).trans c9, hb2.setCell (by simp; omega) _⟩
      unfold evC evOf
      rw [if_pos h1.out]
      exact E2
    · have h1b : ((b0 : Int) == 1) = false := by simp; omega
      replace h1 := Lib.hid h1
      go_wp2_with fail
      go_meet
      refine ⟨rfl, rfl, ?_, R2, c9, hb2⟩
      unfold evC evOf
      rw [if_neg h1.out]
      exact E1
  case rest =>
    obtain ⟨rfl, rfl, E2, R3, d9, hb3⟩ := hcut
    clear E1 R2 c9 hb2 d0 d6 f6
    have hf : Hid (formB b0 b9 = decide (b9 = 0 ∨ b9 = 1 ∧ b0 = 1)) := Lib.hid rfl
    have hk : (evOf b0 b1 b2 b3 b4 b5 b6 b7 b8 b9).k = (b0 : Int) := rfl
    have hway : ((b9 : Int) == 0) = true ∧ formB b0 b9 = true ∨ ((b9 : Int) == 0) = false ∧ ((b9 : Int) == 1) = true ∧ ((b0 : Int) == 1) = true ∧ formB b0 b9 = true ∨ ((b9 : Int) == 0) = false ∧ ((b9 : Int) == 1) = true ∧ ((b0 : Int) == 1) = false ∧ formB b0 b9 = false ∨ ((b9 : Int) == 0) = false ∧ ((b9 : Int) == 1) = false ∧ formB b0 b9 = false := by
      unfold formB
      simp only [beq_iff_eq, beq_eq_false_iff_ne, decide_eq_true_eq, decide_eq_false_iff_not]
      omega
    generalize hev : evOf b0 b1 b2 b3 b4 b5 b6 b7 b8 b9 = ev at *
    generalize hFb : formB b0 b9 = F at *
    obtain ⟨k, t, u, v, ww, l, s⟩ := ev
    replace hev := Lib.hid hev
    replace hFb := Lib.hid hFb
    clear hf
    simp only at hk
    rw [← hk] at hway
    replace hk := Lib.hid hk
    have o0 := E2.cell 0
    have o1 := E2.cell 1
    have o2 := E2.cell 2
    have o3 := E2.cell 3
    have o4 := E2.cell 4
    have o5 := E2.cell 5
    have o6 := E2.cell 6
    have z0 := R3.frozen 0
    have z1 := R3.frozen 1
    have z2 := R3.frozen 2
    have z3 := R3.frozen 3
    have z4 := R3.frozen 4
    have z5 := R3.frozen 5
    have z6 := R3.frozen 6
    have r0 := R3.cell 0
    have r1 := R3.cell 1
    have r2 := R3.cell 2
    have r3 := R3.cell 3
    have r4 := R3.cell 4
    have r5 := R3.cell 5
    have r6 := R3.cell 6
    simp [evC] at o0 o1 o2 o3 o4 o5 o6 r0 r1 r2 r3 r4 r5 r6
    have n1 : ¬ w.heap.size = g := by omega
    have n2 : ¬ g = w.heap.size := by omega
    have n3 : ¬ ad.block = w.heap.size := by omega
    have n4 : ¬ w.heap.size = ad.block := by omega
    rcases hway with ⟨h1, hF⟩ | ⟨h1, h2, h3, hF⟩ | ⟨h1, h2, h3, hF⟩ | ⟨h1, h2, hF⟩
    all_goals
      go_wp2_with fail
      go_region
      have RR := ((((((R3.set 0 (.int .i64 k)).set 1 (.int .i64 t)).set 2 (.int .i64 u)).set 3 (.int .i64 v)).set 4 (.int .i64 ww)).set 5 (.int .i64 l)).set 6 (.int .i64 s)
      simp at RR
      have hbz := (((((((hb3.setCell (p := ⟨w.heap.size, 0, none⟩) (Nat.le_refl _) (.int .i64 k)).setCell (p := ⟨w.heap.size, 1, none⟩) (Nat.le_refl _) (.int .i64 t)).setCell (p := ⟨w.heap.size, 2, none⟩) (Nat.le_refl _) (.int .i64 u)).setCell (p := ⟨w.heap.size, 3, none⟩) (Nat.le_refl _) (.int .i64 v)).setCell (p := ⟨w.heap.size, 4, none⟩) (Nat.le_refl _) (.int .i64 ww)).setCell (p := ⟨w.heap.size, 5, none⟩) (Nat.le_refl _) (.int .i64 l)).setCell (p := ⟨w.heap.size, 6, none⟩) (Nat.le_refl _) (.int .i64 s)).drew
      have y0 := RR.drew.cell 0
      have y1 := RR.drew.cell 1
      have y2 := RR.drew.cell 2
      have y3 := RR.drew.cell 3
      have y4 := RR.drew.cell 4
      have y5 := RR.drew.cell 5
      have y6 := RR.drew.cell 6
      simp at y0 y1 y2 y3 y4 y5 y6
      clear o0 o1 o2 o3 o4 o5 o6 r0 r1 r2 r3 r4 r5 r6 z0 z1 z2 z3 z4 z5 z6 RR R3 E2 d9 hb3
      go_wp2_with fail
      refine bodyPost_ret (v := .tuple #[.agg #[.int .i64 k, .int .i64 t, .int .i64 u, .int .i64 v, .int .i64 ww, .int .i64 l, .int .i64 s], .bool F]) (by simp [results, Try.results49, go_sem, y0, y1, y2, y3, y4, y5, y6, hF]) rfl ?_
      exact ⟨by rw [hev.out, hFb.out]; rfl, hbz⟩
end Go.Proofs.Ytbaebeackbciaaa
