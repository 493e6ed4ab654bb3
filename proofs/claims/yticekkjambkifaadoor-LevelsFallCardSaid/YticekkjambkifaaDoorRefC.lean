/- The reference's two-word numbers: double, less, sub, add, size and divide. -/
import Derived.Test.YticekkjambkifaaDoorRatC
set_option linter.unusedVariables false
namespace Go.Proofs.YticekkjambkifaaDoor.Rt
open Go.RowKit CoRat

theorem retW {a b c d : Int} (h : a = c) (h' : b = d) : Ending.returned (.agg #[.int .u64 a, .int .u64 b]) = .returned (.agg #[.int .u64 c, .int .u64 d]) := by rw [h, h']

set_option maxHeartbeats 400000 in
theorem rdouble_any (h l : Int) (u : Nat) (w : World) (x : W h l u) (hu : u * 2 < B) :
    Calls Tryd.prog 129 #[.agg #[.int .u64 h, .int .u64 l]] w fun e w' => e = .returned (.agg #[.int .u64 (hi (u * 2)), .int .u64 (lo (u * 2))]) ∧ Below w.heap.size w w' := by
  obtain ⟨h0, h1, l0, l1⟩ := x.bd (by omega)
  go_enter Tryd.func129, Tryd.ntmps129
  go_wp2
  go_returns
  exact ⟨retW (twice_W x hu).1 (twice_W x hu).2, by go_grown⟩

set_option maxHeartbeats 400000 in
theorem rless_any (h l h' l' : Int) (u v : Nat) (w : World) (x : W h l u) (hu : u < B) (y : W h' l' v) (hv : v < B) :
    Calls Tryd.prog 67 #[.agg #[.int .u64 h, .int .u64 l], .agg #[.int .u64 h', .int .u64 l']] w fun e w' => e = .returned (.bool (decide (u < v))) ∧ Below w.heap.size w w' := by
  obtain ⟨h0, h1, l0, l1⟩ := x.bd hu
  have hb := Lib.hid (below_W x y hu hv)
  go_enter Tryd.func67, Tryd.ntmps67
  go_wp2
  all_goals go_returns
  all_goals refine ⟨retBool ?_, by go_grown⟩
  all_goals have hb := hb.out
  all_goals (rw [Bool.eq_iff_iff]; simp; omega)

set_option maxHeartbeats 400000 in
theorem rsub_any (h l h' l' : Int) (u v : Nat) (w : World) (x : W h l u) (hu : u < B) (y : W h' l' v) (hv : v ≤ u) :
    Calls Tryd.prog 130 #[.agg #[.int .u64 h, .int .u64 l], .agg #[.int .u64 h', .int .u64 l']] w fun e w' => e = .returned (.agg #[.int .u64 (hi (u - v)), .int .u64 (lo (u - v))]) ∧ Below w.heap.size w w' := by
  obtain ⟨h0, h1, l0, l1⟩ := x.bd hu
  obtain ⟨a0, a1, b0, b1⟩ := y.bd (by omega)
  have e := Lib.hid x.val
  have f := Lib.hid y.val
  go_enter Tryd.func130, Tryd.ntmps130
  go_wp2
  all_goals go_returns
  all_goals have e := e.out
  all_goals have f := f.out
  · exact ⟨retW (hi_of (l := (l - l') % 18446744073709551616) (by simp only [IntKind.wrap_u64]; omega) (by simp only [IntKind.wrap_u64]; omega) (by omega) (by omega)) (by simp only [IntKind.wrap_u64]; exact lo_of (h := h - h' - 1) (by omega) (by omega) (by omega) (by omega)), by go_grown⟩
  · exact ⟨retW (hi_of (l := l - l') (by simp only [IntKind.wrap_u64]; omega) (by simp only [IntKind.wrap_u64]; omega) (by omega) (by omega)) (lo_of (h := h - h') (by omega) (by omega) (by omega) (by omega)), by go_grown⟩

set_option maxHeartbeats 400000 in
theorem rsize_any (n : Int) (w : World) (h0 : -9223372036854775808 ≤ n) (h1 : n ≤ 9223372036854775807) :
    Calls Tryd.prog 66 #[.int .i64 n] w fun e w' => e = .returned (.int .u64 (n.natAbs : Int)) ∧ w = w' := by
  go_enter Tryd.func66, Tryd.ntmps66
  go_wp2
  all_goals go_returns
  all_goals refine ⟨retInt ?_, rfl⟩
  · simp only [IntKind.wrap_u64]; omega
  · first | omega | (simp only [IntKind.wrap_u64]; omega)

def C2 (w : World) (g : Nat) (u : Nat) : Prop := Blk w g 100 #[.int .u64 (hi u), .int .u64 (lo u)]
theorem C2.cells {w : World} {g u : Nat} (h : C2 w g u) : w.cell? ⟨g, 0, none⟩ = some (.int .u64 (hi u)) ∧ w.cell? ⟨g, 1, none⟩ = some (.int .u64 (lo u)) ∧ w.frozen? ⟨g, 0, none⟩ = false ∧ w.frozen? ⟨g, 1, none⟩ = false :=
  ⟨Blk.cell h 0, Blk.cell h 1, Blk.frozen h 0, Blk.frozen h 1⟩
theorem C2.put {w : World} {g u : Nat} (h : C2 w g u) (v : Nat) : C2 ((w.setCell ⟨g, 0, none⟩ (.int .u64 (hi v))).setCell ⟨g, 1, none⟩ (.int .u64 (lo v))) g v := (Blk.set h 0 _).set 1 _
theorem C2.far {w : World} {g g' u : Nat} (h : C2 w g u) (hne : g ≠ g') (a b : Value) : C2 ((w.setCell ⟨g', 0, none⟩ a).setCell ⟨g', 1, none⟩ b) g u :=
  (Blk.far h (p := ⟨g', 0, none⟩) hne _).far (p := ⟨g', 1, none⟩) hne _
theorem C2.low {w : World} {g u u' : Nat} (h : C2 w g u) (e : hi u = hi u') : C2 (w.setCell ⟨g, 1, none⟩ (.int .u64 (lo u'))) g u' := by
  have := Blk.set h 1 (.int .u64 (lo u'))
  unfold C2
  rw [← e]
  exact this
theorem C2.far1 {w : World} {g g' u : Nat} (h : C2 w g u) (hne : g ≠ g') (i : Nat) (a : Value) : C2 (w.setCell ⟨g', i, none⟩ a) g u := Blk.far h (p := ⟨g', i, none⟩) hne _
theorem two_below {n : Nat} {w w' : World} (h : Below n w w') {g : Nat} (hg : n ≤ g) (a b : Value) : Below n w ((w'.setCell ⟨g, 0, none⟩ a).setCell ⟨g, 1, none⟩ b) :=
  (h.setCell (p := ⟨g, 0, none⟩) hg _).setCell (p := ⟨g, 1, none⟩) hg _
/-- What the loop of divide holds: the two numbers, the results' places, the quotient and the rest. -/
def Six (w wr : World) (u v o r : Nat) : Prop := C2 wr w.heap.size u ∧ C2 wr (w.heap.size + 1) v ∧ C2 wr (w.heap.size + 1 + 1) 0 ∧ C2 wr (w.heap.size + 1 + 1 + 1) 0 ∧ C2 wr (w.heap.size + 1 + 1 + 1 + 1) o ∧ C2 wr (w.heap.size + 1 + 1 + 1 + 1 + 1) r ∧ Below w.heap.size w wr
section
variable {w wr wr' : World} {u v o r : Nat}
theorem Six.size (h : Six w wr u v o r) : w.heap.size + 6 ≤ wr.heap.size := by have := Blk.lt h.2.2.2.2.2.1; omega
theorem Six.step (h : Six w wr u v o r) {k : Nat} (hb : Below k wr wr') (hn : w.heap.size + 6 ≤ k) : Six w wr' u v o r :=
  ⟨Blk.below h.1 hb (by omega), Blk.below h.2.1 hb (by omega), Blk.below h.2.2.1 hb (by omega), Blk.below h.2.2.2.1 hb (by omega), Blk.below h.2.2.2.2.1 hb (by omega), Blk.below h.2.2.2.2.2.1 hb (by omega), h.2.2.2.2.2.2.trans (hb.mono (by omega))⟩
theorem Six.putr (h : Six w wr u v o r) (r' : Nat) : Six w ((wr.setCell ⟨w.heap.size + 1 + 1 + 1 + 1 + 1, 0, none⟩ (.int .u64 (hi r'))).setCell ⟨w.heap.size + 1 + 1 + 1 + 1 + 1, 1, none⟩ (.int .u64 (lo r'))) u v o r' :=
  ⟨C2.far h.1 (by omega) _ _, C2.far h.2.1 (by omega) _ _, C2.far h.2.2.1 (by omega) _ _, C2.far h.2.2.2.1 (by omega) _ _, C2.far h.2.2.2.2.1 (by omega) _ _, C2.put h.2.2.2.2.2.1 _, two_below h.2.2.2.2.2.2 (by omega) _ _⟩
theorem Six.puto (h : Six w wr u v o r) (o' : Nat) : Six w ((wr.setCell ⟨w.heap.size + 1 + 1 + 1 + 1, 0, none⟩ (.int .u64 (hi o'))).setCell ⟨w.heap.size + 1 + 1 + 1 + 1, 1, none⟩ (.int .u64 (lo o'))) u v o' r :=
  ⟨C2.far h.1 (by omega) _ _, C2.far h.2.1 (by omega) _ _, C2.far h.2.2.1 (by omega) _ _, C2.far h.2.2.2.1 (by omega) _ _, C2.put h.2.2.2.2.1 _, C2.far h.2.2.2.2.2.1 (by omega) _ _, two_below h.2.2.2.2.2.2 (by omega) _ _⟩
theorem Six.lowr (h : Six w wr u v o r) (r' : Nat) (e : hi r = hi r') : Six w (wr.setCell ⟨w.heap.size + 1 + 1 + 1 + 1 + 1, 1, none⟩ (.int .u64 (lo r'))) u v o r' :=
  ⟨C2.far1 h.1 (by omega) _ _, C2.far1 h.2.1 (by omega) _ _, C2.far1 h.2.2.1 (by omega) _ _, C2.far1 h.2.2.2.1 (by omega) _ _, C2.far1 h.2.2.2.2.1 (by omega) _ _, C2.low h.2.2.2.2.2.1 e, h.2.2.2.2.2.2.setCell (p := ⟨w.heap.size + 1 + 1 + 1 + 1 + 1, 1, none⟩) (by simp; omega) _⟩
theorem Six.lowo (h : Six w wr u v o r) (o' : Nat) (e : hi o = hi o') : Six w (wr.setCell ⟨w.heap.size + 1 + 1 + 1 + 1, 1, none⟩ (.int .u64 (lo o'))) u v o' r :=
  ⟨C2.far1 h.1 (by omega) _ _, C2.far1 h.2.1 (by omega) _ _, C2.far1 h.2.2.1 (by omega) _ _, C2.far1 h.2.2.2.1 (by omega) _ _, C2.low h.2.2.2.2.1 e, C2.far1 h.2.2.2.2.2.1 (by omega) _ _, h.2.2.2.2.2.2.setCell (p := ⟨w.heap.size + 1 + 1 + 1 + 1, 1, none⟩) (by simp; omega) _⟩
end
end Go.Proofs.YticekkjambkifaaDoor.Rt

namespace Go.Proofs.YticekkjambkifaaDoor.Rt
open Go.RowKit CoRat

set_option maxHeartbeats 3000000 in
theorem rdivide_any (h l h' l' : Int) (u v : Nat) (w : World) (x : W h l u) (hu : u < B) (y : W h' l' v) (hv : v * 2 < B) (v0 : 0 < v) :
    Calls Tryd.prog 109 #[.agg #[.int .u64 h, .int .u64 l], .agg #[.int .u64 h', .int .u64 l']] w fun e w' => e = .returned (.tuple #[.agg #[.int .u64 (hi (u / v)), .int .u64 (lo (u / v))], .agg #[.int .u64 (hi (u % v)), .int .u64 (lo (u % v))]]) ∧ Below w.heap.size w w' := by
  obtain ⟨h0, h1, l0, l1⟩ := x.bd hu
  obtain ⟨a0, a1, b0, b1⟩ := y.bd (by omega)
  go_enter Tryd.func109, Tryd.ntmps109
  go_wp2_with fail
  obtain ⟨w1, hw1⟩ : ∃ w1, w1 = ((((((w.alloc (.cells #[.int .u64 h, .int .u64 l] 100)).alloc (.cells #[.int .u64 h', .int .u64 l'] 100)).alloc (.cells #[.int .u64 0, .int .u64 0] 100)).alloc (.cells #[.int .u64 0, .int .u64 0] 100)).alloc (.cells #[.int .u64 0, .int .u64 0] 100)).alloc (.cells #[.int .u64 0, .int .u64 0] 100)) := ⟨_, rfl⟩
  have T : Six w w1 u v 0 0 := by
    obtain ⟨rfl, rfl⟩ := x
    obtain ⟨rfl, rfl⟩ := y
    subst hw1
    exact ⟨(((((Blk.new w _ _).alloc _).alloc _).alloc _).alloc _).alloc _, ((((Blk.new' (w.alloc _) _ _ (by simp)).alloc _).alloc _).alloc _).alloc _,
      (((Blk.new' ((w.alloc _).alloc _) _ _ (by simp)).alloc _).alloc _).alloc _, ((Blk.new' (((w.alloc _).alloc _).alloc _) _ _ (by simp)).alloc _).alloc _, (Blk.new' ((((w.alloc _).alloc _).alloc _).alloc _) _ _ (by simp)).alloc _, (Blk.new' (((((w.alloc _).alloc _).alloc _).alloc _).alloc _) _ _ (by simp)), by go_grown⟩
  rw [← hw1]
  clear hw1
  go_loopg [8] 128 (fun g t wr => ∃ j : Int, -1 ≤ j ∧ j ≤ 127 ∧ (j + 1).toNat ≤ g ∧ t = .int .i64 j ∧ Six w wr u v (u / 2 ^ (j + 1).toNat / v) (u / 2 ^ (j + 1).toNat % v))
  case atStart => exact ⟨127, by omega, by omega, by omega, rfl, by rw [show ((127 : Int) + 1).toNat = 128 from rfl, Nat.div_eq_of_lt (show u < 2 ^ 128 from hu), Nat.zero_mod, Nat.zero_div]; exact T⟩
  case round =>
    obtain ⟨i, hi0, hi1, hig, rfl, T'⟩ := hrel
    clear T
    by_cases hn : i = -1
    · subst hn
      simp at T'
      obtain ⟨k0, k1, k2, k3⟩ := C2.cells T'.2.2.2.2.1
      obtain ⟨m0, m1, m2, m3⟩ := C2.cells T'.2.2.2.2.2.1
      obtain ⟨n0, n1, n2, n3⟩ := C2.cells T'.2.2.1
      obtain ⟨o0, o1, o2, o3⟩ := C2.cells T'.2.2.2.1
      go_wp2_with fail
      go_region
      all_goals go_wp2_with fail
      all_goals refine bodyPost_ret (v := .tuple #[.agg #[.int .u64 (CoRat.hi (u / v)), .int .u64 (CoRat.lo (u / v))], .agg #[.int .u64 (CoRat.hi (u % v)), .int .u64 (CoRat.lo (u % v))]]) (by simp [results, Tryd.results109, go_sem, n0, n1, o0, o1]) rfl ?_
      all_goals exact ⟨rfl, two_below (two_below T'.2.2.2.2.2.2.drew (by omega) _ _) (by omega) _ _⟩
    · obtain ⟨j, rfl⟩ := Int.eq_ofNat_of_zero_le (show 0 ≤ i by omega)
      clear hn
      rw [show ((j : Int) + 1).toNat = j + 1 by omega] at T'
      have hr : u / 2 ^ (j + 1) % v < v := Nat.mod_lt _ v0
      have ho : u / 2 ^ (j + 1) / v * 2 < B := by
        have h1 : u / 2 ^ (j + 1) / v ≤ u / 2 ^ (j + 1) := Nat.div_le_self _ _
        have h2 := pow_step u j
        have h3 : u / 2 ^ j ≤ u := Nat.div_le_self _ _
        omega
      obtain ⟨m0, m1, m2, m3⟩ := C2.cells T'.2.2.2.2.2.1
      generalize hr' : u / 2 ^ (j + 1) % v = r at *
      generalize ho' : u / 2 ^ (j + 1) / v = o at *
      replace hr' := Lib.hid hr'
      replace ho' := Lib.hid ho'
      go_wp2_with fail
      refine (rdouble_any _ _ r _ (W.mk r) (by omega)).mono ?_; rintro e w2 ⟨rfl, hb2⟩
      have T2 := T'.step hb2 T'.size
      clear T' hb2 m0 m1 m2 m3
      obtain ⟨m0, m1, m2, m3⟩ := C2.cells T2.2.2.2.2.2.1
      obtain ⟨e0, e1, e2, e3⟩ := C2.cells T2.1
      go_upto_region 6 with fail
      obtain ⟨b, hb⟩ : ∃ b, u / 2 ^ j % 2 = b := ⟨_, rfl⟩
      have hb2 : b < 2 := by omega
      have hpow := Lib.hid (pow_step u j)
      replace hb := Lib.hid hb
      go_cut [39] (fun t wx => t = .bool (decide (b = 1)) ∧ Six w wx u v o (r * 2))
      case first =>
        by_cases hj : 63 < j
        · have hbit : bits .and .u64 (hi u / 2 ^ (j - 64)) 1 = (b : Int) := by rw [bit_hi u j hu hj (by omega), hb.out]
          go_wp2_with fail
          all_goals go_meet
          all_goals refine ⟨congrArg Value.bool ?_, T2.putr _⟩
          all_goals (rw [Bool.eq_iff_iff]; simp; omega)
        · have hbit : bits .and .u64 (lo u / 2 ^ j) 1 = (b : Int) := by rw [bit_lo u j (by omega), hb.out]
          go_wp2_with fail
          all_goals go_meet
          all_goals refine ⟨congrArg Value.bool ?_, T2.putr _⟩
          all_goals (rw [Bool.eq_iff_iff]; simp; try omega)
      case rest =>
        clear e0 e1 e2 e3 m0 m1 m2 m3 T2
        obtain ⟨ht, T3⟩ := hcut
        have oro : bits .or .u64 (lo (o * 2)) 1 = lo (o * 2 + 1) := or_bit o 1 (by omega)
        have orr : bits .or .u64 (lo (r * 2)) 1 = lo (r * 2 + 1) := or_bit r 1 (by omega)
        have hio := Lib.hid (hi_bit o 1 (by omega))
        have hir := Lib.hid (hi_bit r 1 (by omega))
        go_upto_region 8 with fail
        go_cut [] (fun wx => Six w wx u v o (r * 2 + b))
        case first =>
          obtain ⟨m0, m1, m2, m3⟩ := C2.cells T3.2.2.2.2.2.1
          rcases (show b = 0 ∨ b = 1 by omega) with rfl | rfl
          · obtain rfl := ht
            go_wp2_with fail
            go_meet
            exact T3
          · obtain rfl := ht
            go_wp2_with fail
            go_meet
            exact T3.lowr _ hir.out
        case rest =>
          clear T3 ht orr hir
          obtain ⟨k0, k1, k2, k3⟩ := C2.cells hcut.2.2.2.2.1
          have hrB : r * 2 + b < B := by omega
          go_wp2_with fail
          refine (rdouble_any _ _ o _ (W.mk o) ho).mono ?_; rintro e w3 ⟨rfl, hb3⟩
          have T4 := hcut.step hb3 hcut.size
          clear hcut hb3 k0 k1 k2 k3
          obtain ⟨k0, k1, k2, k3⟩ := C2.cells T4.2.2.2.2.1
          obtain ⟨m0, m1, m2, m3⟩ := C2.cells T4.2.2.2.2.2.1
          obtain ⟨f0, f1, f2, f3⟩ := C2.cells T4.2.1
          by_cases hlt : r * 2 + b < v
          · have hd : decide (r * 2 + b < v) = true := by simpa using hlt
            go_wp2_with fail
            refine (rless_any _ _ _ _ (r * 2 + b) v _ (W.mk _) hrB (W.mk v) (by omega)).mono ?_; rintro e w4 ⟨rfl, hb4⟩
            have T5 := (T4.puto (o * 2)).step hb4 (by simpa using T4.size)
            clear T4 hb4 k0 k1 k2 k3 m0 m1 m2 m3 f0 f1 f2 f3
            go_wp2_with fail
            go_roundg j
            all_goals first | (omega; done) | skip
            refine ⟨(j : Int) - 1, by omega, by omega, by omega, rfl, ?_⟩
            rw [show ((j : Int) - 1 + 1).toNat = j by omega, hpow.out, hb.out, (div_step v0 ho'.out hr'.out hlt).1, (div_step v0 ho'.out hr'.out hlt).2]
            exact T5
          · have hd : decide (r * 2 + b < v) = false := by simpa using hlt
            go_wp2_with fail
            refine (rless_any _ _ _ _ (r * 2 + b) v _ (W.mk _) hrB (W.mk v) (by omega)).mono ?_; rintro e w4 ⟨rfl, hb4⟩
            have T5 := (T4.puto (o * 2)).step hb4 (by simpa using T4.size)
            clear T4 hb4 k0 k1 k2 k3 m0 m1 m2 m3 f0 f1 f2 f3
            obtain ⟨k0, k1, k2, k3⟩ := C2.cells T5.2.2.2.2.1
            obtain ⟨m0, m1, m2, m3⟩ := C2.cells T5.2.2.2.2.2.1
            obtain ⟨f0, f1, f2, f3⟩ := C2.cells T5.2.1
            go_wp2_with fail
            refine (rsub_any _ _ _ _ (r * 2 + b) v _ (W.mk _) hrB (W.mk v) (by omega)).mono ?_; rintro e w5 ⟨rfl, hb5⟩
            have T6 := T5.step hb5 T5.size
            clear T5 hb5 k0 k1 k2 k3 m0 m1 m2 m3 f0 f1 f2 f3
            obtain ⟨k0, k1, k2, k3⟩ := C2.cells T6.2.2.2.2.1
            obtain ⟨m0, m1, m2, m3⟩ := C2.cells T6.2.2.2.2.2.1
            go_wp2_with fail
            go_roundg j
            all_goals first | (omega; done) | skip
            refine ⟨(j : Int) - 1, by omega, by omega, by omega, rfl, ?_⟩
            rw [show ((j : Int) - 1 + 1).toNat = j by omega, hpow.out, hb.out, (div_step' v0 ho'.out hr'.out hb2 hlt).1, (div_step' v0 ho'.out hr'.out hb2 hlt).2]
            exact (T6.putr _).lowo _ hio.out
end Go.Proofs.YticekkjambkifaaDoor.Rt

namespace Go.Proofs.YticekkjambkifaaDoor.Rt
open Go.RowKit CoRat

set_option maxHeartbeats 1000000 in
theorem rgcd_any (h l h' l' : Int) (u v : Nat) (w : World) (x : W h l u) (hu : u < B) (y : W h' l' v) (hv : v * 2 < B) :
    Calls Tryd.prog 85 #[.agg #[.int .u64 h, .int .u64 l], .agg #[.int .u64 h', .int .u64 l']] w fun e w' => e = .returned (.agg #[.int .u64 (hi (Nat.gcd u v)), .int .u64 (lo (Nat.gcd u v))]) ∧ Below w.heap.size w w' := by
  obtain ⟨rfl, rfl⟩ := x
  obtain ⟨rfl, rfl⟩ := y
  go_enter Tryd.func85, Tryd.ntmps85
  go_wp2_with fail
  go_loopg [] v (fun g wr => ∃ u' v' : Nat, C2 wr w.heap.size u' ∧ C2 wr (w.heap.size + 1) v' ∧ C2 wr (w.heap.size + 1 + 1) 0 ∧ Below w.heap.size w wr ∧ u' < B ∧ v' * 2 < B ∧ v' ≤ g ∧ Nat.gcd u v = Nat.gcd u' v')
  case atStart => exact ⟨u, v, ((Blk.new w _ _).alloc _).alloc _, (Blk.new' (w.alloc _) _ _ (by simp)).alloc _, Blk.new' ((w.alloc _).alloc _) _ _ (by simp), by go_grown, hu, hv, by omega, rfl⟩
  case round =>
    obtain ⟨u', v', c1, c2, c3, hb, hu', hv', hg', hh⟩ := hrel
    replace hh := Lib.hid hh
    obtain ⟨e0, e1, e2, e3⟩ := C2.cells c1
    obtain ⟨f0, f1, f2, f3⟩ := C2.cells c2
    obtain ⟨g0, g1, g2, g3⟩ := C2.cells c3
    by_cases hz : v' = 0
    · subst hz
      have hl : lo 0 = 0 := rfl
      have hl2 : hi 0 = 0 := rfl
      go_wp2_with fail
      refine bodyPost_ret (v := .agg #[.int .u64 (CoRat.hi u'), .int .u64 (CoRat.lo u')]) (by simp [results, Tryd.results85, go_sem, g0, g1]) rfl ?_
      exact ⟨retW (by rw [hh.out, Nat.gcd_zero_right]) (by rw [hh.out, Nat.gcd_zero_right]), two_below hb (by omega) _ _⟩
    · by_cases hz2 : hi v' = 0
      case' pos =>
        have hz3 : (hi v' == 0) = true := by simpa using hz2
        have hz4 : (lo v' == 0) = false := by
          have : lo v' ≠ 0 := by intro hl; unfold CoRat.hi at hz2; unfold lo at hl; omega
          simpa using this
      case' neg => have hz3 : (hi v' == 0) = false := by simpa using hz2
      all_goals
        have hvp : 0 < v' := by omega
        clear hz hz2
        go_wp2_with fail
        refine (rdivide_any _ _ _ _ u' v' _ (W.mk u') hu' (W.mk v') hv' hvp).mono ?_; rintro e w2 ⟨rfl, hb2⟩
        have hs := Blk.lt c3
        have d1 := Blk.below c1 hb2 (by omega)
        have d2 := Blk.below c2 hb2 (by omega)
        have d3 := Blk.below c3 hb2 (by omega)
        have hb3 := hb.trans (hb2.mono (by omega))
        have z1 : w.heap.size < w2.heap.size := by have := hb2.size; omega
        have z2 : w.heap.size + 1 < w2.heap.size := by have := hb2.size; omega
        clear c1 c2 c3 e0 e1 e2 e3 f0 f1 f2 f3 g0 g1 g2 g3 hb hb2
        obtain ⟨e0, e1, e2, e3⟩ := C2.cells d1
        obtain ⟨f0, f1, f2, f3⟩ := C2.cells d2
        go_wp2_with fail
        go_region
        all_goals go_wp2_with fail
        have hm := Nat.mod_lt u' hvp
        have hB : v' < B := by omega
        all_goals go_roundg (u' % v')
        all_goals first | (omega; done) | skip
        have D1 := C2.far (C2.put d1 v') (show w.heap.size ≠ w.heap.size + 1 by omega) (.int .u64 (hi (u' % v'))) (.int .u64 (lo (u' % v')))
        have D2 := C2.put (C2.far d2 (show w.heap.size + 1 ≠ w.heap.size by omega) (.int .u64 (hi v')) (.int .u64 (lo v'))) (u' % v')
        have D3 := C2.far (C2.far d3 (show w.heap.size + 1 + 1 ≠ w.heap.size by omega) (.int .u64 (hi v')) (.int .u64 (lo v'))) (show w.heap.size + 1 + 1 ≠ w.heap.size + 1 by omega) (.int .u64 (hi (u' % v'))) (.int .u64 (lo (u' % v')))
        have D4 := two_below (two_below hb3 (show w.heap.size ≤ w.heap.size by omega) (.int .u64 (hi v')) (.int .u64 (lo v'))) (show w.heap.size ≤ w.heap.size + 1 by omega) (.int .u64 (hi (u' % v'))) (.int .u64 (lo (u' % v')))
        have hgc : Nat.gcd u v = Nat.gcd v' (u' % v') := by rw [hh.out, Nat.gcd_comm u' v', Nat.gcd_rec v' u', Nat.gcd_comm]
        have hB2 : u' % v' * 2 < B := by omega
        have hsz : w.heap.size ≤ w2.heap.size := by omega
        all_goals exact ⟨v', u' % v', ((Blk.alloc D1 _).alloc _).drew, ((Blk.alloc D2 _).alloc _).drew, ((Blk.alloc D3 _).alloc _).drew, ((D4.alloc (by simpa using hsz) _).alloc (by simp; omega) _).drew, hB, hB2, by omega, hgc⟩

theorem retF' {a b c a' b' c' : Int} (h : a = a') (h2 : b = b') (h3 : c = c') : Ending.returned (.tuple #[.agg #[.int .i64 a, .int .i64 b], .int .i64 c]) = .returned (.tuple #[.agg #[.int .i64 a', .int .i64 b'], .int .i64 c']) := by rw [h, h2, h3]
theorem redN_z (s : Bool) (v : Nat) (v0 : 0 < v) : redN s 0 v = 0 ∧ redD 0 v = 1 ∧ redE 0 v = 0 := by
  have : fits 0 v = true := by
    unfold fits M
    rw [Nat.gcd_zero_left, Nat.div_self v0]
    simp
  unfold redN redD redE
  rw [this, Nat.gcd_zero_left, Nat.div_self v0]
  cases s <;> simp
theorem hi_small {z : Nat} (h : z < 18446744073709551616) : hi z = 0 ∧ lo z = (z : Int) := by unfold CoRat.hi lo; omega
set_option maxHeartbeats 2000000 in
theorem reduce_any (s : Bool) (h l h' l' : Int) (u v : Nat) (w : World) (x : W h l u) (hu : u < B) (y : W h' l' v) (hv : v * 2 < B) (v0 : 0 < v) :
    Calls Tryd.prog 104 #[.bool s, .agg #[.int .u64 h, .int .u64 l], .agg #[.int .u64 h', .int .u64 l']] w fun e w' => e = .returned (.tuple #[.agg #[.int .i64 (redN s u v), .int .i64 (redD u v)], .int .i64 (redE u v)]) ∧ Below w.heap.size w w' := by
  obtain ⟨rfl, rfl⟩ := x
  obtain ⟨rfl, rfl⟩ := y
  by_cases hz : u = 0
  · subst hz
    have hl : lo 0 = 0 := rfl
    have hl2 : hi 0 = 0 := rfl
    obtain ⟨r1, r2, r3⟩ := redN_z s v v0
    replace r1 := Lib.hid r1
    replace r2 := Lib.hid r2
    replace r3 := Lib.hid r3
    go_enter Tryd.func104, Tryd.ntmps104
    go_wp2_with fail
    go_returns
    exact ⟨by rw [r1.out, r2.out, r3.out], by go_grown⟩
  · obtain ⟨g, hg⟩ : ∃ g, Nat.gcd u v = g := ⟨_, rfl⟩
    have hg0 : 0 < g := hg ▸ Nat.gcd_pos_of_pos_right u v0
    have hg1 : g ≤ v := hg ▸ Nat.le_of_dvd v0 (Nat.gcd_dvd_right u v)
    obtain ⟨p, hp⟩ : ∃ p, u / g = p := ⟨_, rfl⟩
    obtain ⟨q, hq⟩ : ∃ q, v / g = q := ⟨_, rfl⟩
    have nf : Hid (¬ (p ≤ 1152921504606846976 ∧ q ≤ 1152921504606846976) → redN s u v = 0 ∧ redD u v = 0 ∧ redE u v = 3) := Lib.hid (by
      intro hh
      have : fits u v = false := by
        unfold fits M
        rw [hg, hp, hq, decide_eq_false_iff_not]; exact hh
      unfold redN redD redE
      rw [this]
      exact ⟨rfl, rfl, rfl⟩)
    have yf : Hid ((p ≤ 1152921504606846976 ∧ q ≤ 1152921504606846976) → redN s u v = sg s p ∧ redD u v = q ∧ redE u v = 0) := Lib.hid (by
      intro hh
      have : fits u v = true := by
        unfold fits M
        rw [hg, hp, hq, decide_eq_true_iff]; exact hh
      unfold redN redD redE
      rw [this, hg, hp, hq]
      cases s <;> exact ⟨rfl, rfl, rfl⟩)
    have dvA := fun w => rdivide_any (hi u) (lo u) (hi g) (lo g) u g w (W.mk u) hu (W.mk g) (by omega) hg0
    have dvC := fun w => rdivide_any (hi v) (lo v) (hi g) (lo g) v g w (W.mk v) (by omega) (W.mk g) (by omega) hg0
    rw [hp] at dvA
    rw [hq] at dvC
    have hpB : p < B := by rw [← hp]; exact Nat.lt_of_le_of_lt (Nat.div_le_self _ _) hu
    have hqB : q < B := by rw [← hq]; exact Nat.lt_of_le_of_lt (Nat.div_le_self _ _) (by omega)
    replace dvA := Lib.hid dvA
    replace dvC := Lib.hid dvC
    replace hg := Lib.hid hg
    replace hp := Lib.hid hp
    replace hq := Lib.hid hq
    by_cases hz2 : hi u = 0
    case' pos =>
      have hz3 : (hi u == 0) = true := by simpa using hz2
      have hz4 : (lo u == 0) = false := by
        have : lo u ≠ 0 := by intro hl; unfold CoRat.hi at hz2; unfold lo at hl; omega
        simpa using this
    case' neg => have hz3 : (hi u == 0) = false := by simpa using hz2
    all_goals
      clear hz hz2
      go_enter Tryd.func104, Tryd.ntmps104
      go_wp2_with fail
      refine (rgcd_any _ _ _ _ u v _ (W.mk u) hu (W.mk v) hv).mono ?_; rintro e w1 ⟨rfl, hb1⟩; obtain ⟨hc1, hf1⟩ := bat hb1 (w.heap.size + 3) (by simp)
      rw [hg.out]
      have z1 : w.heap.size < w1.heap.size := by have := hb1.size; simp at this; omega
      have z2 : w.heap.size + 1 < w1.heap.size := by have := hb1.size; simp at this; omega
      have z3 : w.heap.size + 1 + 1 < w1.heap.size := by have := hb1.size; simp at this; omega
      have b1 : Below w.heap.size w w1 := (by go_grown : Below w.heap.size w _).trans (hb1.mono (by simp; omega))
      clear hb1
      go_wp2_with fail
      refine (dvA.out _).mono ?_; rintro e w2 ⟨rfl, hb2⟩; obtain ⟨hc2, hf2⟩ := bat hb2 (w.heap.size + 3) (by simp; omega)
      obtain ⟨hd2, hg2⟩ := bat hb2 (w1.heap.size + 1) (by simp)
      have y1 : w1.heap.size < w2.heap.size := by have := hb2.size; simp at this; omega
      have y2 : w.heap.size < w2.heap.size := by omega
      have y3 : w.heap.size + 1 < w2.heap.size := by omega
      have y4 : w.heap.size + 1 + 1 < w2.heap.size := by omega
      have b2 : Below w.heap.size w w2 := (b1.alloc (by omega) _).trans (hb2.mono (by simp; omega))
      clear hb2
      go_wp2_with fail
      refine (dvC.out _).mono ?_; rintro e w3 ⟨rfl, hb3⟩; obtain ⟨hc3, hf3⟩ := bat hb3 (w.heap.size + 3) (by simp; omega)
      obtain ⟨hd3, hg3⟩ := bat hb3 (w2.heap.size + 2) (by simp)
      have x1 : w2.heap.size < w3.heap.size := by have := hb3.size; simp at this; omega
      have x2 : w2.heap.size + 1 < w3.heap.size := by have := hb3.size; simp at this; omega
      have x3 : w.heap.size + 1 + 1 < w3.heap.size := by omega
      have x4 : w.heap.size + 1 < w3.heap.size := by omega
      have x5 : w.heap.size < w3.heap.size := by omega
      have b3 : Below w.heap.size w w3 := ((b2.alloc (by omega) _).alloc (by simp; omega) _).trans (hb3.mono (by simp; omega))
      have p0 : w3.cell? ⟨w2.heap.size, 0, none⟩ = some (.int .u64 (hi p)) := by rw [hd3 _ _ (by omega)]; go_simp
      have p1 : w3.cell? ⟨w2.heap.size, 1, none⟩ = some (.int .u64 (lo p)) := by rw [hd3 _ _ (by omega)]; go_simp
      have t0 : w3.cell? ⟨w.heap.size + 1 + 1, 0, none⟩ = some (.int .i64 0) := by rw [hc3 _ _ (by omega)]; go_simp
      have t1 : w3.cell? ⟨w.heap.size + 1 + 1, 1, none⟩ = some (.int .i64 0) := by rw [hc3 _ _ (by omega)]; go_simp
      have t2 : w3.frozen? ⟨w.heap.size + 1 + 1, 0, none⟩ = false := by rw [hf3 _ _ (by omega)]; go_simp
      have t3 : w3.frozen? ⟨w.heap.size + 1 + 1, 1, none⟩ = false := by rw [hf3 _ _ (by omega)]; go_simp
      clear hc1 hf1 hc2 hf2 hd2 hg2 hc3 hf3 hd3 hg3 hb3
      have wp := Lib.hid ((W.mk p).bd hpB)
      have wq := Lib.hid ((W.mk q).bd hqB)
      have vp := Lib.hid (W.mk p).val
      have vq := Lib.hid (W.mk q).val
      by_cases hpq : p ≤ 1152921504606846976 ∧ q ≤ 1152921504606846976
      · obtain ⟨hP, hQ⟩ := hpq
        obtain ⟨ep1, ep2⟩ := hi_small (z := p) (by omega)
        obtain ⟨eq1, eq2⟩ := hi_small (z := q) (by omega)
        obtain ⟨k1, k2, k3⟩ := yf.out ⟨hP, hQ⟩
        replace k1 := Lib.hid k1
        replace k2 := Lib.hid k2
        replace k3 := Lib.hid k3
        have hP' : (p : Int) ≤ 1152921504606846976 := by omega
        have hQ' : (q : Int) ≤ 1152921504606846976 := by omega
        cases s
        · go_wp2_with fail
          refine bodyPost_ret (v := .tuple #[.agg #[.int .i64 p, .int .i64 q], .int .i64 0]) (by simp [results, Tryd.results104, go_sem, t0, t1, x3, x4, x5]) rfl ?_
          exact ⟨by rw [k1.out, k2.out, k3.out]; rfl, ((((two_below b3 (by omega) _ _).alloc (by simp; omega) _).alloc (by simp; omega) _).alloc (by simp; omega) _)⟩
        · go_wp2_with fail
          refine bodyPost_ret (v := .tuple #[.agg #[.int .i64 (-p), .int .i64 q], .int .i64 0]) (by simp [results, Tryd.results104, go_sem, t0, t1, x3, x4, x5]) rfl ?_
          exact ⟨by rw [k1.out, k2.out, k3.out]; rfl, ((((two_below b3 (by omega) _ _).alloc (by simp; omega) _).alloc (by simp; omega) _).alloc (by simp; omega) _)⟩
      · obtain ⟨k1, k2, k3⟩ := nf.out hpq
        replace k1 := Lib.hid k1
        replace k2 := Lib.hid k2
        replace k3 := Lib.hid k3
        replace hpq := Lib.hid hpq
        go_wp2_with fail
        all_goals first | (exfalso; have a1 := wp.out; have a2 := wq.out; have a3 := vp.out; have a4 := vq.out; have a5 := hpq.out; omega) | skip
        all_goals
          refine bodyPost_ret (v := .tuple #[.agg #[.int .i64 0, .int .i64 0], .int .i64 3]) (by simp [results, Tryd.results104, go_sem, t0, t1, x3, x4]) rfl ?_
          exact ⟨retF' k1.out.symm k2.out.symm k3.out.symm, ((two_below b3 (by omega) _ _).alloc (by simp; omega) _).alloc (by simp; omega) _⟩
end Go.Proofs.YticekkjambkifaaDoor.Rt
