/- Over of package wide returns the quotient. -/
import Derived.Test.YtfofmblbcpliaaaRatB
set_option linter.unusedVariables false
namespace Go.Proofs.Ytfofmblbcpliaaa
open Go.RowKit CoRat

/-- What the loop of Over holds in memory. -/
def Four (w wr : World) (u v r o : Nat) (n n' : Bool) : Prop := C3 wr w.heap.size u n ∧ C3 wr (w.heap.size + 1) v n' ∧ C3 wr (w.heap.size + 1 + 1) r false ∧ C3 wr (w.heap.size + 1 + 1 + 1) o false ∧ Below w.heap.size w wr
section
variable {w wr wr' : World} {u v r o : Nat} {n n' : Bool}
theorem Four.size (h : Four w wr u v r o n n') : w.heap.size + 4 ≤ wr.heap.size := by have := Blk.lt h.2.2.2.1; omega
theorem Four.step (h : Four w wr u v r o n n') {k : Nat} (hb : Below k wr wr') (hn : w.heap.size + 4 ≤ k) : Four w wr' u v r o n n' :=
  ⟨Blk.below h.1 hb (by omega), Blk.below h.2.1 hb (by omega), Blk.below h.2.2.1 hb (by omega), Blk.below h.2.2.2.1 hb (by omega), h.2.2.2.2.trans (hb.mono (by omega))⟩
theorem Four.drew (h : Four w wr u v r o n n') : Four w wr.drew u v r o n n' := ⟨h.1, h.2.1, h.2.2.1, h.2.2.2.1, h.2.2.2.2.drew⟩
theorem Four.putr (h : Four w wr u v r o n n') (r' : Nat) : Four w (((wr.setCell ⟨w.heap.size + 1 + 1, 0, none⟩ (.int .u64 (hi r'))).setCell ⟨w.heap.size + 1 + 1, 1, none⟩ (.int .u64 (lo r'))).setCell ⟨w.heap.size + 1 + 1, 2, none⟩ (.bool false)) u v r' o n n' :=
  ⟨C3.far h.1 (by omega) _ _ _, C3.far h.2.1 (by omega) _ _ _, C3.put h.2.2.1 _ _, C3.far h.2.2.2.1 (by omega) _ _ _, put3_below h.2.2.2.2 (by omega) _ _ _⟩
theorem Four.puto (h : Four w wr u v r o n n') (o' : Nat) : Four w (((wr.setCell ⟨w.heap.size + 1 + 1 + 1, 0, none⟩ (.int .u64 (hi o'))).setCell ⟨w.heap.size + 1 + 1 + 1, 1, none⟩ (.int .u64 (lo o'))).setCell ⟨w.heap.size + 1 + 1 + 1, 2, none⟩ (.bool false)) u v r o' n n' :=
  ⟨C3.far h.1 (by omega) _ _ _, C3.far h.2.1 (by omega) _ _ _, C3.far h.2.2.1 (by omega) _ _ _, C3.put h.2.2.2.1 _ _, put3_below h.2.2.2.2 (by omega) _ _ _⟩
theorem C3.low {w : World} {g u u' : Nat} {n : Bool} (h : C3 w g u n) (e : hi u = hi u') : C3 (w.setCell ⟨g, 1, none⟩ (.int .u64 (lo u'))) g u' n := by
  have := Blk.set h 1 (.int .u64 (lo u'))
  unfold C3
  rw [← e]
  exact this
theorem C3.far1 {w : World} {g g' u : Nat} {n : Bool} (h : C3 w g u n) (hne : g ≠ g') (i : Nat) (a : Value) : C3 (w.setCell ⟨g', i, none⟩ a) g u n := Blk.far h (p := ⟨g', i, none⟩) hne _
theorem Four.lowr (h : Four w wr u v r o n n') (r' : Nat) (e : hi r = hi r') : Four w (wr.setCell ⟨w.heap.size + 1 + 1, 1, none⟩ (.int .u64 (lo r'))) u v r' o n n' :=
  ⟨C3.far1 h.1 (by omega) _ _, C3.far1 h.2.1 (by omega) _ _, C3.low h.2.2.1 e, C3.far1 h.2.2.2.1 (by omega) _ _, h.2.2.2.2.setCell (p := ⟨w.heap.size + 1 + 1, 1, none⟩) (by simp; omega) _⟩
theorem Four.lowo (h : Four w wr u v r o n n') (o' : Nat) (e : hi o = hi o') : Four w (wr.setCell ⟨w.heap.size + 1 + 1 + 1, 1, none⟩ (.int .u64 (lo o'))) u v r o' n n' :=
  ⟨C3.far1 h.1 (by omega) _ _, C3.far1 h.2.1 (by omega) _ _, C3.far1 h.2.2.1 (by omega) _ _, C3.low h.2.2.2.1 e, h.2.2.2.2.setCell (p := ⟨w.heap.size + 1 + 1 + 1, 1, none⟩) (by simp; omega) _⟩
end

theorem retIB {a b : Int} {c d : Bool} (h : a = b) (h' : c = d) : Ending.returned (.tuple #[.int .i64 a, .bool c]) = .returned (.tuple #[.int .i64 b, .bool d]) := by rw [h, h']
theorem hi_zero (z : Nat) : hi z = 0 ↔ z < 18446744073709551616 := by unfold hi; omega
theorem and62 (z : Nat) : bits .and .u64 (lo z) 4611686018427387903 = ((z % 4611686018427387904 : Nat) : Int) := by
  rw [and_mask62 _ (by unfold lo; omega) (by unfold lo; omega)]; unfold lo; omega
theorem bit_lo (u j : Nat) (hj : j ≤ 63) : bits .and .u64 (lo u / 2 ^ j) 1 = ((u / 2 ^ j % 2 : Nat) : Int) := by
  have e : lo u / 2 ^ j = ((u % 18446744073709551616 / 2 ^ j : Nat) : Int) := by unfold lo; simp
  have h1 : u % 18446744073709551616 / 2 ^ j ≤ u % 18446744073709551616 := Nat.div_le_self _ _
  have h3 : u % 18446744073709551616 / 2 ^ j < 18446744073709551616 := by omega
  rw [e, and_one _ (Int.natCast_nonneg _) (by generalize u % 18446744073709551616 / 2 ^ j = z at *; omega)]
  have h2 : u % 18446744073709551616 / 2 ^ j % 2 = u / 2 ^ j % 2 := by
    have h : (18446744073709551616 : Nat) = 2 ^ j * 2 ^ (64 - j) := by rw [← Nat.pow_add, show j + (64 - j) = 64 by omega]
    rw [h, Nat.mod_mul_right_div_self]
    have : (2 : Nat) ^ (64 - j) = 2 * 2 ^ (63 - j) := by rw [← Nat.pow_succ', show (63 - j).succ = 64 - j by omega]
    rw [this, Nat.mod_mul_right_mod]
  rw [← h2]; omega
theorem bit_hi (u j : Nat) (hu : u < B) (hj : 63 < j) (hj2 : j ≤ 127) : bits .and .u64 (hi u / 2 ^ (j - 64)) 1 = ((u / 2 ^ j % 2 : Nat) : Int) := by
  have e : hi u / 2 ^ (j - 64) = ((u / 18446744073709551616 / 2 ^ (j - 64) : Nat) : Int) := by unfold hi; simp
  have h1 : u / 18446744073709551616 / 2 ^ (j - 64) ≤ u / 18446744073709551616 := Nat.div_le_self _ _
  unfold B at hu
  have h3 : u / 18446744073709551616 / 2 ^ (j - 64) < 18446744073709551616 := by omega
  rw [e, and_one _ (Int.natCast_nonneg _) (by generalize u / 18446744073709551616 / 2 ^ (j - 64) = z at *; omega)]
  have h2 : u / 18446744073709551616 / 2 ^ (j - 64) = u / 2 ^ j := by
    rw [Nat.div_div_eq_div_mul, show (18446744073709551616 : Nat) = 2 ^ 64 from rfl, ← Nat.pow_add, show 64 + (j - 64) = j by omega]
  rw [h2]; omega
theorem or_bit (r b : Nat) (hb : b < 2) : bits .or .u64 (lo (r * 2)) (b : Int) = lo (r * 2 + b) := by
  have e1 : 0 ≤ lo (r * 2) := by unfold lo; omega
  have e2 : lo (r * 2) < 18446744073709551616 := by unfold lo; omega
  have e3 : (lo (r * 2)).toNat % 2 = 0 := by unfold lo; omega
  rw [or_join (lo (r * 2)) b 1 e1 e2 (by omega) (by omega) (by simpa using e3) (by omega)]
  unfold lo; omega
theorem hi_bit (r b : Nat) (hb : b < 2) : hi (r * 2) = hi (r * 2 + b) := by unfold hi; omega
theorem div_step {x v q r b : Nat} (hv : 0 < v) (hq : x / v = q) (hr : x % v = r) (hlt : r * 2 + b < v) : (x * 2 + b) / v = q * 2 ∧ (x * 2 + b) % v = r * 2 + b := by
  have e := Nat.div_add_mod x v
  rw [hq, hr] at e
  have e2 : x * 2 + b = (r * 2 + b) + v * (q * 2) := by rw [← e, ← Nat.mul_assoc]; omega
  rw [e2]
  exact ⟨by rw [Nat.add_mul_div_left _ _ hv, Nat.div_eq_of_lt hlt]; omega, by rw [Nat.add_mul_mod_self_left, Nat.mod_eq_of_lt hlt]⟩
theorem div_step' {x v q r b : Nat} (hv : 0 < v) (hq : x / v = q) (hr : x % v = r) (hb : b < 2) (hlt : ¬ r * 2 + b < v) : (x * 2 + b) / v = q * 2 + 1 ∧ (x * 2 + b) % v = r * 2 + b - v := by
  have e := Nat.div_add_mod x v
  have hrv : r < v := hr ▸ Nat.mod_lt _ hv
  rw [hq, hr] at e
  have e2 : x * 2 + b = (r * 2 + b - v) + v * (q * 2 + 1) := by rw [← e, Nat.mul_add, ← Nat.mul_assoc]; omega
  have hlt2 : r * 2 + b - v < v := by omega
  rw [e2]
  exact ⟨by rw [Nat.add_mul_div_left _ _ hv, Nat.div_eq_of_lt hlt2]; omega, by rw [Nat.add_mul_mod_self_left, Nat.mod_eq_of_lt hlt2]⟩
theorem pow_step (u j : Nat) : u / 2 ^ j = u / 2 ^ (j + 1) * 2 + u / 2 ^ j % 2 := by
  have : u / 2 ^ (j + 1) = u / 2 ^ j / 2 := by rw [Nat.div_div_eq_div_mul, Nat.pow_succ]
  omega

set_option maxHeartbeats 2000000 in
theorem over_any (h l h' l' : Int) (n n' : Bool) (u v : Nat) (w : World) (x : W h l u) (hu : u < B) (y : W h' l' v) (hv : v * 2 < B) (v0 : 0 < v) :
    Calls Try.prog 50 #[.agg #[.int .u64 h, .int .u64 l, .bool n], .agg #[.int .u64 h', .int .u64 l', .bool n']] w fun e w' => e = .returned (.tuple #[.int .i64 ((u / v % 4611686018427387904 : Nat) : Int), .bool (decide (u / v < 4611686018427387904))]) ∧ Below w.heap.size w w' := by
  obtain ⟨h0, h1, l0, l1⟩ := x.bd hu
  obtain ⟨a0, a1, b0, b1⟩ := y.bd (by omega)
  have hv' : decide (v = 0) = false := by simp; omega
  go_enter Try.func50, Try.ntmps50
  go_wp2_with fail
  refine (zero_any _ _ _ v _ y (by omega)).mono ?_; rintro e w1 ⟨rfl, hb⟩; obtain ⟨hc, hf⟩ := bat hb (w.heap.size + 4) (by simp)
  go_wp2_with fail
  have T : Four w w1 u v 0 0 n n' := by
    obtain ⟨rfl, rfl⟩ := x
    obtain ⟨rfl, rfl⟩ := y
    exact ⟨(((((Blk.new w _ _).alloc _).alloc _).alloc _).below hb (by simp; omega)), (((Blk.new' (w.alloc _) _ _ (by simp)).alloc _).alloc _).below hb (by simp),
      ((Blk.new' ((w.alloc _).alloc _) _ _ (by simp)).alloc _).below hb (by simp), (Blk.new' (((w.alloc _).alloc _).alloc _) _ _ (by simp)).below hb (by simp),
      ((by go_grown : Below w.heap.size w _).trans (hb.mono (by simp; omega)))⟩
  clear hc hf hb hv'
  go_loopg [8] 128 (fun g t wr => ∃ j : Int, -1 ≤ j ∧ j ≤ 127 ∧ (j + 1).toNat ≤ g ∧ t = .int .i64 j ∧ Four w wr u v (u / 2 ^ (j + 1).toNat % v) (u / 2 ^ (j + 1).toNat / v) n n')
  case atStart => exact ⟨127, by omega, by omega, by omega, rfl, by rw [show ((127 : Int) + 1).toNat = 128 from rfl, Nat.div_eq_of_lt (show u < 2 ^ 128 from hu), Nat.zero_mod, Nat.zero_div]; exact T⟩
  case round =>
    obtain ⟨i, hi0, hi1, hig, rfl, T'⟩ := hrel
    clear T
    by_cases hn : i = -1
    · subst hn
      simp at T'
      obtain ⟨k0, k1, k2, k3, k4, k5⟩ := C3.cells T'.2.2.2.1
      obtain ⟨q, hq⟩ : ∃ q, u / v % 4611686018427387904 = q := ⟨_, rfl⟩
      have hq1 : (q : Int) ≤ 4611686018427387903 := by omega
      have hm : bits .and .u64 (lo (u / v)) 4611686018427387903 = (q : Int) := by rw [and62, hq]
      have hv2 : Hid (hi (u / v) = 0 ↔ u / v < 18446744073709551616) := Lib.hid (hi_zero _)
      have hv3 : Hid (lo (u / v) = ((u / v % 18446744073709551616 : Nat) : Int)) := Lib.hid rfl
      replace hq := Lib.hid hq
      by_cases hz : hi (u / v) = 0
      case' pos => have hd : (hi (u / v) == 0) = true := by simpa using hz
      case' neg => have hd : (hi (u / v) == 0) = false := by simpa using hz
      all_goals
        replace hz := Lib.hid hz
        go_wp2_with fail
        go_quiet (fail)
        go_wp2
        go_ret2
        have a1 := hv2.out; have a2 := hv3.out; have a3 := hz.out
        refine ⟨retIB (by rw [hq.out]) ?_, below_drewN T'.2.2.2.2 _⟩
        generalize u / v = z at *
        rw [Bool.eq_iff_iff]
        simp
        omega
    · obtain ⟨j, rfl⟩ := Int.eq_ofNat_of_zero_le (show 0 ≤ i by omega)
      clear hn
      rw [show ((j : Int) + 1).toNat = j + 1 by omega] at T'
      have hr : u / 2 ^ (j + 1) % v < v := Nat.mod_lt _ v0
      have ho : u / 2 ^ (j + 1) / v * 2 < B := by
        have h1 : u / 2 ^ (j + 1) / v ≤ u / 2 ^ (j + 1) := Nat.div_le_self _ _
        have h2 := pow_step u j
        have h3 : u / 2 ^ j ≤ u := Nat.div_le_self _ _
        omega
      obtain ⟨e0, e1, e2, e3, e4, e5⟩ := C3.cells T'.1
      obtain ⟨f0, f1, f2, f3, f4, f5⟩ := C3.cells T'.2.1
      obtain ⟨g0, g1, g2, g3, g4, g5⟩ := C3.cells T'.2.2.1
      obtain ⟨k0, k1, k2, k3, k4, k5⟩ := C3.cells T'.2.2.2.1
      generalize hr' : u / 2 ^ (j + 1) % v = r at *
      generalize ho' : u / 2 ^ (j + 1) / v = o at *
      replace hr' := Lib.hid hr'
      replace ho' := Lib.hid ho'
      go_upto_region 7 with fail
      go_cut [] (fun wx => Four w wx u v (r * 2) (o * 2) n n')
      case first =>
        go_region_with (first | (go_at_call 61; (with_reducible refine (twice_any _ _ _ r _ (W.mk r) (by omega)).mono ?_); rintro e w5 ⟨rfl, hb5⟩; have T5 : Four w w5 u v r o n n' := (T'.drew.step hb5 T'.size); obtain ⟨hc5, hf5⟩ := bat hb5 (w.heap.size + 4) T'.size) | (go_at_call 61; (with_reducible refine (twice_any _ _ _ o _ (W.mk o) ho).mono ?_); rintro e w6 ⟨rfl, hb6⟩; have T6 : Four w w6 u v r o n n' := (T5.step hb6 T5.size); obtain ⟨hc6, hf6⟩ := bat hb6 (w.heap.size + 4) T5.size))
        all_goals go_wp2_with fail
        all_goals go_meet
        all_goals exact (T6.putr _).puto _
      case rest =>
        clear e0 e1 e2 e3 e4 e5 f0 f1 f2 f3 f4 f5 g0 g1 g2 g3 g4 g5 k0 k1 k2 k3 k4 k5
        obtain ⟨e0, e1, e2, e3, e4, e5⟩ := C3.cells hcut.1
        obtain ⟨f0, f1, f2, f3, f4, f5⟩ := C3.cells hcut.2.1
        obtain ⟨g0, g1, g2, g3, g4, g5⟩ := C3.cells hcut.2.2.1
        obtain ⟨k0, k1, k2, k3, k4, k5⟩ := C3.cells hcut.2.2.2.1
        obtain ⟨b, hb⟩ : ∃ b, u / 2 ^ j % 2 = b := ⟨_, rfl⟩
        have hb2 : b < 2 := by omega
        have orb := or_bit r b hb2
        have oro : bits .or .u64 (lo (o * 2)) 1 = lo (o * 2 + 1) := or_bit o 1 (by omega)
        have hib := Lib.hid (hi_bit r b hb2)
        have hio := Lib.hid (hi_bit o 1 (by omega))
        have hpow := Lib.hid (pow_step u j)
        replace hb := Lib.hid hb
        have hrB : r * 2 + b < B := by omega
        by_cases hj : 63 < j
        case' pos => have hbit : bits .and .u64 (hi u / 2 ^ (j - 64)) 1 = (b : Int) := by rw [bit_hi u j hu hj (by omega), hb.out]
        case' neg => have hbit : bits .and .u64 (lo u / 2 ^ j) 1 = (b : Int) := by rw [bit_lo u j (by omega), hb.out]
        all_goals
          by_cases hlt : r * 2 + b < v
          case' pos => have hd : decide (r * 2 + b < v) = true := by simpa using hlt
          case' neg => have hd : decide (r * 2 + b < v) = false := by simpa using hlt
          all_goals
            go_wp2_with fail
            refine (below_any _ _ _ _ _ _ (r * 2 + b) v _ ⟨hib.out, rfl⟩ hrB (W.mk v) (by omega)).mono ?_; rintro e w4 ⟨rfl, hb4⟩
            have T4 := (hcut.lowr (r * 2 + b) hib.out).step hb4 (by simpa using hcut.size)
            clear e0 e1 e2 e3 e4 e5 f0 f1 f2 f3 f4 f5 g0 g1 g2 g3 g4 g5 k0 k1 k2 k3 k4 k5
            obtain ⟨f0, f1, f2, f3, f4, f5⟩ := C3.cells T4.2.1
            obtain ⟨g0, g1, g2, g3, g4, g5⟩ := C3.cells T4.2.2.1
            obtain ⟨k0, k1, k2, k3, k4, k5⟩ := C3.cells T4.2.2.2.1
            go_wp2_with fail
          · refine (less_any _ _ _ _ _ _ (r * 2 + b) v _ (W.mk _) hrB (W.mk v) (by omega)).mono ?_; rintro e w5 ⟨rfl, hb5⟩
            have T5 := T4.step hb5 T4.size
            clear f0 f1 f2 f3 f4 f5 g0 g1 g2 g3 g4 g5 k0 k1 k2 k3 k4 k5
            obtain ⟨g0, g1, g2, g3, g4, g5⟩ := C3.cells T5.2.2.1
            obtain ⟨k0, k1, k2, k3, k4, k5⟩ := C3.cells T5.2.2.2.1
            go_wp2_with fail
            go_roundg j
            all_goals first | (omega; done) | skip
            refine ⟨(j : Int) - 1, by omega, by omega, by omega, rfl, ?_⟩
            rw [show ((j : Int) - 1 + 1).toNat = j by omega, hpow.out, hb.out, (div_step' v0 ho'.out hr'.out hb2 hlt).1, (div_step' v0 ho'.out hr'.out hb2 hlt).2]
            exact (T5.putr _).lowo _ hio.out
          · go_roundg j
            all_goals first | (omega; done) | skip
            refine ⟨(j : Int) - 1, by omega, by omega, by omega, rfl, ?_⟩
            rw [show ((j : Int) - 1 + 1).toNat = j by omega, hpow.out, hb.out, (div_step v0 ho'.out hr'.out hlt).1, (div_step v0 ho'.out hr'.out hlt).2]
            exact T4
end Go.Proofs.Ytfofmblbcpliaaa
