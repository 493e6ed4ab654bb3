/- The reference's divide returns quotient and rest. -/
import Derived.Test.YtfofmblbcpliaaaRefA
set_option linter.unusedVariables false
namespace Go.Proofs.Ytfofmblbcpliaaa
open Go.RowKit CoRat

set_option maxHeartbeats 3000000 in
theorem rdivide_any (h l h' l' : Int) (u v : Nat) (w : World) (x : W h l u) (hu : u < B) (y : W h' l' v) (hv : v * 2 < B) (v0 : 0 < v) :
    Calls Try.prog 53 #[.agg #[.int .u64 h, .int .u64 l], .agg #[.int .u64 h', .int .u64 l']] w fun e w' => e = .returned (.tuple #[.agg #[.int .u64 (hi (u / v)), .int .u64 (lo (u / v))], .agg #[.int .u64 (hi (u % v)), .int .u64 (lo (u % v))]]) ∧ Below w.heap.size w w' := by
  obtain ⟨h0, h1, l0, l1⟩ := x.bd hu
  obtain ⟨a0, a1, b0, b1⟩ := y.bd (by omega)
  go_enter Try.func53, Try.ntmps53
  go_wp2_with fail
  obtain ⟨w1, hw1⟩ : ∃ w1, w1 = ((((((w.alloc (.cells #[.int .u64 h, .int .u64 l] 49)).alloc (.cells #[.int .u64 h', .int .u64 l'] 49)).alloc (.cells #[.int .u64 0, .int .u64 0] 49)).alloc (.cells #[.int .u64 0, .int .u64 0] 49)).alloc (.cells #[.int .u64 0, .int .u64 0] 49)).alloc (.cells #[.int .u64 0, .int .u64 0] 49)) := ⟨_, rfl⟩
  have T : Six w w1 u v 0 0 := by
    obtain ⟨rfl, rfl⟩ := x
    obtain ⟨rfl, rfl⟩ := y
    subst hw1
    exact ⟨(((((Blk.new w _ _).alloc _).alloc _).alloc _).alloc _).alloc _, ((((Blk.new' (w.alloc _) _ _ (by simp)).alloc _).alloc _).alloc _).alloc _,
      (((Blk.new' ((w.alloc _).alloc _) _ _ (by simp)).alloc _).alloc _).alloc _, ((Blk.new' (((w.alloc _).alloc _).alloc _) _ _ (by simp)).alloc _).alloc _, (Blk.new' ((((w.alloc _).alloc _).alloc _).alloc _) _ _ (by simp)).alloc _, (Blk.new' (((((w.alloc _).alloc _).alloc _).alloc _).alloc _) _ _ (by simp)), by go_grown⟩
  rw [← hw1]
  clear hw1
  go_loopg [8] 128 (fun g t wr => ∃ j : Int, -1 ≤ j ∧ j ≤ 127 ∧ (j + 1).toNat ≤ g ∧ t = .int .i64 j ∧ Six w wr u v (u / 2 ^ (j + 1).toNat / v) (u / 2 ^ (j + 1).toNat % v))
  case atStart => exact ⟨127, by omega, by omega, by omega, rfl, by rw [show ((127 : Int) + 1).toNat = 128 from rfl, Nat.div_eq_of_lt (show u < 2 ^ 128 from hu), Nat.zero_mod, Nat.zero_div]; exact T⟩
  case round =>
    obtain ⟨i, hi0, hi1, hig, rfl, T'⟩ := hrel
    clear T
    by_cases hn : i = -1
    · subst hn
      simp at T'
      obtain ⟨k0, k1, k2, k3⟩ := C2.cells T'.2.2.2.2.1
      obtain ⟨m0, m1, m2, m3⟩ := C2.cells T'.2.2.2.2.2.1
      obtain ⟨n0, n1, n2, n3⟩ := C2.cells T'.2.2.1
      obtain ⟨o0, o1, o2, o3⟩ := C2.cells T'.2.2.2.1
      go_wp2_with fail
      go_region
      all_goals go_wp2_with fail
      all_goals refine bodyPost_ret (v := .tuple #[.agg #[.int .u64 (CoRat.hi (u / v)), .int .u64 (CoRat.lo (u / v))], .agg #[.int .u64 (CoRat.hi (u % v)), .int .u64 (CoRat.lo (u % v))]]) (by simp [results, Try.results53, go_sem, n0, n1, o0, o1]) rfl ?_
      all_goals exact ⟨rfl, two_below (two_below T'.2.2.2.2.2.2.drew (by omega) _ _) (by omega) _ _⟩
    · obtain ⟨j, rfl⟩ := Int.eq_ofNat_of_zero_le (show 0 ≤ i by omega)
      clear hn
      rw [show ((j : Int) + 1).toNat = j + 1 by omega] at T'
      have hr : u / 2 ^ (j + 1) % v < v := Nat.mod_lt _ v0
      have ho : u / 2 ^ (j + 1) / v * 2 < B := by
        have h1 : u / 2 ^ (j + 1) / v ≤ u / 2 ^ (j + 1) := Nat.div_le_self _ _
        have h2 := pow_step u j
        have h3 : u / 2 ^ j ≤ u := Nat.div_le_self _ _
        omega
      obtain ⟨m0, m1, m2, m3⟩ := C2.cells T'.2.2.2.2.2.1
      generalize hr' : u / 2 ^ (j + 1) % v = r at *
      generalize ho' : u / 2 ^ (j + 1) / v = o at *
      replace hr' := Lib.hid hr'
      replace ho' := Lib.hid ho'
      go_wp2_with fail
      refine (rdouble_any _ _ r _ (W.mk r) (by omega)).mono ?_; rintro e w2 ⟨rfl, hb2⟩
      have T2 := T'.step hb2 T'.size
      clear T' hb2 m0 m1 m2 m3
      obtain ⟨m0, m1, m2, m3⟩ := C2.cells T2.2.2.2.2.2.1
      obtain ⟨e0, e1, e2, e3⟩ := C2.cells T2.1
      go_upto_region 6 with fail
      obtain ⟨b, hb⟩ : ∃ b, u / 2 ^ j % 2 = b := ⟨_, rfl⟩
      have hb2 : b < 2 := by omega
      have hpow := Lib.hid (pow_step u j)
      replace hb := Lib.hid hb
      go_cut [39] (fun t wx => t = .bool (decide (b = 1)) ∧ Six w wx u v o (r * 2))
      case first =>
        by_cases hj : 63 < j
        · have hbit : bits .and .u64 (hi u / 2 ^ (j - 64)) 1 = (b : Int) := by rw [bit_hi u j hu hj (by omega), hb.out]
          go_wp2_with fail
          all_goals go_meet
          all_goals refine ⟨congrArg Value.bool ?_, T2.putr _⟩
          all_goals (rw [Bool.eq_iff_iff]; simp; omega)
        · have hbit : bits .and .u64 (lo u / 2 ^ j) 1 = (b : Int) := by rw [bit_lo u j (by omega), hb.out]
          go_wp2_with fail
          all_goals go_meet
          all_goals refine ⟨congrArg Value.bool ?_, T2.putr _⟩
          all_goals (rw [Bool.eq_iff_iff]; simp; try omega)
      case rest =>
        clear e0 e1 e2 e3 m0 m1 m2 m3 T2
        obtain ⟨ht, T3⟩ := hcut
        have oro : bits .or .u64 (lo (o * 2)) 1 = lo (o * 2 + 1) := or_bit o 1 (by omega)
        have orr : bits .or .u64 (lo (r * 2)) 1 = lo (r * 2 + 1) := or_bit r 1 (by omega)
        have hio := Lib.hid (hi_bit o 1 (by omega))
        have hir := Lib.hid (hi_bit r 1 (by omega))
        go_upto_region 8 with fail
        go_cut [] (fun wx => Six w wx u v o (r * 2 + b))
        case first =>
          obtain ⟨m0, m1, m2, m3⟩ := C2.cells T3.2.2.2.2.2.1
          rcases (show b = 0 ∨ b = 1 by omega) with rfl | rfl
          · obtain rfl := ht
            go_wp2_with fail
            go_meet
            exact T3
          · obtain rfl := ht
            go_wp2_with fail
            go_meet
            exact T3.lowr _ hir.out
        case rest =>
          clear T3 ht orr hir
          obtain ⟨k0, k1, k2, k3⟩ := C2.cells hcut.2.2.2.2.1
          have hrB : r * 2 + b < B := by omega
          go_wp2_with fail
          refine (rdouble_any _ _ o _ (W.mk o) ho).mono ?_; rintro e w3 ⟨rfl, hb3⟩
          have T4 := hcut.step hb3 hcut.size
          clear hcut hb3 k0 k1 k2 k3
          obtain ⟨k0, k1, k2, k3⟩ := C2.cells T4.2.2.2.2.1
          obtain ⟨m0, m1, m2, m3⟩ := C2.cells T4.2.2.2.2.2.1
          obtain ⟨f0, f1, f2, f3⟩ := C2.cells T4.2.1
          by_cases hlt : r * 2 + b < v
          · have hd : decide (r * 2 + b < v) = true := by simpa using hlt
            go_wp2_with fail
            refine (rless_any _ _ _ _ (r * 2 + b) v _ (W.mk _) hrB (W.mk v) (by omega)).mono ?_; rintro e w4 ⟨rfl, hb4⟩
            have T5 := (T4.puto (o * 2)).step hb4 (by simpa using T4.size)
            clear T4 hb4 k0 k1 k2 k3 m0 m1 m2 m3 f0 f1 f2 f3
            go_wp2_with fail
            go_roundg j
            all_goals first | (omega; done) | skip
            refine ⟨(j : Int) - 1, by omega, by omega, by omega, rfl, ?_⟩
            rw [show ((j : Int) - 1 + 1).toNat = j by omega, hpow.out, hb.out, (div_step v0 ho'.out hr'.out hlt).1, (div_step v0 ho'.out hr'.out hlt).2]
            exact T5
          · have hd : decide (r * 2 + b < v) = false := by simpa using hlt
            go_wp2_with fail
            refine (rless_any _ _ _ _ (r * 2 + b) v _ (W.mk _) hrB (W.mk v) (by omega)).mono ?_; rintro e w4 ⟨rfl, hb4⟩
            have T5 := (T4.puto (o * 2)).step hb4 (by simpa using T4.size)
            clear T4 hb4 k0 k1 k2 k3 m0 m1 m2 m3 f0 f1 f2 f3
            obtain ⟨k0, k1, k2, k3⟩ := C2.cells T5.2.2.2.2.1
            obtain ⟨m0, m1, m2, m3⟩ := C2.cells T5.2.2.2.2.2.1
            obtain ⟨f0, f1, f2, f3⟩ := C2.cells T5.2.1
            go_wp2_with fail
            refine (rsub_any _ _ _ _ (r * 2 + b) v _ (W.mk _) hrB (W.mk v) (by omega)).mono ?_; rintro e w5 ⟨rfl, hb5⟩
            have T6 := T5.step hb5 T5.size
            clear T5 hb5 k0 k1 k2 k3 m0 m1 m2 m3 f0 f1 f2 f3
            obtain ⟨k0, k1, k2, k3⟩ := C2.cells T6.2.2.2.2.1
            obtain ⟨m0, m1, m2, m3⟩ := C2.cells T6.2.2.2.2.2.1
            go_wp2_with fail
            go_roundg j
            all_goals first | (omega; done) | skip
            refine ⟨(j : Int) - 1, by omega, by omega, by omega, rfl, ?_⟩
            rw [show ((j : Int) - 1 + 1).toNat = j by omega, hpow.out, hb.out, (div_step' v0 ho'.out hr'.out hb2 hlt).1, (div_step' v0 ho'.out hr'.out hb2 hlt).2]
            exact (T6.putr _).lowo _ hio.out
end Go.Proofs.Ytfofmblbcpliaaa
