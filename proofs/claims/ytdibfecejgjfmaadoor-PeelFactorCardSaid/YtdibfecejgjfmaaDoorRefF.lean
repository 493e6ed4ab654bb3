/- Plain: the product of two words by their halves. -/
import Derived.Test.YtdibfecejgjfmaaDoorRatM
import Derived.Test.YtdibfecejgjfmaaDoorRefE
import Derived.Test.YtdibfecejgjfmaaDoorRatK
set_option linter.unusedVariables false
namespace CoRat

theorem split_mul (a b K : Nat) : a * b = (a / K) * (b / K) * (K * K) + ((a / K) * (b % K) + (a % K) * (b / K)) * K + (a % K) * (b % K) := by
  have h1 := Nat.div_add_mod a K
  have h2 := Nat.div_add_mod b K
  generalize a / K = x at *
  generalize a % K = y at *
  generalize b / K = u at *
  generalize b % K = v at *
  subst h1
  subst h2
  grind
theorem le_prod {x y : Nat} (hx : x < 4294967296) (hy : y < 4294967296) : x * y ≤ 18446744065119617025 := by
  have := Nat.mul_le_mul (show x ≤ 4294967295 by omega) (show y ≤ 4294967295 by omega)
  omega
structure Halves (a b P S T M q r : Nat) : Prop where
  p : P ≤ 18446744065119617025
  s : S ≤ 18446744065119617025
  t : T ≤ 18446744065119617025
  m : M ≤ 18446744065119617025
  q0 : q = S + P / 4294967296
  r0 : r = T + q % 4294967296
  q1 : q < 18446744073709551616
  r1 : r < 18446744073709551616
  h1 : M + q / 4294967296 < 18446744073709551616
  h2 : M + q / 4294967296 + r / 4294967296 < 18446744073709551616
  h : a * b / 18446744073709551616 = M + q / 4294967296 + r / 4294967296
  l : a * b % 18446744073709551616 = (r % 4294967296) * 4294967296 + P % 4294967296
theorem halves (a b : Nat) (ha : a < 18446744073709551616) (hb : b < 18446744073709551616) :
    Halves a b ((a % 4294967296) * (b % 4294967296)) ((a / 4294967296) * (b % 4294967296)) ((a % 4294967296) * (b / 4294967296)) ((a / 4294967296) * (b / 4294967296))
      ((a / 4294967296) * (b % 4294967296) + (a % 4294967296) * (b % 4294967296) / 4294967296)
      ((a % 4294967296) * (b / 4294967296) + ((a / 4294967296) * (b % 4294967296) + (a % 4294967296) * (b % 4294967296) / 4294967296) % 4294967296) := by
  have e := split_mul a b 4294967296
  have p := le_prod (x := a % 4294967296) (y := b % 4294967296) (by omega) (by omega)
  have s := le_prod (x := a / 4294967296) (y := b % 4294967296) (by omega) (by omega)
  have t := le_prod (x := a % 4294967296) (y := b / 4294967296) (by omega) (by omega)
  have m := le_prod (x := a / 4294967296) (y := b / 4294967296) (by omega) (by omega)
  have hm : a * b < 18446744073709551616 * 18446744073709551616 := Nat.mul_lt_mul_of_lt_of_le ha (Nat.le_of_lt hb) (by omega)
  generalize (a % 4294967296) * (b % 4294967296) = P at *
  generalize (a / 4294967296) * (b % 4294967296) = S at *
  generalize (a % 4294967296) * (b / 4294967296) = T at *
  generalize (a / 4294967296) * (b / 4294967296) = M at *
  generalize hX : a * b = X at *
  have e2 : X = M * 18446744073709551616 + S * 4294967296 + T * 4294967296 + P := by
    rw [e, Nat.add_mul]; omega
  clear e hm
  refine ⟨p, s, t, m, rfl, rfl, by omega, by omega, by omega, by omega, ?_, ?_⟩
  · rw [hX]; omega
  · rw [hX]; omega
theorem or_low (r p : Nat) (hp : p < 4294967296) : (r * 4294967296) ||| p = r * 4294967296 + p := by
  have := Nat.two_pow_add_eq_or_of_lt (i := 32) (b := p) hp r
  rw [Nat.mul_comm r 4294967296]
  exact this.symm
end CoRat

namespace Go.Proofs.YtdibfecejgjfmaaDoor.Rt
open Go.RowKit CoRat

theorem u64_low (x : Nat) (hx : x < 18446744073709551616) : bits .and .u64 (x : Int) 4294967295 = ((x % 4294967296 : Nat) : Int) := by
  have h := u64_and_nat x 4294967295 hx (by omega)
  rw [show ((4294967295 : Nat) : Int) = 4294967295 from rfl] at h
  rw [h, show (4294967295 : Nat) = 2 ^ 32 - 1 from rfl, Nat.and_two_pow_sub_one_eq_mod]
theorem wrap_nat (x : Nat) (hx : x < 18446744073709551616) : IntKind.u64.wrap (x : Int) = (x : Int) := by
  rw [IntKind.wrap_u64]; omega
theorem shl32 (x : Nat) (hx : x < 18446744073709551616) : IntKind.u64.wrap ((x : Int) * 4294967296) = ((x % 4294967296 * 4294967296 : Nat) : Int) := by
  rw [IntKind.wrap_u64]; omega
theorem or32 (x y : Nat) (hx : x < 4294967296) (hy : y < 4294967296) : bits .or .u64 ((x * 4294967296 : Nat) : Int) (y : Int) = ((x * 4294967296 + y : Nat) : Int) := by
  rw [u64_or_nat _ _ (by omega) (by omega), or_low _ _ hy]

theorem div_nat (a : Nat) : (a : Int) / 4294967296 = ((a / 4294967296 : Nat) : Int) := by omega
theorem wrap_mul (x y : Nat) (h : x * y ≤ 18446744065119617025) : IntKind.u64.wrap ((x : Int) * (y : Int)) = ((x * y : Nat) : Int) := by
  rw [← Int.natCast_mul]; exact wrap_nat _ (by omega)
theorem wrap_q (s p : Nat) (h : s + p / 4294967296 < 18446744073709551616) : IntKind.u64.wrap ((s : Int) + (p : Int) / 4294967296) = ((s + p / 4294967296 : Nat) : Int) := by
  rw [div_nat, ← Int.natCast_add]; exact wrap_nat _ h
theorem wrap_r (t q : Nat) (hq : q < 18446744073709551616) (h : t + q % 4294967296 < 18446744073709551616) : IntKind.u64.wrap ((t : Int) + bits .and .u64 (q : Int) 4294967295) = ((t + q % 4294967296 : Nat) : Int) := by
  rw [u64_low q hq, ← Int.natCast_add]; exact wrap_nat _ h
structure Facts (a b : Nat) (A1 A0 B1 B0 : Int) (P S T M q r L : Nat) : Prop where
  p : IntKind.u64.wrap (A0 * B0) = (P : Int)
  s : IntKind.u64.wrap (A1 * B0) = (S : Int)
  t : IntKind.u64.wrap (A0 * B1) = (T : Int)
  m : IntKind.u64.wrap (A1 * B1) = (M : Int)
  q0 : IntKind.u64.wrap ((S : Int) + (P : Int) / 4294967296) = (q : Int)
  r0 : IntKind.u64.wrap ((T : Int) + bits .and .u64 (q : Int) 4294967295) = (r : Int)
  h1 : IntKind.u64.wrap ((M : Int) + (q : Int) / 4294967296) = ((M + q / 4294967296 : Nat) : Int)
  h2 : IntKind.u64.wrap (((M + q / 4294967296 : Nat) : Int) + (r : Int) / 4294967296) = hi (a * b)
  l1 : IntKind.u64.wrap ((r : Int) * 4294967296) = ((r % 4294967296 * 4294967296 : Nat) : Int)
  l2 : bits .and .u64 (P : Int) 4294967295 = ((P % 4294967296 : Nat) : Int)
  l3 : bits .or .u64 ((r % 4294967296 * 4294967296 : Nat) : Int) ((P % 4294967296 : Nat) : Int) = lo (a * b)
theorem facts (a b : Nat) (ha : a < 18446744073709551616) (hb : b < 18446744073709551616) : ∃ P S T M q r L, Facts a b ((a / 4294967296 : Nat) : Int) ((a % 4294967296 : Nat) : Int) ((b / 4294967296 : Nat) : Int) ((b % 4294967296 : Nat) : Int) P S T M q r L := by
  have H := halves a b ha hb
  refine ⟨_, _, _, _, _, _, 0, wrap_mul _ _ H.p, wrap_mul _ _ H.s, wrap_mul _ _ H.t, wrap_mul _ _ H.m, wrap_q _ _ H.q1, wrap_r _ _ H.q1 H.r1, wrap_q _ _ H.h1, ?_, shl32 _ H.r1, u64_low _ (by have := H.p; omega), ?_⟩
  · rw [wrap_q _ _ H.h2]
    unfold hi
    rw [H.h]
  · rw [or32 _ _ (by omega) (by omega)]
    unfold lo
    rw [H.l]
theorem low_nat (x : Nat) : ((x % 4294967296 : Nat) : Int) = (x : Int) % 4294967296 := by omega

set_option maxHeartbeats 1000000 in
theorem rmul_any (a b : Nat) (w : World) (ha : a < 18446744073709551616) (hb : b < 18446744073709551616) :
    Calls Tryd.prog 40 #[.int .u64 a, .int .u64 b] w fun e w' => e = .returned (.agg #[.int .u64 (hi (a * b)), .int .u64 (lo (a * b))]) ∧ Below w.heap.size w w' := by
  obtain ⟨P, S, T, M, q, r, _, F⟩ := facts a b ha hb
  have la := u64_low a ha
  have lb := u64_low b hb
  have da := div_nat a
  have db := div_nat b
  generalize ((a / 4294967296 : Nat) : Int) = A1 at *
  generalize ((b / 4294967296 : Nat) : Int) = B1 at *
  generalize ((a % 4294967296 : Nat) : Int) = A0 at *
  generalize ((b % 4294967296 : Nat) : Int) = B0 at *
  have F := Lib.hid F
  replace la := Lib.hid la
  replace lb := Lib.hid lb
  replace da := Lib.hid da
  replace db := Lib.hid db
  go_enter Tryd.func40, Tryd.ntmps40
  go_wp2_with fail
  go_returns
  refine ⟨retW ?_ ?_, by go_grown⟩
  · rw [la.out, lb.out, da.out, db.out, F.out.p, F.out.s, F.out.t, F.out.m, F.out.q0, F.out.r0, F.out.h1, F.out.h2]
  · rw [la.out, lb.out, da.out, db.out, F.out.p, F.out.s, F.out.t, F.out.q0, F.out.r0, F.out.l1, F.out.l2, F.out.l3]

set_option maxHeartbeats 4000000 in
theorem rMul_any (a b c d : Int) (w : World) :
    Calls Tryd.prog 28 #[.agg #[.int .i64 a, .int .i64 b], .agg #[.int .i64 c, .int .i64 d]] w fun e w' => e = .returned (.tuple #[.agg #[.int .i64 (mulN a b c d), .int .i64 (mulD a b c d)], .int .i64 (mulE a b c d)]) ∧ Below w.heap.size w w' := by
  have okx := fun w => rvalid_any a b w
  have oky := fun w => rvalid_any c d w
  cases hx : okF a b
  · have e1 : Hid (mulN a b c d = 0 ∧ mulD a b c d = 0 ∧ mulE a b c d = 4) := Lib.hid (by unfold mulN mulD mulE; rw [hx]; exact ⟨rfl, rfl, rfl⟩)
    rw [hx] at okx
    replace okx := Lib.hid okx
    clear hx oky
    go_enter Tryd.func28, Tryd.ntmps28
    go_wp2_with fail
    refine (okx.out _).mono ?_; rintro e w1 ⟨rfl, hb1⟩; obtain ⟨hc1, hf1⟩ := bat hb1 (w.heap.size + 3) (by simp)
    go_wp2_with fail
    refine bodyPost_ret (v := .tuple #[.agg #[.int .i64 0, .int .i64 0], .int .i64 4]) (by simp [results, Tryd.results28, go_sem, hc1]) rfl ?_
    exact ⟨retF e1.out.1.symm e1.out.2.1.symm e1.out.2.2.symm, ((by go_grown : Below w.heap.size w _).trans (hb1.mono (by simp; omega))).trans (two_below (Below.refl _ _) (by have := hb1.size; simp at this; omega) _ _)⟩
  · rw [hx] at okx
    replace okx := Lib.hid okx
    cases hy : okF c d
    · have e1 : Hid (mulN a b c d = 0 ∧ mulD a b c d = 0 ∧ mulE a b c d = 4) := Lib.hid (by unfold mulN mulD mulE; rw [hx, hy]; exact ⟨rfl, rfl, rfl⟩)
      rw [hy] at oky
      replace oky := Lib.hid oky
      clear hx hy
      go_enter Tryd.func28, Tryd.ntmps28
      go_wp2_with fail
      refine (okx.out _).mono ?_; rintro e w1 ⟨rfl, hb1⟩; obtain ⟨hc1, hf1⟩ := bat hb1 (w.heap.size + 3) (by simp)
      have s1 : w.heap.size + 3 ≤ w1.heap.size := by have := hb1.size; simp at this; omega
      go_wp2_with fail
      refine (oky.out _).mono ?_; rintro e w2 ⟨rfl, hb2⟩; obtain ⟨hc2, hf2⟩ := bat hb2 (w.heap.size + 3) s1
      go_wp2_with fail
      refine bodyPost_ret (v := .tuple #[.agg #[.int .i64 0, .int .i64 0], .int .i64 4]) (by simp [results, Tryd.results28, go_sem, hc1, hc2]) rfl ?_
      exact ⟨retF e1.out.1.symm e1.out.2.1.symm e1.out.2.2.symm, (((by go_grown : Below w.heap.size w _).trans (hb1.mono (by simp; omega))).trans (hb2.mono (by omega))).trans (two_below (Below.refl _ _) (by have := hb2.size; omega) _ _)⟩
    · rw [hy] at oky
      replace oky := Lib.hid oky
      have bx := okF_bd hx
      have bz := okF_bd hy
      obtain ⟨E, rfl⟩ := Int.eq_ofNat_of_zero_le (show 0 ≤ b by omega)
      obtain ⟨D, rfl⟩ := Int.eq_ofNat_of_zero_le (show 0 ≤ d by omega)
      have e1 : Hid (mulN a E c D = redN (decide (a < 0) != decide (c < 0)) (a.natAbs * c.natAbs) (E * D) ∧ mulD a E c D = redD (a.natAbs * c.natAbs) (E * D) ∧ mulE a E c D = redE (a.natAbs * c.natAbs) (E * D)) := Lib.hid (by
        unfold mulN mulD mulE qN qD qE; rw [hx, hy]
        simp [show ¬ ((E : Int) < 0) by omega, show ¬ ((D : Int) < 0) by omega])
      clear hx hy
      have sa := Lib.hid fun w => rsize_any a w (by omega) (by omega)
      have sc := Lib.hid fun w => rsize_any c w (by omega) (by omega)
      have ma := Lib.hid fun w => rmul_any a.natAbs c.natAbs w (by omega) (by omega)
      have mb := Lib.hid fun w => rmul_any E D w (by omega) (by omega)
      have hP := prod_lt a.natAbs c.natAbs (by omega) (by omega)
      have hQ := prod_lt E D (by omega) (by omega)
      have hQ2 : E * D * 2 < B := by
        have := Nat.mul_le_mul (show E ≤ 1152921504606846976 by omega) (show D ≤ 1152921504606846976 by omega)
        unfold B; omega
      have hQ0 : 0 < E * D := Nat.mul_pos (by omega) (by omega)
      have rd := Lib.hid fun s w => reduce_any s _ _ _ _ (a.natAbs * c.natAbs) (E * D) w (W.mk (a.natAbs * c.natAbs)) hP (W.mk (E * D)) hQ2 hQ0
      have E1 : (1 : Int) ≤ E := by omega
      have E2 : (E : Int) ≤ 1152921504606846976 := by omega
      have D1 : (1 : Int) ≤ D := by omega
      have D2 : (D : Int) ≤ 1152921504606846976 := by omega
      have wE : IntKind.u64.wrap (E : Int) = (E : Int) := wrap_nat E (by omega)
      have wD : IntKind.u64.wrap (D : Int) = (D : Int) := wrap_nat D (by omega)
      clear bx bz hP hQ hQ2 hQ0
      generalize a.natAbs * c.natAbs = P at *
      generalize E * D = Q at *
      generalize hna : a.natAbs = na at *
      generalize hnc : c.natAbs = nc at *
      clear hna hnc
      go_enter Tryd.func28, Tryd.ntmps28
      go_wp2_with fail
      refine (okx.out _).mono ?_; rintro e w1 ⟨rfl, hb1⟩; obtain ⟨hc1, hf1⟩ := bat hb1 (w.heap.size + 3) (by simp)
      have s1 : w.heap.size + 3 ≤ w1.heap.size := by have := hb1.size; simp at this; omega
      go_wp2_with fail
      refine (oky.out _).mono ?_; rintro e w2 ⟨rfl, hb2⟩; obtain ⟨hc2, hf2⟩ := bat hb2 (w.heap.size + 3) s1
      have s2 : w.heap.size + 3 ≤ w2.heap.size := by have := hb2.size; omega
      have x0 : w2.cell? ⟨w.heap.size, 0, none⟩ = some (.int .i64 a) := by rw [hc2 _ _ (by omega), hc1 _ _ (by omega)]; go_simp
      have x1 : w2.cell? ⟨w.heap.size, 1, none⟩ = some (.int .i64 E) := by rw [hc2 _ _ (by omega), hc1 _ _ (by omega)]; go_simp
      have y0 : w2.cell? ⟨w.heap.size + 1, 0, none⟩ = some (.int .i64 c) := by rw [hc2 _ _ (by omega), hc1 _ _ (by omega)]; go_simp
      have y1 : w2.cell? ⟨w.heap.size + 1, 1, none⟩ = some (.int .i64 D) := by rw [hc2 _ _ (by omega), hc1 _ _ (by omega)]; go_simp
      have t0 : w2.cell? ⟨w.heap.size + 1 + 1, 0, none⟩ = some (.int .i64 0) := by rw [hc2 _ _ (by omega), hc1 _ _ (by omega)]; go_simp
      have t1 : w2.cell? ⟨w.heap.size + 1 + 1, 1, none⟩ = some (.int .i64 0) := by rw [hc2 _ _ (by omega), hc1 _ _ (by omega)]; go_simp
      have t2 : w2.frozen? ⟨w.heap.size + 1 + 1, 0, none⟩ = false := by rw [hf2 _ _ (by omega), hf1 _ _ (by omega)]; go_simp
      have t3 : w2.frozen? ⟨w.heap.size + 1 + 1, 1, none⟩ = false := by rw [hf2 _ _ (by omega), hf1 _ _ (by omega)]; go_simp
      have b2 : Below w.heap.size w w2 := ((by go_grown : Below w.heap.size w _).trans (hb1.mono (by simp; omega))).trans (hb2.mono (by omega))
      clear hc1 hf1 hc2 hf2 hb1 hb2
      all_goals
        go_wp2_with fail
        go_region_held3 (fun w' => w'.cell? ⟨w.heap.size, 0, none⟩ = some (.int .i64 a) ∧ w'.cell? ⟨w.heap.size, 1, none⟩ = some (.int .i64 E) ∧ w'.cell? ⟨w.heap.size + 1, 0, none⟩ = some (.int .i64 c) ∧ w'.cell? ⟨w.heap.size + 1, 1, none⟩ = some (.int .i64 D))
          ((first | (go_split_ands; refine ⟨?_, ?_, ?_, ?_⟩ <;> (rw [hc3 _ _ (by omega)]; assumption)) | (go_split_ands; refine ⟨?_, ?_, ?_, ?_⟩ <;> (rw [hc4 _ _ (by omega), hc3 _ _ (by omega)]; assumption)) | (go_split_ands; refine ⟨?_, ?_, ?_, ?_⟩ <;> (rw [hc5 _ _ (by omega), hc4 _ _ (by omega), hc3 _ _ (by omega)]; assumption)) | (go_split_ands; refine ⟨?_, ?_, ?_, ?_⟩ <;> (rw [World.cell?_setCell_other _ _ _ _ (fun e => by injection e with e1; omega), World.cell?_setCell_other _ _ _ _ (fun e => by injection e with e1; omega)]; assumption)) | ((repeat' apply And.intro) <;> (go_keep; done))))
          (first | (go_at_call 41; (with_reducible refine (sa.out _).mono ?_); rintro e w9 ⟨rfl, rfl⟩) | (go_at_call 41; (with_reducible refine (sc.out _).mono ?_); rintro e w9 ⟨rfl, rfl⟩) | (go_at_call 40; (with_reducible refine (ma.out _).mono ?_); rintro e w3 ⟨rfl, hb3⟩; obtain ⟨hc3, hf3⟩ := bat hb3 (w.heap.size + 3) s2; have s3 : w.heap.size + 3 ≤ w3.heap.size := Nat.le_trans s2 hb3.size; have b3 : Below w.heap.size w w3 := b2.drew.trans (hb3.mono (by simp; omega))) | (go_at_call 40; (with_reducible refine (mb.out _).mono ?_); rintro e w4 ⟨rfl, hb4⟩; obtain ⟨hc4, hf4⟩ := bat hb4 (w.heap.size + 3) s3; have s4 : w.heap.size + 3 ≤ w4.heap.size := Nat.le_trans s3 hb4.size; have b4 : Below w.heap.size w w4 := b3.trans (hb4.mono (by omega))) | (go_at_call 62; (with_reducible refine (rd.out _ _).mono ?_); rintro e w5 ⟨rfl, hb5⟩; obtain ⟨hc5, hf5⟩ := bat hb5 (w.heap.size + 3) s4; have s5 : w.heap.size + 3 ≤ w5.heap.size := Nat.le_trans s4 hb5.size; have b5 : Below w.heap.size w w5 := b4.trans (hb5.mono (by omega))))
        go_wp2_with fail
        refine bodyPost_ret (v := .tuple #[.agg #[.int .i64 (redN (decide (a < 0) != decide (c < 0)) P Q), .int .i64 (redD P Q)], .int .i64 (redE P Q)]) (by simp [results, Tryd.results28, go_sem, hc5, hc4, hc3, t0, t1]; cases decide (a < 0) <;> cases decide (c < 0) <;> rfl) rfl ?_
        exact ⟨retF (by rw [e1.out.1]) (by rw [e1.out.2.1]) (by rw [e1.out.2.2]), two_below b5 (by omega) _ _⟩
end Go.Proofs.YtdibfecejgjfmaaDoor.Rt
