/- Plain: the product of two words by their halves. -/
import Derived.Test.YticekkjambkifaaDoorZaa
import Derived.Test.YticekkjambkifaaDoorRefE
import Derived.Test.YticekkjambkifaaDoorZrt
set_option linter.unusedVariables false
namespace CoRat

theorem split_mul (a b K : Nat) : a * b = (a / K) * (b / K) * (K * K) + ((a / K) * (b % K) + (a % K) * (b / K)) * K + (a % K) * (b % K) := by
  have h1 := Nat.div_add_mod a K
  have h2 := Nat.div_add_mod b K
  generalize a / K = x at *
  generalize a % K = y at *
  generalize b / K = u at *
  generalize b % K = v at *
  subst h1
  subst h2
  grind
theorem le_prod {x y : Nat} (hx : x < 4294967296) (hy : y < 4294967296) : x * y ≤ 18446744065119617025 := by
  have := Nat.mul_le_mul (show x ≤ 4294967295 by omega) (show y ≤ 4294967295 by omega)
  omega
structure Halves (a b P S T M q r : Nat) : Prop where
  p : P ≤ 18446744065119617025
  s : S ≤ 18446744065119617025
  t : T ≤ 18446744065119617025
  m : M ≤ 18446744065119617025
  q0 : q = S + P / 4294967296
  r0 : r = T + q % 4294967296
  q1 : q < 18446744073709551616
  r1 : r < 18446744073709551616
  h1 : M + q / 4294967296 < 18446744073709551616
  h2 : M + q / 4294967296 + r / 4294967296 < 18446744073709551616
  h : a * b / 18446744073709551616 = M + q / 4294967296 + r / 4294967296
  l : a * b % 18446744073709551616 = (r % 4294967296) * 4294967296 + P % 4294967296
theorem halves (a b : Nat) (ha : a < 18446744073709551616) (hb : b < 18446744073709551616) :
    Halves a b ((a % 4294967296) * (b % 4294967296)) ((a / 4294967296) * (b % 4294967296)) ((a % 4294967296) * (b / 4294967296)) ((a / 4294967296) * (b / 4294967296))
      ((a / 4294967296) * (b % 4294967296) + (a % 4294967296) * (b % 4294967296) / 4294967296)
      ((a % 4294967296) * (b / 4294967296) + ((a / 4294967296) * (b % 4294967296) + (a % 4294967296) * (b % 4294967296) / 4294967296) % 4294967296) := by
  have e := split_mul a b 4294967296
  have p := le_prod (x := a % 4294967296) (y := b % 4294967296) (by omega) (by omega)
  have s := le_prod (x := a / 4294967296) (y := b % 4294967296) (by omega) (by omega)
  have t := le_prod (x := a % 4294967296) (y := b / 4294967296) (by omega) (by omega)
  have m := le_prod (x := a / 4294967296) (y := b / 4294967296) (by omega) (by omega)
  have hm : a * b < 18446744073709551616 * 18446744073709551616 := Nat.mul_lt_mul_of_lt_of_le ha (Nat.le_of_lt hb) (by omega)
  generalize (a % 4294967296) * (b % 4294967296) = P at *
  generalize (a / 4294967296) * (b % 4294967296) = S at *
  generalize (a % 4294967296) * (b / 4294967296) = T at *
  generalize (a / 4294967296) * (b / 4294967296) = M at *
  generalize hX : a * b = X at *
  have e2 : X = M * 18446744073709551616 + S * 4294967296 + T * 4294967296 + P := by
    rw [e, Nat.add_mul]; omega
  clear e hm
  refine ⟨p, s, t, m, rfl, rfl, by omega, by omega, by omega, by omega, ?_, ?_⟩
  · rw [hX]; omega
  · rw [hX]; omega
theorem or_low (r p : Nat) (hp : p < 4294967296) : (r * 4294967296) ||| p = r * 4294967296 + p := by
  have := Nat.two_pow_add_eq_or_of_lt (i := 32) (b := p) hp r
  rw [Nat.mul_comm r 4294967296]
  exact this.symm
end CoRat

namespace Go.Proofs.YticekkjambkifaaDoor.Rt
open Go.RowKit CoRat

theorem u64_low (x : Nat) (hx : x < 18446744073709551616) : bits .and .u64 (x : Int) 4294967295 = ((x % 4294967296 : Nat) : Int) := by
  have h := u64_and_nat x 4294967295 hx (by omega)
  rw [show ((4294967295 : Nat) : Int) = 4294967295 from rfl] at h
  rw [h, show (4294967295 : Nat) = 2 ^ 32 - 1 from rfl, Nat.and_two_pow_sub_one_eq_mod]
theorem wrap_nat (x : Nat) (hx : x < 18446744073709551616) : IntKind.u64.wrap (x : Int) = (x : Int) := by
  rw [IntKind.wrap_u64]; omega
theorem shl32 (x : Nat) (hx : x < 18446744073709551616) : IntKind.u64.wrap ((x : Int) * 4294967296) = ((x % 4294967296 * 4294967296 : Nat) : Int) := by
  rw [IntKind.wrap_u64]; omega
theorem or32 (x y : Nat) (hx : x < 4294967296) (hy : y < 4294967296) : bits .or .u64 ((x * 4294967296 : Nat) : Int) (y : Int) = ((x * 4294967296 + y : Nat) : Int) := by
  rw [u64_or_nat _ _ (by omega) (by omega), or_low _ _ hy]

theorem div_nat (a : Nat) : (a : Int) / 4294967296 = ((a / 4294967296 : Nat) : Int) := by omega
theorem wrap_mul (x y : Nat) (h : x * y ≤ 18446744065119617025) : IntKind.u64.wrap ((x : Int) * (y : Int)) = ((x * y : Nat) : Int) := by
  rw [← Int.natCast_mul]; exact wrap_nat _ (by omega)
theorem wrap_q (s p : Nat) (h : s + p / 4294967296 < 18446744073709551616) : IntKind.u64.wrap ((s : Int) + (p : Int) / 4294967296) = ((s + p / 4294967296 : Nat) : Int) := by
  rw [div_nat, ← Int.natCast_add]; exact wrap_nat _ h
theorem wrap_r (t q : Nat) (hq : q < 18446744073709551616) (h : t + q % 4294967296 < 18446744073709551616) : IntKind.u64.wrap ((t : Int) + bits .and .u64 (q : Int) 4294967295) = ((t + q % 4294967296 : Nat) : Int) := by
  rw [u64_low q hq, ← Int.natCast_add]; exact wrap_nat _ h
structure Facts (a b : Nat) (A1 A0 B1 B0 : Int) (P S T M q r L : Nat) : Prop where
  p : IntKind.u64.wrap (A0 * B0) = (P : Int)
  s : IntKind.u64.wrap (A1 * B0) = (S : Int)
  t : IntKind.u64.wrap (A0 * B1) = (T : Int)
  m : IntKind.u64.wrap (A1 * B1) = (M : Int)
  q0 : IntKind.u64.wrap ((S : Int) + (P : Int) / 4294967296) = (q : Int)
  r0 : IntKind.u64.wrap ((T : Int) + bits .and .u64 (q : Int) 4294967295) = (r : Int)
  h1 : IntKind.u64.wrap ((M : Int) + (q : Int) / 4294967296) = ((M + q / 4294967296 : Nat) : Int)
  h2 : IntKind.u64.wrap (((M + q / 4294967296 : Nat) : Int) + (r : Int) / 4294967296) = CoRat.hi (a * b)
  l1 : IntKind.u64.wrap ((r : Int) * 4294967296) = ((r % 4294967296 * 4294967296 : Nat) : Int)
  l2 : bits .and .u64 (P : Int) 4294967295 = ((P % 4294967296 : Nat) : Int)
  l3 : bits .or .u64 ((r % 4294967296 * 4294967296 : Nat) : Int) ((P % 4294967296 : Nat) : Int) = lo (a * b)
theorem facts (a b : Nat) (ha : a < 18446744073709551616) (hb : b < 18446744073709551616) : ∃ P S T M q r L, Facts a b ((a / 4294967296 : Nat) : Int) ((a % 4294967296 : Nat) : Int) ((b / 4294967296 : Nat) : Int) ((b % 4294967296 : Nat) : Int) P S T M q r L := by
  have H := halves a b ha hb
  refine ⟨_, _, _, _, _, _, 0, wrap_mul _ _ H.p, wrap_mul _ _ H.s, wrap_mul _ _ H.t, wrap_mul _ _ H.m, wrap_q _ _ H.q1, wrap_r _ _ H.q1 H.r1, wrap_q _ _ H.h1, ?_, shl32 _ H.r1, u64_low _ (by have := H.p; omega), ?_⟩
  · rw [wrap_q _ _ H.h2]
    unfold CoRat.hi
    rw [H.h]
  · rw [or32 _ _ (by omega) (by omega)]
    unfold lo
    rw [H.l]
theorem low_nat (x : Nat) : ((x % 4294967296 : Nat) : Int) = (x : Int) % 4294967296 := by omega

set_option maxHeartbeats 1000000 in
theorem rmul_any (a b : Nat) (w : World) (ha : a < 18446744073709551616) (hb : b < 18446744073709551616) :
    Calls Tryd.prog 65 #[.int .u64 a, .int .u64 b] w fun e w' => e = .returned (.agg #[.int .u64 (CoRat.hi (a * b)), .int .u64 (lo (a * b))]) ∧ Below w.heap.size w w' := by
  obtain ⟨P, S, T, M, q, r, _, F⟩ := facts a b ha hb
  have la := u64_low a ha
  have lb := u64_low b hb
  have da := div_nat a
  have db := div_nat b
  generalize ((a / 4294967296 : Nat) : Int) = A1 at *
  generalize ((b / 4294967296 : Nat) : Int) = B1 at *
  generalize ((a % 4294967296 : Nat) : Int) = A0 at *
  generalize ((b % 4294967296 : Nat) : Int) = B0 at *
  have F := Lib.hid F
  replace la := Lib.hid la
  replace lb := Lib.hid lb
  replace da := Lib.hid da
  replace db := Lib.hid db
  go_enter Tryd.func65, Tryd.ntmps65
  go_wp2_with fail
  go_returns
  refine ⟨retW ?_ ?_, by go_grown⟩
  · rw [la.out, lb.out, da.out, db.out, F.out.p, F.out.s, F.out.t, F.out.m, F.out.q0, F.out.r0, F.out.h1, F.out.h2]
  · rw [la.out, lb.out, da.out, db.out, F.out.p, F.out.s, F.out.t, F.out.q0, F.out.r0, F.out.l1, F.out.l2, F.out.l3]

end Go.Proofs.YticekkjambkifaaDoor.Rt
