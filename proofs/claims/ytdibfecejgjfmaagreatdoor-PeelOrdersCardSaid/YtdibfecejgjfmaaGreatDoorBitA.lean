/- Plain maths on bits of numbers: how many bits are set, by adding fields side by side. -/
import Derived.Lib.TrailingZeros
import Derived.Test.YtdibfecejgjfmaaGreatDoorMem
import Derived.Laws.Bits64b
import Derived.Laws.BitsAllLaws
import Derived.Shelf.Spec.TrailingZeros
set_option linter.unusedVariables false
namespace CoBit

/-- How many of the first k bits are set. -/
def bsum : Nat → Nat → Nat
  | 0, _ => 0
  | k + 1, x => x % 2 + bsum k (x / 2)
/-- How many bits of a number of 64 bits are set. -/
def pop (x : Nat) : Nat := bsum 64 x
theorem bsum_add (a b x : Nat) : bsum (a + b) x = bsum a x + bsum b (x / 2 ^ a) := by
  induction a generalizing x with
  | zero => simp [bsum]
  | succ a ih =>
    rw [show a + 1 + b = (a + b) + 1 by omega, bsum, bsum, ih, Nat.div_div_eq_div_mul, show 2 * 2 ^ a = 2 ^ (a + 1) by rw [Nat.pow_succ]; omega]
    omega
theorem bsum_mod (a x : Nat) : bsum a (x % 2 ^ a) = bsum a x := by
  induction a generalizing x with
  | zero => simp [bsum]
  | succ a ih =>
    rw [bsum, bsum, ← ih (x / 2)]
    have h1 : x % 2 ^ (a + 1) % 2 = x % 2 := by rw [Nat.pow_succ, Nat.mul_comm]; exact Nat.mod_mul_right_mod x 2 _
    have h2 : x % 2 ^ (a + 1) / 2 = x / 2 % 2 ^ a := by rw [Nat.pow_succ, Nat.mul_comm, Nat.mod_mul_right_div_self]
    rw [h1, h2]
theorem and_split (x m : Nat) : x &&& m = (x % 256 &&& m % 256) + 256 * (x / 256 &&& m / 256) := by
  have h1 : (x &&& m) % 2 ^ 8 = (x % 2 ^ 8) &&& (m % 2 ^ 8) := Nat.and_mod_two_pow
  have h2 : (x &&& m) / 2 ^ 8 = (x / 2 ^ 8) &&& (m / 2 ^ 8) := Nat.and_div_two_pow
  have h3 := Nat.mod_add_div (x &&& m) 256
  rw [show (2 : Nat) ^ 8 = 256 from rfl] at h1 h2
  rw [← h1, ← h2]
  omega
/-- A mask of k bytes c. -/
def mk (c : Nat) : Nat → Nat
  | 0 => 0
  | k + 1 => c + 256 * mk c k
theorem mk_mod (c k : Nat) (h : c < 256) : mk c (k + 1) % 256 = c := by rw [mk]; omega
theorem mk_div (c k : Nat) (h : c < 256) : mk c (k + 1) / 256 = mk c k := by rw [mk]; omega
def g1 (b : Nat) : Nat := (b / 2 &&& 85) + (b &&& 85)
def g2 (b : Nat) : Nat := (b / 4 &&& 51) + (b &&& 51)
def g3 (b : Nat) : Nat := (b / 16 + b) % 16
def s1 (k x : Nat) : Nat := (x / 2 &&& mk 85 k) + (x &&& mk 85 k)
def s2 (k x : Nat) : Nat := (x / 4 &&& mk 51 k) + (x &&& mk 51 k)
def s3 (k x : Nat) : Nat := (x / 16 + x) &&& mk 15 k
theorem low1 : ∀ c : Fin 128, ∀ d : Fin 2, (c.val + 128 * d.val) &&& 85 = c.val &&& 85 := by decide +kernel
theorem low2 : ∀ c : Fin 64, ∀ d : Fin 4, (c.val + 64 * d.val) &&& 51 = c.val &&& 51 := by decide +kernel
theorem s1_succ (k x : Nat) : s1 (k + 1) x = g1 (x % 256) + 256 * s1 k (x / 256) := by
  unfold s1 g1
  rw [and_split (x / 2), and_split x, mk_mod 85 k (by omega), mk_div 85 k (by omega)]
  have h1 : x / 2 % 256 = x % 256 / 2 + 128 * (x / 256 % 2) := by omega
  have h2 : x / 2 / 256 = x / 256 / 2 := by omega
  have h3 := low1 ⟨x % 256 / 2, by omega⟩ ⟨x / 256 % 2, by omega⟩
  simp only at h3
  rw [h1, h2, h3]
  omega
theorem s2_succ (k x : Nat) : s2 (k + 1) x = g2 (x % 256) + 256 * s2 k (x / 256) := by
  unfold s2 g2
  rw [and_split (x / 4), and_split x, mk_mod 51 k (by omega), mk_div 51 k (by omega)]
  have h1 : x / 4 % 256 = x % 256 / 4 + 64 * (x / 256 % 4) := by omega
  have h2 : x / 4 / 256 = x / 256 / 4 := by omega
  have h3 := low2 ⟨x % 256 / 4, by omega⟩ ⟨x / 256 % 4, by omega⟩
  simp only at h3
  rw [h1, h2, h3]
  omega
/-- The nibbles of each of k bytes are at most 4. -/
def Nib : Nat → Nat → Prop
  | 0, _ => True
  | k + 1, x => x % 256 / 16 ≤ 4 ∧ x % 16 ≤ 4 ∧ Nib k (x / 256)
theorem s3_succ (k x : Nat) (h : x % 256 / 16 ≤ 4 ∧ x % 16 ≤ 4) (hq : x / 256 % 16 ≤ 4) : s3 (k + 1) x = g3 (x % 256) + 256 * s3 k (x / 256) := by
  unfold s3 g3
  rw [and_split, mk_mod 15 k (by omega), mk_div 15 k (by omega)]
  have h1 : (x / 16 + x) / 256 = x / 256 / 16 + x / 256 := by omega
  have h2 : (x / 16 + x) % 256 &&& 15 = (x / 16 + x) % 256 % 16 := Nat.and_two_pow_sub_one_eq_mod _ 4
  rw [h1, h2]
  congr 1
  omega
theorem g_bd : ∀ b : Fin 256, g1 b.val < 256 ∧ g2 (g1 b.val) < 256 ∧ g2 (g1 b.val) / 16 ≤ 4 ∧ g2 (g1 b.val) % 16 ≤ 4 ∧ g3 (g2 (g1 b.val)) = bsum 8 b.val := by decide +kernel
/-- The sums of the bytes, byte by byte. -/
def bys : Nat → Nat → Nat
  | 0, _ => 0
  | k + 1, x => bsum 8 (x % 256) + 256 * bys k (x / 256)
theorem nib_s2 (k x : Nat) (hx : x < 256 ^ k) : Nib k (s2 k (s1 k x)) ∧ (0 < k → s2 k (s1 k x) % 16 ≤ 4) := by
  induction k generalizing x with
  | zero => exact ⟨trivial, fun h => by omega⟩
  | succ k ih =>
    have hb := g_bd ⟨x % 256, by omega⟩
    simp only at hb
    have hk := ih (x / 256) (by rw [Nat.pow_succ] at hx; omega)
    rw [s1_succ, s2_succ]
    have e1 : (g1 (x % 256) + 256 * s1 k (x / 256)) % 256 = g1 (x % 256) := by omega
    have e2 : (g1 (x % 256) + 256 * s1 k (x / 256)) / 256 = s1 k (x / 256) := by omega
    rw [e1, e2]
    have e3 : (g2 (g1 (x % 256)) + 256 * s2 k (s1 k (x / 256))) % 256 = g2 (g1 (x % 256)) := by omega
    have e4 : (g2 (g1 (x % 256)) + 256 * s2 k (s1 k (x / 256))) / 256 = s2 k (s1 k (x / 256)) := by omega
    refine ⟨⟨by rw [e3]; exact hb.2.2.1, by omega, by rw [e4]; exact hk.1⟩, fun _ => by omega⟩
theorem steps (k x : Nat) (hx : x < 256 ^ k) : s3 k (s2 k (s1 k x)) = bys k x := by
  induction k generalizing x with
  | zero => simp [s3, mk, bys]
  | succ k ih =>
    have hb := g_bd ⟨x % 256, by omega⟩
    simp only at hb
    have hx' : x / 256 < 256 ^ k := by rw [Nat.pow_succ] at hx; omega
    have hk := nib_s2 k (x / 256) hx'
    have hn := (nib_s2 (k + 1) x hx).1
    rw [s1_succ, s2_succ]
    have e1 : (g1 (x % 256) + 256 * s1 k (x / 256)) % 256 = g1 (x % 256) := by omega
    have e2 : (g1 (x % 256) + 256 * s1 k (x / 256)) / 256 = s1 k (x / 256) := by omega
    rw [e1, e2]
    have e3 : (g2 (g1 (x % 256)) + 256 * s2 k (s1 k (x / 256))) % 256 = g2 (g1 (x % 256)) := by omega
    have e4 : (g2 (g1 (x % 256)) + 256 * s2 k (s1 k (x / 256))) / 256 = s2 k (s1 k (x / 256)) := by omega
    rw [s3_succ k _ ⟨by rw [e3]; exact hb.2.2.1, by omega⟩, e3, e4, ih (x / 256) hx', hb.2.2.2.2, bys]
    rw [e4]
    rcases Nat.eq_zero_or_pos k with h0 | h0
    · subst h0
      have : s2 0 (s1 0 (x / 256)) = 0 := by simp [s2, mk]
      omega
    · exact hk.2 h0
theorem bsum_le (k x : Nat) : bsum k x ≤ k := by
  induction k generalizing x with
  | zero => simp [bsum]
  | succ k ih => rw [bsum]; have := ih (x / 2); omega
theorem div_of {a r m q : Nat} (h : a = r + m * q) (hr : r < m) : a / m = q := by
  rw [h, Nat.add_mul_div_left _ _ (by omega), Nat.div_eq_of_lt hr, Nat.zero_add]
theorem two_bytes {c0 c1 q0 q1 q2 : Nat} (h0 : q0 = c0 + 256 * q1) (h1 : q1 = c1 + 256 * q2) : q0 = (c0 + 256 * c1) + 65536 * q2 := by omega
theorem four_bytes {a b q0 q2 q4 : Nat} (h0 : q0 = a + 65536 * q2) (h2 : q2 = b + 65536 * q4) : q0 = (a + 65536 * b) + 4294967296 * q4 := by omega
theorem pair {a b m r s p q : Nat} (ha : a = r + m * p) (hb : b = s + m * q) : a + b = (r + s) + m * (p + q) := by rw [ha, hb, Nat.mul_add]; omega
theorem add_div {a b m r s p q : Nat} (ha : a = r + m * p) (hb : b = s + m * q) (hrs : r + s < m) : (a + b) / m = p + q := div_of (r := r + s) (by rw [ha, hb, Nat.mul_add]; omega) hrs
theorem sum8 (c0 c1 c2 c3 c4 c5 c6 c7 q0 q1 q2 q3 q4 q5 q6 q7 : Nat) (b0 : c0 ≤ 8) (b1 : c1 ≤ 8) (b2 : c2 ≤ 8) (b3 : c3 ≤ 8) (b4 : c4 ≤ 8) (b5 : c5 ≤ 8) (b6 : c6 ≤ 8) (b7 : c7 ≤ 8)
    (h0 : q0 = c0 + 256 * q1) (h1 : q1 = c1 + 256 * q2) (h2 : q2 = c2 + 256 * q3) (h3 : q3 = c3 + 256 * q4) (h4 : q4 = c4 + 256 * q5) (h5 : q5 = c5 + 256 * q6) (h6 : q6 = c6 + 256 * q7) (h7 : q7 = c7) :
    q0 + q1 < 18446744073709551616 ∧ q0 / 256 = q1 ∧ (q0 + q1) / 65536 = q2 + q3 ∧ q0 + q1 + (q2 + q3) < 18446744073709551616 ∧ (q0 + q1 + (q2 + q3)) / 4294967296 = (q4 + q5) + (q6 + q7) ∧ q0 + q1 + (q2 + q3) + ((q4 + q5) + (q6 + q7)) < 9223372036854775808 ∧ (q0 + q1 + (q2 + q3) + ((q4 + q5) + (q6 + q7))) % 128 = c0 + c1 + c2 + c3 + c4 + c5 + c6 + c7 := by
  have u7 : q7 ≤ 8 := by omega
  have u6 : q6 ≤ 2056 := by omega
  have u5 : q5 ≤ 526344 := by omega
  have u4 : q4 ≤ 134744072 := by omega
  have u3 : q3 ≤ 34494482440 := by omega
  have u2 : q2 ≤ 8830587504648 := by omega
  have u1 : q1 ≤ 2260630401189896 := by omega
  have u0 : q0 ≤ 578721382704613384 := by omega
  have t0 := two_bytes h0 h1
  have t1 := two_bytes h1 h2
  have t2 := two_bytes h2 h3
  have t3 := two_bytes h3 h4
  have t4 := two_bytes h4 h5
  have t5 := two_bytes h5 h6
  have e0 : q0 / 256 = q1 := div_of h0 (by omega)
  have e1 : (q0 + q1) / 65536 = q2 + q3 := add_div t0 t1 (by omega)
  have f0 := four_bytes t0 t2
  have f1 := four_bytes t1 t3
  have f2 := four_bytes t2 t4
  have f3 := four_bytes t3 t5
  have k0 := pair f0 f1
  have k1 := pair f2 f3
  have e2 : (q0 + q1 + (q2 + q3)) / 4294967296 = (q4 + q5) + (q6 + q7) := by
    refine add_div k0 k1 ?_
    clear h0 h1 h2 h3 h4 h5 h6 h7 t0 t1 t2 t3 t4 t5 f0 f1 f2 f3 k0 k1 e0 e1 u0 u1 u2 u3 u4 u5 u6 u7
    omega
  clear t0 t1 t2 t3 t4 t5 f0 f1 f2 f3 k0 k1
  have hm : (q0 + q1 + (q2 + q3) + ((q4 + q5) + (q6 + q7))) % 128 = c0 + c1 + c2 + c3 + c4 + c5 + c6 + c7 := by
    have v0 : q0 % 128 = c0 := by clear h1 h2 h3 h4 h5 h6 h7; omega
    have v1 : q1 % 128 = c1 := by clear h0 h2 h3 h4 h5 h6 h7; omega
    have v2 : q2 % 128 = c2 := by clear h0 h1 h3 h4 h5 h6 h7; omega
    have v3 : q3 % 128 = c3 := by clear h0 h1 h2 h4 h5 h6 h7; omega
    have v4 : q4 % 128 = c4 := by clear h0 h1 h2 h3 h5 h6 h7; omega
    have v5 : q5 % 128 = c5 := by clear h0 h1 h2 h3 h4 h6 h7; omega
    have v6 : q6 % 128 = c6 := by clear h0 h1 h2 h3 h4 h5 h7; omega
    have v7 : q7 % 128 = c7 := by clear h0 h1 h2 h3 h4 h5 h6; omega
    clear h0 h1 h2 h3 h4 h5 h6 h7 e0 e1 e2 u0 u1 u2 u3 u4 u5 u6 u7
    omega
  clear h0 h1 h2 h3 h4 h5 h6 h7
  exact ⟨by omega, e0, e1, by omega, e2, by omega, hm⟩
theorem pop_bytes (x : Nat) : pop x = bsum 8 (x % 256) + bsum 8 (x / 256 % 256) + bsum 8 (x / 256 / 256 % 256) + bsum 8 (x / 256 / 256 / 256 % 256) + bsum 8 (x / 256 / 256 / 256 / 256 % 256) + bsum 8 (x / 256 / 256 / 256 / 256 / 256 % 256) + bsum 8 (x / 256 / 256 / 256 / 256 / 256 / 256 % 256) + bsum 8 (x / 256 / 256 / 256 / 256 / 256 / 256 / 256 % 256) := by
  have e : ∀ k z, bsum (8 + k) z = bsum 8 (z % 256) + bsum k (z / 256) := fun k z => by
    rw [bsum_add, ← bsum_mod 8 z]
  rw [pop, show (64 : Nat) = 8 + (8 + (8 + (8 + (8 + (8 + (8 + (8 + 0))))))) from rfl, e, e, e, e, e, e, e, e]
  generalize bsum 8 (x % 256) = c0
  generalize bsum 8 (x / 256 % 256) = c1
  generalize bsum 8 (x / 256 / 256 % 256) = c2
  generalize bsum 8 (x / 256 / 256 / 256 % 256) = c3
  generalize bsum 8 (x / 256 / 256 / 256 / 256 % 256) = c4
  generalize bsum 8 (x / 256 / 256 / 256 / 256 / 256 % 256) = c5
  generalize bsum 8 (x / 256 / 256 / 256 / 256 / 256 / 256 % 256) = c6
  generalize bsum 8 (x / 256 / 256 / 256 / 256 / 256 / 256 / 256 % 256) = c7
  rw [bsum]
  omega
/-- The number of set bits, as math/bits counts it. -/
theorem pop_eq (x : Nat) : ∃ z1 z2 z3 : Nat, z1 = bys 8 x + bys 8 x / 256 ∧ z1 < 18446744073709551616 ∧ z2 = z1 + z1 / 65536 ∧ z2 < 18446744073709551616 ∧ z3 = z2 + z2 / 4294967296 ∧ z3 < 9223372036854775808 ∧ z3 % 128 = pop x := by
  have h := sum8 _ _ _ _ _ _ _ _ (bys 8 x) (bys 7 (x / 256)) (bys 6 (x / 256 / 256)) (bys 5 (x / 256 / 256 / 256)) (bys 4 (x / 256 / 256 / 256 / 256)) (bys 3 (x / 256 / 256 / 256 / 256 / 256)) (bys 2 (x / 256 / 256 / 256 / 256 / 256 / 256)) (bys 1 (x / 256 / 256 / 256 / 256 / 256 / 256 / 256))
    (bsum_le 8 _) (bsum_le 8 _) (bsum_le 8 _) (bsum_le 8 _) (bsum_le 8 _) (bsum_le 8 _) (bsum_le 8 _) (bsum_le 8 _) (by rw [bys]) (by rw [bys]) (by rw [bys]) (by rw [bys]) (by rw [bys]) (by rw [bys]) (by rw [bys]) (by rw [bys, bys, Nat.mul_zero, Nat.add_zero])
  rw [← pop_bytes] at h
  obtain ⟨h1, h2, h3, h4, h5, h6, h7⟩ := h
  exact ⟨_, _, _, rfl, by rw [h2]; exact h1, rfl, by rw [h2, h3]; exact h4, rfl, by rw [h2, h3, h5]; exact h6, by rw [h2, h3, h5]; exact h7⟩
theorem mk85 : mk 85 8 = 6148914691236517205 := by decide +kernel
theorem mk51 : mk 51 8 = 3689348814741910323 := by decide +kernel
theorem mk15 : mk 15 8 = 1085102592571150095 := by decide +kernel
theorem s_bd (x : Nat) (hx : x < 18446744073709551616) : (x / 2 &&& 6148914691236517205) + (x &&& 6148914691236517205) = s1 8 x ∧ (s1 8 x / 4 &&& 3689348814741910323) + (s1 8 x &&& 3689348814741910323) = s2 8 (s1 8 x) ∧
    (s2 8 (s1 8 x) / 16 + s2 8 (s1 8 x)) &&& 1085102592571150095 = bys 8 x := by
  rw [← steps 8 x (by rw [show (256 : Nat) ^ 8 = 18446744073709551616 by decide +kernel]; exact hx)]
  generalize hs : s1 8 x = a
  generalize hb : s2 8 a = b
  rw [← mk85, ← mk51, ← mk15, ← hs, ← hb]
  exact ⟨by rw [s1], by rw [s2, hs], by rw [s3]⟩
/-- The set of one node. -/
def bitN (v : Nat) : Nat := 2 ^ v
theorem and_le {a b : Nat} : a &&& b ≤ b := Nat.and_le_right
end CoBit

namespace Go.Proofs.YtdibfecejgjfmaaGreatDoor
open Go.RowKit

theorem ofInt_i64n (a : Nat) (ha : a < 9223372036854775808) : (BitVec.ofInt 64 (a : Int)).toNat = a := by
  rw [BitVec.ofInt_natCast, BitVec.toNat_ofNat]; exact Nat.mod_eq_of_lt (by omega)
theorem i64_and_nat (a b : Nat) (ha : a < 9223372036854775808) (hb : b < 9223372036854775808) : bits .and .i64 (a : Int) (b : Int) = ((a &&& b : Nat) : Int) := by
  have hx : a &&& b < 2 ^ 63 := Nat.and_lt_two_pow _ (by omega)
  show IntKind.i64.wrap ((BitVec.ofInt 64 (a : Int) &&& BitVec.ofInt 64 (b : Int)).toNat : Int) = _
  rw [BitVec.toNat_and, ofInt_i64n a ha, ofInt_i64n b hb, IntKind.wrap_i64]
  omega
theorem u64_in (a : Nat) (h : a < 18446744073709551616) : IntKind.u64.wrap (a : Int) = (a : Int) := by rw [IntKind.wrap_u64]; omega
theorem and_div_c (x c k : Nat) (hx : x < 18446744073709551616) (hc : c < 18446744073709551616) : bits .and .u64 ((x : Int) / (k : Nat)) (c : Int) = ((x / k &&& c : Nat) : Int) := by
  have h : x / k ≤ x := Nat.div_le_self _ _
  rw [← Int.natCast_ediv, bits_and_u64_nat _ _ (by omega) hc]

/-- The values that OnesCount64 goes through. -/
structure Pops (x a b z1 z2 z3 : Nat) (y p : Nat) : Prop where
  e1 : IntKind.u64.wrap (bits .and .u64 ((x : Int) / 2) 6148914691236517205 + bits .and .u64 (x : Int) 6148914691236517205) = (a : Int)
  e2 : IntKind.u64.wrap (bits .and .u64 ((a : Int) / 4) 3689348814741910323 + bits .and .u64 (a : Int) 3689348814741910323) = (b : Int)
  e3 : bits .and .u64 (IntKind.u64.wrap ((b : Int) / 16 + (b : Int))) 1085102592571150095 = (y : Int)
  e4 : IntKind.u64.wrap ((y : Int) + (y : Int) / 256) = (z1 : Int)
  e5 : IntKind.u64.wrap ((z1 : Int) + (z1 : Int) / 65536) = (z2 : Int)
  e6 : IntKind.u64.wrap ((z2 : Int) + (z2 : Int) / 4294967296) = (z3 : Int)
  e7 : IntKind.i64.wrap (z3 : Int) = (z3 : Int)
  e8 : bits .and .i64 (z3 : Int) 127 = (p : Int)
theorem s2_bd (x : Nat) (hx : x < 18446744073709551616) : CoBit.s1 8 x < 18446744073709551616 ∧ CoBit.s2 8 (CoBit.s1 8 x) < 18446744073709551616 ∧ CoBit.s2 8 (CoBit.s1 8 x) / 16 + CoBit.s2 8 (CoBit.s1 8 x) < 18446744073709551616 := by
  obtain ⟨h1, h2, _⟩ := CoBit.s_bd x hx
  have a1 : x / 2 &&& 6148914691236517205 ≤ 6148914691236517205 := Nat.and_le_right
  have a2 : x &&& 6148914691236517205 ≤ 6148914691236517205 := Nat.and_le_right
  rw [← h2]
  generalize CoBit.s1 8 x = a at *
  have a3 : a / 4 &&& 3689348814741910323 ≤ 3689348814741910323 := Nat.and_le_right
  have a4 : a &&& 3689348814741910323 ≤ 3689348814741910323 := Nat.and_le_right
  generalize a / 4 &&& 3689348814741910323 = u at *
  generalize a &&& 3689348814741910323 = v at *
  omega
theorem pops (x : Nat) (hx : x < 18446744073709551616) : ∃ a b z1 z2 z3 y, Pops x a b z1 z2 z3 y (CoBit.pop x) := by
  obtain ⟨h1, h2, h3⟩ := CoBit.s_bd x hx
  obtain ⟨b1, b2, b3⟩ := s2_bd x hx
  obtain ⟨z1, z2, z3, g1, l1, g2, l2, g3, l3, g4⟩ := CoBit.pop_eq x
  have m1 := and_div_c x 6148914691236517205 2 hx (by omega)
  have m2 := bits_and_u64_nat x 6148914691236517205 hx (by omega)
  have m3 := and_div_c (CoBit.s1 8 x) 3689348814741910323 4 b1 (by omega)
  have m4 := bits_and_u64_nat (CoBit.s1 8 x) 3689348814741910323 b1 (by omega)
  have m5 := bits_and_u64_nat (CoBit.s2 8 (CoBit.s1 8 x) / 16 + CoBit.s2 8 (CoBit.s1 8 x)) 1085102592571150095 b3 (by omega)
  refine ⟨CoBit.s1 8 x, CoBit.s2 8 (CoBit.s1 8 x), z1, z2, z3, CoBit.bys 8 x, ⟨?_, ?_, ?_, ?_, ?_, ?_, ?_, ?_⟩⟩
  · refine Eq.trans (congrArg _ (congr (congrArg _ m1) m2)) ?_
    rw [← Int.natCast_add, h1, u64_in _ b1]
  · refine Eq.trans (congrArg _ (congr (congrArg _ m3) m4)) ?_
    rw [← Int.natCast_add, h2, u64_in _ b2]
  · rw [show ((CoBit.s2 8 (CoBit.s1 8 x) : Nat) : Int) / 16 + (CoBit.s2 8 (CoBit.s1 8 x) : Nat) = ((CoBit.s2 8 (CoBit.s1 8 x) / 16 + CoBit.s2 8 (CoBit.s1 8 x) : Nat) : Int) by rw [Int.natCast_add, Int.natCast_ediv]; rfl, u64_in _ b3]
    exact m5.trans (congrArg _ h3)
  · rw [show ((CoBit.bys 8 x : Nat) : Int) + (CoBit.bys 8 x : Nat) / 256 = ((CoBit.bys 8 x + CoBit.bys 8 x / 256 : Nat) : Int) by rw [Int.natCast_add, Int.natCast_ediv]; rfl, ← g1, u64_in _ l1]
  · rw [show ((z1 : Nat) : Int) + (z1 : Nat) / 65536 = ((z1 + z1 / 65536 : Nat) : Int) by rw [Int.natCast_add, Int.natCast_ediv]; rfl, ← g2, u64_in _ l2]
  · rw [show ((z2 : Nat) : Int) + (z2 : Nat) / 4294967296 = ((z2 + z2 / 4294967296 : Nat) : Int) by rw [Int.natCast_add, Int.natCast_ediv]; rfl, ← g3, u64_in _ (by omega)]
  · exact IntWalk.i64_in _ ⟨by omega, by omega⟩
  · have := i64_and_nat z3 127 l3 (by omega)
    refine this.trans (congrArg _ ?_)
    rw [← g4]
    exact Nat.and_two_pow_sub_one_eq_mod z3 7

set_option maxHeartbeats 1000000 in
theorem ones_any (x : Nat) (hx : x < 18446744073709551616) (w : World) :
    Calls Tryz.prog 74 #[.int .u64 x] w fun e w' => e = .returned (.int .i64 (CoBit.pop x : Nat)) ∧ w = w' := by
  obtain ⟨a, b, z1, z2, z3, y, e1, e2, e3, e4, e5, e6, e7, e8⟩ := pops x hx
  generalize CoBit.pop x = p at *
  go_enter Tryz.func74, Tryz.ntmps74
  go_wp2
  go_ret
  exact ⟨rfl, rfl⟩

/-- The table of math/bits is in its variable. -/
def Tab (w : World) : Prop := TabAt 0 Lib.deBruijn64tab w
theorem Tab.below {w w' : World} {b : Nat} (h : Tab w) (hb : Below b w w') (hB : 0 < b) : Tab w' := fun j hj => (hb.cell (p := ⟨0, j, none⟩) hB).trans (h j hj)

set_option maxHeartbeats 1000000 in
theorem tz_core (x k idx : Nat) (w : World) (hx0 : ((x : Int) == 0) = false)
    (key : IntKind.u64.wrap (bits BinOp.and IntKind.u64 (x : Int) (IntKind.u64.wrap (-(x : Int))) * 285870213051353865) / 288230376151711744 = (idx : Int))
    (hi : idx < 64) (hk : k < 64) (hcell : w.cell? ⟨0, idx, none⟩ = some (.int .u8 k)) :
    Calls Tryz.prog 75 #[.int .u64 x] w fun e w' => e = .returned (.int .i64 k) ∧ w = w' := by
  go_enter Tryz.func75, Tryz.ntmps75
  go_wp2_with (simp only [key])
  go_ret
  exact ⟨rfl, rfl⟩
theorem tz_any (x : Nat) (hx0 : 0 < x) (hx : x < 18446744073709551616) (w : World) (hT : Tab w) :
    Calls Tryz.prog 75 #[.int .u64 x] w fun e w' => e = .returned (.int .i64 (Lib.ctz 64 x : Nat)) ∧ w = w' := by
  obtain ⟨hlow, hk⟩ := Lib.lowest_bit 64 x (by omega) hx
  obtain ⟨hi, htab⟩ := Lib.deBruijn64_at _ hk
  have hcell := hT _ hi
  rw [htab] at hcell
  exact tz_core x _ _ w (by simp; omega) (tz64_key x _ hx (by omega) hlow) hi hk hcell
theorem ctz_lt (x : Nat) (hx0 : 0 < x) (hx : x < 18446744073709551616) : Lib.ctz 64 x < 64 := (Lib.lowest_bit 64 x (by omega) hx).2

set_option maxHeartbeats 400000 in
theorem count_any (x : Nat) (hx : x < 18446744073709551616) (w : World) :
    Calls Tryz.prog 54 #[.int .u64 x] w fun e w' => e = .returned (.int .i64 (CoBit.pop x : Nat)) ∧ w = w' := by
  go_enter Tryz.func54, Tryz.ntmps54
  go_wp2_with fail
  refine (ones_any x hx _).mono ?_
  rintro e w' ⟨rfl, rfl⟩
  go_wp2
  go_ret
  exact ⟨rfl, rfl⟩
set_option maxHeartbeats 400000 in
theorem least_any (x : Nat) (hx0 : 0 < x) (hx : x < 18446744073709551616) (w : World) (hT : Tab w) :
    Calls Tryz.prog 55 #[.int .u64 x] w fun e w' => e = .returned (.int .i64 (Lib.ctz 64 x : Nat)) ∧ w = w' := by
  go_enter Tryz.func55, Tryz.ntmps55
  go_wp2_with fail
  refine (tz_any x hx0 hx _ hT).mono ?_
  rintro e w' ⟨rfl, rfl⟩
  go_wp2
  go_ret
  exact ⟨rfl, rfl⟩
theorem two_pow_lt {v : Nat} (h : v < 64) : 2 ^ v < 18446744073709551616 := by
  have := Nat.pow_lt_pow_right (a := 2) (by omega) h
  simpa using this
theorem wrap_pow {v : Nat} (h : v < 64) : IntKind.u64.wrap ((2 : Int) ^ v) = ((2 ^ v : Nat) : Int) := by
  rw [show (2 : Int) ^ v = ((2 ^ v : Nat) : Int) by rw [Int.natCast_pow]; rfl]
  exact u64_in _ (two_pow_lt h)
theorem wrap_pow1 {v : Nat} (h : v < 64) : IntKind.u64.wrap (IntKind.u64.wrap ((2 : Int) ^ v) - 1) = ((2 ^ v - 1 : Nat) : Int) := by
  have h1 := two_pow_lt h
  have h2 : 0 < 2 ^ v := Nat.two_pow_pos v
  rw [wrap_pow h, show ((2 ^ v : Nat) : Int) - 1 = ((2 ^ v - 1 : Nat) : Int) by omega]
  exact u64_in _ (by omega)
set_option maxHeartbeats 400000 in
theorem bit_any (v : Nat) (hv : v < 64) (w : World) :
    Calls Tryz.prog 38 #[.int .i64 v] w fun e w' => e = .returned (.int .u64 (CoBit.bitN v : Nat)) ∧ w = w' := by
  have h2 := two_pow_lt hv
  go_enter Tryz.func38, Tryz.ntmps38
  go_wp2
  go_ret
  exact ⟨congrArg Ending.returned (congrArg (Value.int .u64) (wrap_pow hv)), rfl⟩
set_option maxHeartbeats 400000 in
theorem all_any (n : Nat) (hn : n ≤ 64) (w : World) :
    Calls Tryz.prog 36 #[.int .i64 n] w fun e w' => e = .returned (.int .u64 (2 ^ n - 1 : Nat)) ∧ w = w' := by
  by_cases h0 : n = 0
  · subst h0
    go_enter Tryz.func36, Tryz.ntmps36
    go_wp2
    go_ret
    exact ⟨rfl, rfl⟩
  · by_cases h1 : n = 64
    · subst h1
      go_enter Tryz.func36, Tryz.ntmps36
      go_wp2
      go_ret
      exact ⟨rfl, rfl⟩
    · have h2 := two_pow_lt (v := n) (by omega)
      go_enter Tryz.func36, Tryz.ntmps36
      go_wp2
      go_ret
      exact ⟨congrArg Ending.returned (congrArg (Value.int .u64) (wrap_pow1 (by omega))), rfl⟩
end Go.Proofs.YtdibfecejgjfmaaGreatDoor
