/- Plain maths on bits of numbers: how many bits are set, by adding fields side by side. -/
import Derived.Lib.TrailingZeros
set_option linter.unusedVariables false
namespace CoBit

/-- How many of the first k bits are set. -/
def bsum : Nat → Nat → Nat
  | 0, _ => 0
  | k + 1, x => x % 2 + bsum k (x / 2)
/-- How many bits of a number of 64 bits are set. -/
def pop (x : Nat) : Nat := bsum 64 x
theorem bsum_add (a b x : Nat) : bsum (a + b) x = bsum a x + bsum b (x / 2 ^ a) := by
  induction a generalizing x with
  | zero => simp [bsum]
  | succ a ih =>
    rw [show a + 1 + b = (a + b) + 1 by omega, bsum, bsum, ih, Nat.div_div_eq_div_mul, show 2 * 2 ^ a = 2 ^ (a + 1) by rw [Nat.pow_succ]; omega]
    omega
theorem bsum_mod (a x : Nat) : bsum a (x % 2 ^ a) = bsum a x := by
  induction a generalizing x with
  | zero => simp [bsum]
  | succ a ih =>
    rw [bsum, bsum, ← ih (x / 2)]
    have h1 : x % 2 ^ (a + 1) % 2 = x % 2 := by rw [Nat.pow_succ, Nat.mul_comm]; exact Nat.mod_mul_right_mod x 2 _
    have h2 : x % 2 ^ (a + 1) / 2 = x / 2 % 2 ^ a := by rw [Nat.pow_succ, Nat.mul_comm, Nat.mod_mul_right_div_self]
    rw [h1, h2]
theorem and_split (x m : Nat) : x &&& m = (x % 256 &&& m % 256) + 256 * (x / 256 &&& m / 256) := by
  have h1 : (x &&& m) % 2 ^ 8 = (x % 2 ^ 8) &&& (m % 2 ^ 8) := Nat.and_mod_two_pow
  have h2 : (x &&& m) / 2 ^ 8 = (x / 2 ^ 8) &&& (m / 2 ^ 8) := Nat.and_div_two_pow
  have h3 := Nat.mod_add_div (x &&& m) 256
  rw [show (2 : Nat) ^ 8 = 256 from rfl] at h1 h2
  rw [← h1, ← h2]
  omega
/-- A mask of k bytes c. -/
def mk (c : Nat) : Nat → Nat
  | 0 => 0
  | k + 1 => c + 256 * mk c k
theorem mk_mod (c k : Nat) (h : c < 256) : mk c (k + 1) % 256 = c := by rw [mk]; omega
theorem mk_div (c k : Nat) (h : c < 256) : mk c (k + 1) / 256 = mk c k := by rw [mk]; omega
def g1 (b : Nat) : Nat := (b / 2 &&& 85) + (b &&& 85)
def g2 (b : Nat) : Nat := (b / 4 &&& 51) + (b &&& 51)
def g3 (b : Nat) : Nat := (b / 16 + b) % 16
def s1 (k x : Nat) : Nat := (x / 2 &&& mk 85 k) + (x &&& mk 85 k)
def s2 (k x : Nat) : Nat := (x / 4 &&& mk 51 k) + (x &&& mk 51 k)
def s3 (k x : Nat) : Nat := (x / 16 + x) &&& mk 15 k
theorem low1 : ∀ c : Fin 128, ∀ d : Fin 2, (c.val + 128 * d.val) &&& 85 = c.val &&& 85 := by decide +kernel
theorem low2 : ∀ c : Fin 64, ∀ d : Fin 4, (c.val + 64 * d.val) &&& 51 = c.val &&& 51 := by decide +kernel
theorem s1_succ (k x : Nat) : s1 (k + 1) x = g1 (x % 256) + 256 * s1 k (x / 256) := by
  unfold s1 g1
  rw [and_split (x / 2), and_split x, mk_mod 85 k (by omega), mk_div 85 k (by omega)]
  have h1 : x / 2 % 256 = x % 256 / 2 + 128 * (x / 256 % 2) := by omega
  have h2 : x / 2 / 256 = x / 256 / 2 := by omega
  have h3 := low1 ⟨x % 256 / 2, by omega⟩ ⟨x / 256 % 2, by omega⟩
  simp only at h3
  rw [h1, h2, h3]
  omega
theorem s2_succ (k x : Nat) : s2 (k + 1) x = g2 (x % 256) + 256 * s2 k (x / 256) := by
  unfold s2 g2
  rw [and_split (x / 4), and_split x, mk_mod 51 k (by omega), mk_div 51 k (by omega)]
  have h1 : x / 4 % 256 = x % 256 / 4 + 64 * (x / 256 % 4) := by omega
  have h2 : x / 4 / 256 = x / 256 / 4 := by omega
  have h3 := low2 ⟨x % 256 / 4, by omega⟩ ⟨x / 256 % 4, by omega⟩
  simp only at h3
  rw [h1, h2, h3]
  omega
/-- The nibbles of each of k bytes are at most 4. -/
def Nib : Nat → Nat → Prop
  | 0, _ => True
  | k + 1, x => x % 256 / 16 ≤ 4 ∧ x % 16 ≤ 4 ∧ Nib k (x / 256)
theorem s3_succ (k x : Nat) (h : x % 256 / 16 ≤ 4 ∧ x % 16 ≤ 4) (hq : x / 256 % 16 ≤ 4) : s3 (k + 1) x = g3 (x % 256) + 256 * s3 k (x / 256) := by
  unfold s3 g3
  rw [and_split, mk_mod 15 k (by omega), mk_div 15 k (by omega)]
  have h1 : (x / 16 + x) / 256 = x / 256 / 16 + x / 256 := by omega
  have h2 : (x / 16 + x) % 256 &&& 15 = (x / 16 + x) % 256 % 16 := Nat.and_two_pow_sub_one_eq_mod _ 4
  rw [h1, h2]
  congr 1
  omega
theorem g_bd : ∀ b : Fin 256, g1 b.val < 256 ∧ g2 (g1 b.val) < 256 ∧ g2 (g1 b.val) / 16 ≤ 4 ∧ g2 (g1 b.val) % 16 ≤ 4 ∧ g3 (g2 (g1 b.val)) = bsum 8 b.val := by decide +kernel
/-- The sums of the bytes, byte by byte. -/
def bys : Nat → Nat → Nat
  | 0, _ => 0
  | k + 1, x => bsum 8 (x % 256) + 256 * bys k (x / 256)
theorem nib_s2 (k x : Nat) (hx : x < 256 ^ k) : Nib k (s2 k (s1 k x)) ∧ (0 < k → s2 k (s1 k x) % 16 ≤ 4) := by
  induction k generalizing x with
  | zero => exact ⟨trivial, fun h => by omega⟩
  | succ k ih =>
    have hb := g_bd ⟨x % 256, by omega⟩
    simp only at hb
    have hk := ih (x / 256) (by rw [Nat.pow_succ] at hx; omega)
    rw [s1_succ, s2_succ]
    have e1 : (g1 (x % 256) + 256 * s1 k (x / 256)) % 256 = g1 (x % 256) := by omega
    have e2 : (g1 (x % 256) + 256 * s1 k (x / 256)) / 256 = s1 k (x / 256) := by omega
    rw [e1, e2]
    have e3 : (g2 (g1 (x % 256)) + 256 * s2 k (s1 k (x / 256))) % 256 = g2 (g1 (x % 256)) := by omega
    have e4 : (g2 (g1 (x % 256)) + 256 * s2 k (s1 k (x / 256))) / 256 = s2 k (s1 k (x / 256)) := by omega
    refine ⟨⟨by rw [e3]; exact hb.2.2.1, by omega, by rw [e4]; exact hk.1⟩, fun _ => by omega⟩
theorem steps (k x : Nat) (hx : x < 256 ^ k) : s3 k (s2 k (s1 k x)) = bys k x := by
  induction k generalizing x with
  | zero => simp [s3, mk, bys]
  | succ k ih =>
    have hb := g_bd ⟨x % 256, by omega⟩
    simp only at hb
    have hx' : x / 256 < 256 ^ k := by rw [Nat.pow_succ] at hx; omega
    have hk := nib_s2 k (x / 256) hx'
    have hn := (nib_s2 (k + 1) x hx).1
    rw [s1_succ, s2_succ]
    have e1 : (g1 (x % 256) + 256 * s1 k (x / 256)) % 256 = g1 (x % 256) := by omega
    have e2 : (g1 (x % 256) + 256 * s1 k (x / 256)) / 256 = s1 k (x / 256) := by omega
    rw [e1, e2]
    have e3 : (g2 (g1 (x % 256)) + 256 * s2 k (s1 k (x / 256))) % 256 = g2 (g1 (x % 256)) := by omega
    have e4 : (g2 (g1 (x % 256)) + 256 * s2 k (s1 k (x / 256))) / 256 = s2 k (s1 k (x / 256)) := by omega
    rw [s3_succ k _ ⟨by rw [e3]; exact hb.2.2.1, by omega⟩, e3, e4, ih (x / 256) hx', hb.2.2.2.2, bys]
    rw [e4]
    rcases Nat.eq_zero_or_pos k with h0 | h0
    · subst h0
      have : s2 0 (s1 0 (x / 256)) = 0 := by simp [s2, mk]
      omega
    · exact hk.2 h0
theorem bsum_le (k x : Nat) : bsum k x ≤ k := by
  induction k generalizing x with
  | zero => simp [bsum]
  | succ k ih => rw [bsum]; have := ih (x / 2); omega
theorem div_of {a r m q : Nat} (h : a = r + m * q) (hr : r < m) : a / m = q := by
  rw [h, Nat.add_mul_div_left _ _ (by omega), Nat.div_eq_of_lt hr, Nat.zero_add]
theorem two_bytes {c0 c1 q0 q1 q2 : Nat} (h0 : q0 = c0 + 256 * q1) (h1 : q1 = c1 + 256 * q2) : q0 = (c0 + 256 * c1) + 65536 * q2 := by omega
theorem four_bytes {a b q0 q2 q4 : Nat} (h0 : q0 = a + 65536 * q2) (h2 : q2 = b + 65536 * q4) : q0 = (a + 65536 * b) + 4294967296 * q4 := by omega
theorem pair {a b m r s p q : Nat} (ha : a = r + m * p) (hb : b = s + m * q) : a + b = (r + s) + m * (p + q) := by rw [ha, hb, Nat.mul_add]; omega
theorem add_div {a b m r s p q : Nat} (ha : a = r + m * p) (hb : b = s + m * q) (hrs : r + s < m) : (a + b) / m = p + q := div_of (r := r + s) (by rw [ha, hb, Nat.mul_add]; omega) hrs
theorem sum8 (c0 c1 c2 c3 c4 c5 c6 c7 q0 q1 q2 q3 q4 q5 q6 q7 : Nat) (b0 : c0 ≤ 8) (b1 : c1 ≤ 8) (b2 : c2 ≤ 8) (b3 : c3 ≤ 8) (b4 : c4 ≤ 8) (b5 : c5 ≤ 8) (b6 : c6 ≤ 8) (b7 : c7 ≤ 8)
    (h0 : q0 = c0 + 256 * q1) (h1 : q1 = c1 + 256 * q2) (h2 : q2 = c2 + 256 * q3) (h3 : q3 = c3 + 256 * q4) (h4 : q4 = c4 + 256 * q5) (h5 : q5 = c5 + 256 * q6) (h6 : q6 = c6 + 256 * q7) (h7 : q7 = c7) :
    q0 + q1 < 18446744073709551616 ∧ q0 / 256 = q1 ∧ (q0 + q1) / 65536 = q2 + q3 ∧ q0 + q1 + (q2 + q3) < 18446744073709551616 ∧ (q0 + q1 + (q2 + q3)) / 4294967296 = (q4 + q5) + (q6 + q7) ∧ q0 + q1 + (q2 + q3) + ((q4 + q5) + (q6 + q7)) < 9223372036854775808 ∧ (q0 + q1 + (q2 + q3) + ((q4 + q5) + (q6 + q7))) % 128 = c0 + c1 + c2 + c3 + c4 + c5 + c6 + c7 := by
  have u7 : q7 ≤ 8 := by omega
  have u6 : q6 ≤ 2056 := by omega
  have u5 : q5 ≤ 526344 := by omega
  have u4 : q4 ≤ 134744072 := by omega
  have u3 : q3 ≤ 34494482440 := by omega
  have u2 : q2 ≤ 8830587504648 := by omega
  have u1 : q1 ≤ 2260630401189896 := by omega
  have u0 : q0 ≤ 578721382704613384 := by omega
  have t0 := two_bytes h0 h1
  have t1 := two_bytes h1 h2
  have t2 := two_bytes h2 h3
  have t3 := two_bytes h3 h4
  have t4 := two_bytes h4 h5
  have t5 := two_bytes h5 h6
  have e0 : q0 / 256 = q1 := div_of h0 (by omega)
  have e1 : (q0 + q1) / 65536 = q2 + q3 := add_div t0 t1 (by omega)
  have f0 := four_bytes t0 t2
  have f1 := four_bytes t1 t3
  have f2 := four_bytes t2 t4
  have f3 := four_bytes t3 t5
  have k0 := pair f0 f1
  have k1 := pair f2 f3
  have e2 : (q0 + q1 + (q2 + q3)) / 4294967296 = (q4 + q5) + (q6 + q7) := by
    refine add_div k0 k1 ?_
    clear h0 h1 h2 h3 h4 h5 h6 h7 t0 t1 t2 t3 t4 t5 f0 f1 f2 f3 k0 k1 e0 e1 u0 u1 u2 u3 u4 u5 u6 u7
    omega
  clear t0 t1 t2 t3 t4 t5 f0 f1 f2 f3 k0 k1
  have hm : (q0 + q1 + (q2 + q3) + ((q4 + q5) + (q6 + q7))) % 128 = c0 + c1 + c2 + c3 + c4 + c5 + c6 + c7 := by
    have v0 : q0 % 128 = c0 := by clear h1 h2 h3 h4 h5 h6 h7; omega
    have v1 : q1 % 128 = c1 := by clear h0 h2 h3 h4 h5 h6 h7; omega
    have v2 : q2 % 128 = c2 := by clear h0 h1 h3 h4 h5 h6 h7; omega
    have v3 : q3 % 128 = c3 := by clear h0 h1 h2 h4 h5 h6 h7; omega
    have v4 : q4 % 128 = c4 := by clear h0 h1 h2 h3 h5 h6 h7; omega
    have v5 : q5 % 128 = c5 := by clear h0 h1 h2 h3 h4 h6 h7; omega
    have v6 : q6 % 128 = c6 := by clear h0 h1 h2 h3 h4 h5 h7; omega
    have v7 : q7 % 128 = c7 := by clear h0 h1 h2 h3 h4 h5 h6; omega
    clear h0 h1 h2 h3 h4 h5 h6 h7 e0 e1 e2 u0 u1 u2 u3 u4 u5 u6 u7
    omega
  clear h0 h1 h2 h3 h4 h5 h6 h7
  exact ⟨by omega, e0, e1, by omega, e2, by omega, hm⟩
theorem pop_bytes (x : Nat) : pop x = bsum 8 (x % 256) + bsum 8 (x / 256 % 256) + bsum 8 (x / 256 / 256 % 256) + bsum 8 (x / 256 / 256 / 256 % 256) + bsum 8 (x / 256 / 256 / 256 / 256 % 256) + bsum 8 (x / 256 / 256 / 256 / 256 / 256 % 256) + bsum 8 (x / 256 / 256 / 256 / 256 / 256 / 256 % 256) + bsum 8 (x / 256 / 256 / 256 / 256 / 256 / 256 / 256 % 256) := by
  have e : ∀ k z, bsum (8 + k) z = bsum 8 (z % 256) + bsum k (z / 256) := fun k z => by
    rw [bsum_add, ← bsum_mod 8 z]
  rw [pop, show (64 : Nat) = 8 + (8 + (8 + (8 + (8 + (8 + (8 + (8 + 0))))))) from rfl, e, e, e, e, e, e, e, e]
  generalize bsum 8 (x % 256) = c0
  generalize bsum 8 (x / 256 % 256) = c1
  generalize bsum 8 (x / 256 / 256 % 256) = c2
  generalize bsum 8 (x / 256 / 256 / 256 % 256) = c3
  generalize bsum 8 (x / 256 / 256 / 256 / 256 % 256) = c4
  generalize bsum 8 (x / 256 / 256 / 256 / 256 / 256 % 256) = c5
  generalize bsum 8 (x / 256 / 256 / 256 / 256 / 256 / 256 % 256) = c6
  generalize bsum 8 (x / 256 / 256 / 256 / 256 / 256 / 256 / 256 % 256) = c7
  rw [bsum]
  omega
/-- The number of set bits, as math/bits counts it. -/
theorem pop_eq (x : Nat) : ∃ z1 z2 z3 : Nat, z1 = bys 8 x + bys 8 x / 256 ∧ z1 < 18446744073709551616 ∧ z2 = z1 + z1 / 65536 ∧ z2 < 18446744073709551616 ∧ z3 = z2 + z2 / 4294967296 ∧ z3 < 9223372036854775808 ∧ z3 % 128 = pop x := by
  have h := sum8 _ _ _ _ _ _ _ _ (bys 8 x) (bys 7 (x / 256)) (bys 6 (x / 256 / 256)) (bys 5 (x / 256 / 256 / 256)) (bys 4 (x / 256 / 256 / 256 / 256)) (bys 3 (x / 256 / 256 / 256 / 256 / 256)) (bys 2 (x / 256 / 256 / 256 / 256 / 256 / 256)) (bys 1 (x / 256 / 256 / 256 / 256 / 256 / 256 / 256))
    (bsum_le 8 _) (bsum_le 8 _) (bsum_le 8 _) (bsum_le 8 _) (bsum_le 8 _) (bsum_le 8 _) (bsum_le 8 _) (bsum_le 8 _) (by rw [bys]) (by rw [bys]) (by rw [bys]) (by rw [bys]) (by rw [bys]) (by rw [bys]) (by rw [bys]) (by rw [bys, bys, Nat.mul_zero, Nat.add_zero])
  rw [← pop_bytes] at h
  obtain ⟨h1, h2, h3, h4, h5, h6, h7⟩ := h
  exact ⟨_, _, _, rfl, by rw [h2]; exact h1, rfl, by rw [h2, h3]; exact h4, rfl, by rw [h2, h3, h5]; exact h6, by rw [h2, h3, h5]; exact h7⟩
theorem mk85 : mk 85 8 = 6148914691236517205 := by decide +kernel
theorem mk51 : mk 51 8 = 3689348814741910323 := by decide +kernel
theorem mk15 : mk 15 8 = 1085102592571150095 := by decide +kernel
theorem s_bd (x : Nat) (hx : x < 18446744073709551616) : (x / 2 &&& 6148914691236517205) + (x &&& 6148914691236517205) = s1 8 x ∧ (s1 8 x / 4 &&& 3689348814741910323) + (s1 8 x &&& 3689348814741910323) = s2 8 (s1 8 x) ∧
    (s2 8 (s1 8 x) / 16 + s2 8 (s1 8 x)) &&& 1085102592571150095 = bys 8 x := by
  rw [← steps 8 x (by rw [show (256 : Nat) ^ 8 = 18446744073709551616 by decide +kernel]; exact hx)]
  generalize hs : s1 8 x = a
  generalize hb : s2 8 a = b
  rw [← mk85, ← mk51, ← mk15, ← hs, ← hb]
  exact ⟨by rw [s1], by rw [s2, hs], by rw [s3]⟩
/-- The set of one node. -/
def bitN (v : Nat) : Nat := 2 ^ v
theorem and_le {a b : Nat} : a &&& b ≤ b := Nat.and_le_right
end CoBit
