/- Plain facts on two-word numbers, greatest common divisors and reduced fractions. No program is in sight. -/
import Derived.Laws.BitsAllLaws
set_option linter.unusedVariables false
namespace CoRat
open Go

def hi (u : Nat) : Int := ((u / 18446744073709551616 : Nat) : Int)
def lo (u : Nat) : Int := ((u % 18446744073709551616 : Nat) : Int)
def W (h l : Int) (u : Nat) : Prop := h = hi u ∧ l = lo u
def B : Nat := 340282366920938463463374607431768211456
theorem W.mk (u : Nat) : W (hi u) (lo u) u := ⟨rfl, rfl⟩
theorem W.val {h l : Int} {u : Nat} (x : W h l u) : (u : Int) = h * 18446744073709551616 + l := by
  obtain ⟨rfl, rfl⟩ := x; unfold hi lo; omega
theorem W.bd {h l : Int} {u : Nat} (x : W h l u) (hu : u < B) : 0 ≤ h ∧ h ≤ 18446744073709551615 ∧ 0 ≤ l ∧ l ≤ 18446744073709551615 := by
  obtain ⟨rfl, rfl⟩ := x; unfold hi lo; unfold B at hu; omega
theorem W.of {h l : Int} {u : Nat} (e : (u : Int) = h * 18446744073709551616 + l) (h0 : 0 ≤ h) (l0 : 0 ≤ l) (l1 : l ≤ 18446744073709551615) : W h l u := by
  unfold W hi lo; omega
theorem W.low {l : Int} {u : Nat} (e : (u : Int) = l) (l1 : l ≤ 18446744073709551615) : W 0 l u := W.of (by omega) (by omega) (by omega) l1
theorem W.zero : W 0 0 0 := ⟨rfl, rfl⟩
theorem W.inj {h l : Int} {u v : Nat} (x : W h l u) (y : W h l v) : u = v := by
  have := x.val; have := y.val; omega
theorem hi_of {h l : Int} {u : Nat} (e : (u : Int) = h * 18446744073709551616 + l) (h0 : 0 ≤ h) (l0 : 0 ≤ l) (l1 : l ≤ 18446744073709551615) : h = hi u := (W.of e h0 l0 l1).1
theorem lo_of {h l : Int} {u : Nat} (e : (u : Int) = h * 18446744073709551616 + l) (h0 : 0 ≤ h) (l0 : 0 ≤ l) (l1 : l ≤ 18446744073709551615) : l = lo u := (W.of e h0 l0 l1).2

/-- 'x | y' of words that share no bit. -/
theorem or_join (x y : Int) (i : Nat) (hx0 : 0 ≤ x) (hx1 : x < 18446744073709551616) (hy0 : 0 ≤ y) (hy1 : y < 18446744073709551616) (hx : x.toNat % 2 ^ i = 0) (hy : y.toNat < 2 ^ i) :
    bits .or .u64 x y = x + y := by
  rw [u64_or x y hx0 hx1 hy0 hy1, nat_join i _ _ hx hy]; omega
theorem or_join' (x y : Int) (i : Nat) (hx0 : 0 ≤ x) (hx1 : x < 18446744073709551616) (hy0 : 0 ≤ y) (hy1 : y < 18446744073709551616) (hx : x.toNat % 2 ^ i = 0) (hy : y.toNat < 2 ^ i) :
    bits .or .u64 y x = y + x := by
  rw [u64_or y x hy0 hy1 hx0 hx1, Nat.or_comm, nat_join i _ _ hx hy]; omega
theorem and_one (x : Int) (hx0 : 0 ≤ x) (hx1 : x < 18446744073709551616) : bits .and .u64 x 1 = x % 2 := by
  rw [u64_and x 1 hx0 hx1 (by omega) (by omega)]
  show ((x.toNat &&& 1 : Nat) : Int) = _
  rw [nat_mask1]; omega
theorem and_mask62 (x : Int) (hx0 : 0 ≤ x) (hx1 : x < 18446744073709551616) : bits .and .u64 x 4611686018427387903 = x % 4611686018427387904 := by
  rw [u64_and x _ hx0 hx1 (by omega) (by omega)]
  show ((x.toNat &&& 4611686018427387903 : Nat) : Int) = _
  have := Nat.and_two_pow_sub_one_eq_mod x.toNat 62
  rw [show (2:Nat) ^ 62 - 1 = 4611686018427387903 from by decide, show (2:Nat) ^ 62 = 4611686018427387904 from by decide] at this
  rw [this]; omega

/- ### what a half, a double, a sum and a difference of two words are -/
theorem half_W {h l : Int} {u : Nat} (x : W h l u) (hu : u < B) :
    W (h / 2) (bits .or .u64 (l / 2) (IntKind.u64.wrap (h * 9223372036854775808))) (u / 2) := by
  have b := x.bd hu; have v := x.val
  rw [IntKind.wrap_u64, or_join' (h * 9223372036854775808 % 18446744073709551616) (l / 2) 63 (by omega) (by omega) (by omega) (by omega) (by omega) (by omega)]
  exact W.of (by omega) (by omega) (by omega) (by omega)
theorem twice_W {h l : Int} {u : Nat} (x : W h l u) (hu : u * 2 < B) :
    W (bits .or .u64 (IntKind.u64.wrap (h * 2)) (l / 9223372036854775808)) (IntKind.u64.wrap (l * 2)) (u * 2) := by
  have b := x.bd (by omega); have v := x.val
  unfold B at hu
  rw [IntKind.wrap_u64, IntKind.wrap_u64, or_join (h * 2 % 18446744073709551616) (l / 9223372036854775808) 1 (by omega) (by omega) (by omega) (by omega) (by omega) (by omega)]
  exact W.of (by omega) (by omega) (by omega) (by omega)
theorem below_W {h l h' l' : Int} {u v : Nat} (x : W h l u) (y : W h' l' v) (hu : u < B) (hv : v < B) : (h < h' ∨ h = h' ∧ l < l') ↔ u < v := by
  have b := x.bd hu; have c := y.bd hv; have e := x.val; have f := y.val
  omega
theorem even_W {h l : Int} {u : Nat} (x : W h l u) (hu : u < B) : bits .and .u64 l 1 = 0 ↔ u % 2 = 0 := by
  have b := x.bd hu; have v := x.val
  rw [and_one l (by omega) (by omega)]; omega
theorem zero_W {h l : Int} {u : Nat} (x : W h l u) (hu : u < B) : (h = 0 ∧ l = 0) ↔ u = 0 := by
  have b := x.bd hu; have v := x.val
  omega

/- ### the reduced fraction -/
def M : Nat := 1152921504606846976
def fits (a b : Nat) : Bool := decide (a / Nat.gcd a b ≤ M ∧ b / Nat.gcd a b ≤ M)
def redN (neg : Bool) (a b : Nat) : Int := if fits a b then (if neg then -((a / Nat.gcd a b : Nat) : Int) else ((a / Nat.gcd a b : Nat) : Int)) else 0
def redD (a b : Nat) : Int := if fits a b then ((b / Nat.gcd a b : Nat) : Int) else 0
def redE (a b : Nat) : Int := if fits a b then 0 else 3

def inM (n d : Int) : Bool := decide (-1152921504606846976 ≤ n ∧ n ≤ 1152921504606846976 ∧ d ≤ 1152921504606846976)
def ckN (n d : Int) : Int := if inM n d then n else 0
def ckD (n d : Int) : Int := if inM n d then d else 0
def ckE (n d : Int) : Int := if inM n d then 0 else 3
def sg (s : Bool) (z : Int) : Int := if s then -z else z
theorem inM_fits (s : Bool) (u v : Nat) : inM (sg s ((u / Nat.gcd u v : Nat) : Int)) ((v / Nat.gcd u v : Nat) : Int) = fits u v := by
  unfold inM fits M sg
  generalize u / Nat.gcd u v = a
  generalize v / Nat.gcd u v = b
  rw [decide_eq_decide]
  cases s <;> simp <;> omega
theorem ck_red (s : Bool) (u v : Nat) : ckN (sg s ((u / Nat.gcd u v : Nat) : Int)) ((v / Nat.gcd u v : Nat) : Int) = redN s u v ∧ ckD (sg s ((u / Nat.gcd u v : Nat) : Int)) ((v / Nat.gcd u v : Nat) : Int) = redD u v ∧
    ckE (sg s ((u / Nat.gcd u v : Nat) : Int)) ((v / Nat.gcd u v : Nat) : Int) = redE u v := by
  unfold ckN ckD ckE redN redD redE
  rw [inM_fits]
  refine ⟨?_, rfl, rfl⟩
  cases fits u v <;> cases s <;> rfl
theorem redN_zero (s t : Bool) (v : Nat) : redN s 0 v = redN t 0 v := by
  unfold redN
  cases fits 0 v <;> cases s <;> cases t <;> simp
theorem not_fits (u v : Nat) (h : ¬ (u / Nat.gcd u v < 4611686018427387904 ∧ v / Nat.gcd u v < 4611686018427387904)) (s : Bool) : redN s u v = 0 ∧ redD u v = 0 ∧ redE u v = 3 := by
  have : fits u v = false := by
    unfold fits M
    rw [decide_eq_false_iff_not]
    omega
  unfold redN redD redE
  rw [this]
  exact ⟨rfl, rfl, rfl⟩
theorem tdiv_sg (a g : Nat) (s : Bool) : (sg s (a : Int)).tdiv (g : Int) = sg s ((a / g : Nat) : Int) := by
  cases s
  · simp [sg, Int.tdiv_eq_ediv_of_nonneg]
  · simp [sg, Int.neg_tdiv, Int.tdiv_eq_ediv_of_nonneg]
end CoRat
