/- Plain maths on sets of nodes as bits. -/
import Derived.Test.YtdibfecejgjfmaaGreatDoorBitA
set_option linter.unusedVariables false
namespace CoBit
open Go

/-- The numbers from s on, n of them, whose bits are set. -/
def bitsIn (x s n : Nat) : List Nat := (List.range' s n).filter fun i => x.testBit i
/-- The set bits of a number of 64 bits, ascending. -/
def bl (x : Nat) : List Nat := bitsIn x 0 64
theorem mem_bitsIn {x s n i : Nat} : i ∈ bitsIn x s n ↔ s ≤ i ∧ i < s + n ∧ x.testBit i = true := by
  unfold bitsIn
  rw [List.mem_filter, List.mem_range'_1]
  exact and_assoc
theorem mem_bl {x i : Nat} : i ∈ bl x ↔ i < 64 ∧ x.testBit i = true := by
  unfold bl
  rw [mem_bitsIn]
  simp
theorem bitsIn_succ (x s n : Nat) : bitsIn x s (n + 1) = if x.testBit s then s :: bitsIn x (s + 1) n else bitsIn x (s + 1) n := by
  unfold bitsIn
  rw [List.range'_succ, List.filter_cons]
theorem bitsIn_congr {x y s n : Nat} (h : ∀ i, s ≤ i → i < s + n → x.testBit i = y.testBit i) : bitsIn x s n = bitsIn y s n := by
  unfold bitsIn
  refine List.filter_congr fun i hi => ?_
  rw [List.mem_range'_1] at hi
  exact h i hi.1 hi.2
theorem bitsIn_least {x y k : Nat} (h0 : ∀ i, i < k → x.testBit i = false) (h1 : x.testBit k = true) (h2 : ∀ i, y.testBit i = (x.testBit i && decide (i ≠ k))) :
    ∀ n s, s ≤ k → k < s + n → bitsIn x s n = k :: bitsIn y s n := by
  intro n
  induction n with
  | zero => intro s hs hk; omega
  | succ n ih =>
    intro s hs hk
    rw [bitsIn_succ, bitsIn_succ]
    by_cases he : s = k
    · subst he
      rw [h2, h1]
      simp
      exact bitsIn_congr fun i hi _ => by rw [h2]; simp; omega
    · rw [h2, h0 s (by omega)]
      simp
      exact ih (s + 1) (by omega) (by omega)
theorem low_bits {m : Nat} (h0 : 0 < m) (h : m < 18446744073709551616) : Lib.ctz 64 m < 64 ∧ (∀ i, i < Lib.ctz 64 m → m.testBit i = false) ∧ m.testBit (Lib.ctz 64 m) = true ∧ ∀ i, (m &&& (m - 1)).testBit i = (m.testBit i && decide (i ≠ Lib.ctz 64 m)) := by
  obtain ⟨j, hj, hk⟩ := Lib.ctzFrom_spec 64 m h0 h
  have e : Lib.ctz 64 m = Lib.ctzFrom 64 m := by unfold Lib.ctz; rw [if_neg (by omega)]
  rw [e]
  generalize Lib.ctzFrom 64 m = k at *
  have hp : 0 < 2 ^ k := Nat.two_pow_pos k
  have t1 : ∀ i, m.testBit i = if i < k then false else (2 * j + 1).testBit (i - k) := by
    intro i
    rw [hj, show 2 ^ k * (2 * j + 1) = 2 ^ k * (2 * j + 1) + 0 from rfl, Nat.testBit_two_pow_mul_add _ hp]
    simp
  have t2 : ∀ i, (m - 1).testBit i = if i < k then (2 ^ k - 1).testBit i else (2 * j).testBit (i - k) := by
    intro i
    rw [hj, show 2 ^ k * (2 * j + 1) - 1 = 2 ^ k * (2 * j) + (2 ^ k - 1) by rw [Nat.mul_add]; omega, Nat.testBit_two_pow_mul_add _ (by omega)]
  refine ⟨hk, ?_, ?_, ?_⟩
  · intro i hi
    rw [t1, if_pos hi]
  · rw [t1, if_neg (by omega), Nat.sub_self, Nat.testBit_zero]
    simp
  · intro i
    rw [Nat.testBit_and, t1, t2]
    by_cases hi : i < k
    · rw [if_pos hi]; simp
    · rw [if_neg hi, if_neg hi]
      by_cases he : i = k
      · subst he
        rw [Nat.sub_self, Nat.testBit_zero, Nat.testBit_zero]
        simp
      · obtain ⟨d, hd⟩ : ∃ d, i - k = d + 1 := ⟨i - k - 1, by omega⟩
        rw [hd, Nat.testBit_succ, Nat.testBit_succ, show (2 * j + 1) / 2 = j by omega, show 2 * j / 2 = j by omega]
        simp [he]
/-- Without its least bit. -/
theorem bl_step {m : Nat} (h0 : 0 < m) (h : m < 18446744073709551616) : bl m = Lib.ctz 64 m :: bl (m &&& (m - 1)) := by
  obtain ⟨h1, h2, h3, h4⟩ := low_bits h0 h
  exact bitsIn_least h2 h3 h4 64 0 (by omega) (by omega)
theorem and_pred_lt {m : Nat} (h0 : 0 < m) : m &&& (m - 1) < m := Nat.lt_of_le_of_lt Nat.and_le_right (by omega)
theorem bl_zero : bl 0 = [] := by
  unfold bl bitsIn
  rw [List.filter_eq_nil_iff]
  intro i _
  simp
theorem bsum_length (n s x : Nat) : bsum n (x / 2 ^ s) = (bitsIn x s n).length := by
  induction n generalizing s with
  | zero => simp [bsum, bitsIn]
  | succ n ih =>
    rw [bsum, bitsIn_succ, Nat.div_div_eq_div_mul, show 2 ^ s * 2 = 2 ^ (s + 1) from (Nat.pow_succ ..).symm, ih]
    have : x.testBit s = decide (x / 2 ^ s % 2 = 1) := by rw [Nat.testBit_eq_decide_div_mod_eq]
    rw [this]
    by_cases h : x / 2 ^ s % 2 = 1
    · simp [h]; omega
    · simp [h]; omega
theorem pop_bl (x : Nat) : pop x = (bl x).length := by
  have := bsum_length 64 0 x
  rw [Nat.pow_zero, Nat.div_one] at this
  exact this
theorem bl_length (x : Nat) : (bl x).length ≤ 64 := by rw [← pop_bl]; exact bsum_le 64 x
theorem bl_sorted (x : Nat) : (bl x).Pairwise (· < ·) := by
  unfold bl bitsIn
  exact List.Pairwise.filter _ (List.pairwise_lt_range' (s := 0) (n := 64))
theorem and_lt {x y : Nat} (h : y < 18446744073709551616) : x &&& y < 18446744073709551616 := Nat.lt_of_le_of_lt Nat.and_le_right h
theorem and_lt' {x y : Nat} (h : x < 18446744073709551616) : x &&& y < 18446744073709551616 := Nat.lt_of_le_of_lt Nat.and_le_left h
theorem or_lt {x y : Nat} (h : x < 18446744073709551616) (h' : y < 18446744073709551616) : x ||| y < 18446744073709551616 := by
  have := Nat.or_lt_two_pow (n := 64) (show x < 2 ^ 64 by simpa using h) (show y < 2 ^ 64 by simpa using h')
  simpa using this

/-- The sets of neighbours when an edge has been put in. -/
def putE (N : Nat) (rows : List Nat) (e : Int × Int) : List Nat :=
  if 0 ≤ e.1 ∧ e.1 < e.2 ∧ e.2 < N then (rows.set e.1.toNat (rows.getD e.1.toNat 0 ||| 2 ^ e.2.toNat)).set e.2.toNat ((rows.set e.1.toNat (rows.getD e.1.toNat 0 ||| 2 ^ e.2.toNat)).getD e.2.toNat 0 ||| 2 ^ e.1.toNat) else rows
/-- The sets of neighbours of the first N nodes. -/
def rowsL (N : Nat) (es : List (Int × Int)) : List Nat := es.foldl (putE N) (List.replicate N 0)
theorem putE_length (N : Nat) (rows : List Nat) (e : Int × Int) : (putE N rows e).length = rows.length := by
  unfold putE; split <;> simp
theorem foldl_putE_length (N : Nat) (es : List (Int × Int)) (rows : List Nat) : (es.foldl (putE N) rows).length = rows.length := by
  induction es generalizing rows with
  | nil => rfl
  | cons e es ih => rw [List.foldl_cons, ih, putE_length]
theorem rowsL_length (N : Nat) (es : List (Int × Int)) : (rowsL N es).length = N := by rw [rowsL, foldl_putE_length]; simp
theorem rowsL_take {N : Nat} {es : List (Int × Int)} {k : Nat} {e : Int × Int} (h : es[k]? = some e) : rowsL N (es.take (k + 1)) = putE N (rowsL N (es.take k)) e := by
  obtain ⟨hk, rfl⟩ := List.getElem?_eq_some_iff.1 h
  unfold rowsL
  rw [List.take_succ_eq_append_getElem hk, List.foldl_append]; rfl
/-- A set without a node. -/
def clr (x b : Nat) : Nat := x &&& (18446744073709551615 - 2 ^ b)
theorem clr_lt {x b : Nat} (h : x < 18446744073709551616) : clr x b < 18446744073709551616 := and_lt' h
theorem clr_bit {x b : Nat} (hx : x < 18446744073709551616) (hb : b < 64) (i : Nat) : (clr x b).testBit i = (x.testBit i && decide (i ≠ b)) := by
  unfold clr
  have h1 : (2 : Nat) ^ b < 2 ^ 64 := Nat.pow_lt_pow_right (by omega) hb
  have h2 : 18446744073709551615 - 2 ^ b = 2 ^ 64 - (2 ^ b + 1) := by
    rw [show (2 : Nat) ^ 64 = 18446744073709551616 by decide +kernel]; omega
  rw [Nat.testBit_and, h2, Nat.testBit_two_pow_sub_succ h1, Nat.testBit_two_pow]
  by_cases hi : i < 64
  · simp [hi, eq_comm]
  · have : x.testBit i = false := Nat.testBit_lt_two_pow (Nat.lt_of_lt_of_le (show x < 2 ^ 64 by rw [show (2 : Nat) ^ 64 = 18446744073709551616 by decide +kernel]; exact hx) (Nat.pow_le_pow_right (by omega) (by omega)))
    simp [this]
theorem or_bit (x b i : Nat) : (x ||| 2 ^ b).testBit i = (x.testBit i || decide (i = b)) := by
  rw [Nat.testBit_or, Nat.testBit_two_pow]
  simp [eq_comm]
theorem all_bit (n i : Nat) : (2 ^ n - 1).testBit i = decide (i < n) := Nat.testBit_two_pow_sub_one n i
end CoBit
