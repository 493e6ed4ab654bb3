/- math/bits.OnesCount64 and TrailingZeros64, and the small functions of package masks. -/
import Derived.Test.YtknlmgcbdcepnaaDoorMem
import Derived.Test.YtknlmgcbdcepnaaDoorBitM
import Derived.Laws.Bits64b
import Derived.Laws.BitsAllLaws
import Derived.Shelf.Spec.TrailingZeros
set_option linter.unusedVariables false
namespace Go.Proofs.YtknlmgcbdcepnaaDoor
open Go.RowKit

theorem ofInt_i64n (a : Nat) (ha : a < 9223372036854775808) : (BitVec.ofInt 64 (a : Int)).toNat = a := by
  rw [BitVec.ofInt_natCast, BitVec.toNat_ofNat]; exact Nat.mod_eq_of_lt (by omega)
theorem i64_and_nat (a b : Nat) (ha : a < 9223372036854775808) (hb : b < 9223372036854775808) : bits .and .i64 (a : Int) (b : Int) = ((a &&& b : Nat) : Int) := by
  have hx : a &&& b < 2 ^ 63 := Nat.and_lt_two_pow _ (by omega)
  show IntKind.i64.wrap ((BitVec.ofInt 64 (a : Int) &&& BitVec.ofInt 64 (b : Int)).toNat : Int) = _
  rw [BitVec.toNat_and, ofInt_i64n a ha, ofInt_i64n b hb, IntKind.wrap_i64]
  omega
theorem u64_in (a : Nat) (h : a < 18446744073709551616) : IntKind.u64.wrap (a : Int) = (a : Int) := by rw [IntKind.wrap_u64]; omega
theorem and_div_c (x c k : Nat) (hx : x < 18446744073709551616) (hc : c < 18446744073709551616) : bits .and .u64 ((x : Int) / (k : Nat)) (c : Int) = ((x / k &&& c : Nat) : Int) := by
  have h : x / k ≤ x := Nat.div_le_self _ _
  rw [← Int.natCast_ediv, bits_and_u64_nat _ _ (by omega) hc]

/-- The values that OnesCount64 goes through. -/
structure Pops (x a b z1 z2 z3 : Nat) (y p : Nat) : Prop where
  e1 : IntKind.u64.wrap (bits .and .u64 ((x : Int) / 2) 6148914691236517205 + bits .and .u64 (x : Int) 6148914691236517205) = (a : Int)
  e2 : IntKind.u64.wrap (bits .and .u64 ((a : Int) / 4) 3689348814741910323 + bits .and .u64 (a : Int) 3689348814741910323) = (b : Int)
  e3 : bits .and .u64 (IntKind.u64.wrap ((b : Int) / 16 + (b : Int))) 1085102592571150095 = (y : Int)
  e4 : IntKind.u64.wrap ((y : Int) + (y : Int) / 256) = (z1 : Int)
  e5 : IntKind.u64.wrap ((z1 : Int) + (z1 : Int) / 65536) = (z2 : Int)
  e6 : IntKind.u64.wrap ((z2 : Int) + (z2 : Int) / 4294967296) = (z3 : Int)
  e7 : IntKind.i64.wrap (z3 : Int) = (z3 : Int)
  e8 : bits .and .i64 (z3 : Int) 127 = (p : Int)
theorem s2_bd (x : Nat) (hx : x < 18446744073709551616) : CoBit.s1 8 x < 18446744073709551616 ∧ CoBit.s2 8 (CoBit.s1 8 x) < 18446744073709551616 ∧ CoBit.s2 8 (CoBit.s1 8 x) / 16 + CoBit.s2 8 (CoBit.s1 8 x) < 18446744073709551616 := by
  obtain ⟨h1, h2, _⟩ := CoBit.s_bd x hx
  have a1 : x / 2 &&& 6148914691236517205 ≤ 6148914691236517205 := Nat.and_le_right
  have a2 : x &&& 6148914691236517205 ≤ 6148914691236517205 := Nat.and_le_right
  rw [← h2]
  generalize CoBit.s1 8 x = a at *
  have a3 : a / 4 &&& 3689348814741910323 ≤ 3689348814741910323 := Nat.and_le_right
  have a4 : a &&& 3689348814741910323 ≤ 3689348814741910323 := Nat.and_le_right
  generalize a / 4 &&& 3689348814741910323 = u at *
  generalize a &&& 3689348814741910323 = v at *
  omega
theorem pops (x : Nat) (hx : x < 18446744073709551616) : ∃ a b z1 z2 z3 y, Pops x a b z1 z2 z3 y (CoBit.pop x) := by
  obtain ⟨h1, h2, h3⟩ := CoBit.s_bd x hx
  obtain ⟨b1, b2, b3⟩ := s2_bd x hx
  obtain ⟨z1, z2, z3, g1, l1, g2, l2, g3, l3, g4⟩ := CoBit.pop_eq x
  have m1 := and_div_c x 6148914691236517205 2 hx (by omega)
  have m2 := bits_and_u64_nat x 6148914691236517205 hx (by omega)
  have m3 := and_div_c (CoBit.s1 8 x) 3689348814741910323 4 b1 (by omega)
  have m4 := bits_and_u64_nat (CoBit.s1 8 x) 3689348814741910323 b1 (by omega)
  have m5 := bits_and_u64_nat (CoBit.s2 8 (CoBit.s1 8 x) / 16 + CoBit.s2 8 (CoBit.s1 8 x)) 1085102592571150095 b3 (by omega)
  refine ⟨CoBit.s1 8 x, CoBit.s2 8 (CoBit.s1 8 x), z1, z2, z3, CoBit.bys 8 x, ⟨?_, ?_, ?_, ?_, ?_, ?_, ?_, ?_⟩⟩
  · refine Eq.trans (congrArg _ (congr (congrArg _ m1) m2)) ?_
    rw [← Int.natCast_add, h1, u64_in _ b1]
  · refine Eq.trans (congrArg _ (congr (congrArg _ m3) m4)) ?_
    rw [← Int.natCast_add, h2, u64_in _ b2]
  · rw [show ((CoBit.s2 8 (CoBit.s1 8 x) : Nat) : Int) / 16 + (CoBit.s2 8 (CoBit.s1 8 x) : Nat) = ((CoBit.s2 8 (CoBit.s1 8 x) / 16 + CoBit.s2 8 (CoBit.s1 8 x) : Nat) : Int) by rw [Int.natCast_add, Int.natCast_ediv]; rfl, u64_in _ b3]
    exact m5.trans (congrArg _ h3)
  · rw [show ((CoBit.bys 8 x : Nat) : Int) + (CoBit.bys 8 x : Nat) / 256 = ((CoBit.bys 8 x + CoBit.bys 8 x / 256 : Nat) : Int) by rw [Int.natCast_add, Int.natCast_ediv]; rfl, ← g1, u64_in _ l1]
  · rw [show ((z1 : Nat) : Int) + (z1 : Nat) / 65536 = ((z1 + z1 / 65536 : Nat) : Int) by rw [Int.natCast_add, Int.natCast_ediv]; rfl, ← g2, u64_in _ l2]
  · rw [show ((z2 : Nat) : Int) + (z2 : Nat) / 4294967296 = ((z2 + z2 / 4294967296 : Nat) : Int) by rw [Int.natCast_add, Int.natCast_ediv]; rfl, ← g3, u64_in _ (by omega)]
  · exact IntWalk.i64_in _ ⟨by omega, by omega⟩
  · have := i64_and_nat z3 127 l3 (by omega)
    refine this.trans (congrArg _ ?_)
    rw [← g4]
    exact Nat.and_two_pow_sub_one_eq_mod z3 7

set_option maxHeartbeats 1000000 in
theorem ones_any (x : Nat) (hx : x < 18446744073709551616) (w : World) :
    Calls Tryd.prog 43 #[.int .u64 x] w fun e w' => e = .returned (.int .i64 (CoBit.pop x : Nat)) ∧ w = w' := by
  obtain ⟨a, b, z1, z2, z3, y, e1, e2, e3, e4, e5, e6, e7, e8⟩ := pops x hx
  generalize CoBit.pop x = p at *
  go_enter Tryd.func43, Tryd.ntmps43
  go_wp2
  go_ret
  exact ⟨rfl, rfl⟩

/-- The table of math/bits is in its variable. -/
def Tab (w : World) : Prop := TabAt 0 Lib.deBruijn64tab w
theorem Tab.below {w w' : World} {b : Nat} (h : Tab w) (hb : Below b w w') (hB : 0 < b) : Tab w' := fun j hj => (hb.cell (p := ⟨0, j, none⟩) hB).trans (h j hj)

set_option maxHeartbeats 1000000 in
theorem tz_core (x k idx : Nat) (w : World) (hx0 : ((x : Int) == 0) = false)
    (key : IntKind.u64.wrap (bits BinOp.and IntKind.u64 (x : Int) (IntKind.u64.wrap (-(x : Int))) * 285870213051353865) / 288230376151711744 = (idx : Int))
    (hi : idx < 64) (hk : k < 64) (hcell : w.cell? ⟨0, idx, none⟩ = some (.int .u8 k)) :
    Calls Tryd.prog 44 #[.int .u64 x] w fun e w' => e = .returned (.int .i64 k) ∧ w = w' := by
  go_enter Tryd.func44, Tryd.ntmps44
  go_wp2_with (simp only [key])
  go_ret
  exact ⟨rfl, rfl⟩
theorem tz_any (x : Nat) (hx0 : 0 < x) (hx : x < 18446744073709551616) (w : World) (hT : Tab w) :
    Calls Tryd.prog 44 #[.int .u64 x] w fun e w' => e = .returned (.int .i64 (Lib.ctz 64 x : Nat)) ∧ w = w' := by
  obtain ⟨hlow, hk⟩ := Lib.lowest_bit 64 x (by omega) hx
  obtain ⟨hi, htab⟩ := Lib.deBruijn64_at _ hk
  have hcell := hT _ hi
  rw [htab] at hcell
  exact tz_core x _ _ w (by simp; omega) (tz64_key x _ hx (by omega) hlow) hi hk hcell
theorem ctz_lt (x : Nat) (hx0 : 0 < x) (hx : x < 18446744073709551616) : Lib.ctz 64 x < 64 := (Lib.lowest_bit 64 x (by omega) hx).2

set_option maxHeartbeats 400000 in
theorem count_any (x : Nat) (hx : x < 18446744073709551616) (w : World) :
    Calls Tryd.prog 73 #[.int .u64 x] w fun e w' => e = .returned (.int .i64 (CoBit.pop x : Nat)) ∧ w = w' := by
  go_enter Tryd.func73, Tryd.ntmps73
  go_wp2_with fail
  refine (ones_any x hx _).mono ?_
  rintro e w' ⟨rfl, rfl⟩
  go_wp2
  go_ret
  exact ⟨rfl, rfl⟩
set_option maxHeartbeats 400000 in
theorem least_any (x : Nat) (hx0 : 0 < x) (hx : x < 18446744073709551616) (w : World) (hT : Tab w) :
    Calls Tryd.prog 76 #[.int .u64 x] w fun e w' => e = .returned (.int .i64 (Lib.ctz 64 x : Nat)) ∧ w = w' := by
  go_enter Tryd.func76, Tryd.ntmps76
  go_wp2_with fail
  refine (tz_any x hx0 hx _ hT).mono ?_
  rintro e w' ⟨rfl, rfl⟩
  go_wp2
  go_ret
  exact ⟨rfl, rfl⟩
theorem two_pow_lt {v : Nat} (h : v < 64) : 2 ^ v < 18446744073709551616 := by
  have := Nat.pow_lt_pow_right (a := 2) (by omega) h
  simpa using this
theorem wrap_pow {v : Nat} (h : v < 64) : IntKind.u64.wrap ((2 : Int) ^ v) = ((2 ^ v : Nat) : Int) := by
  rw [show (2 : Int) ^ v = ((2 ^ v : Nat) : Int) by rw [Int.natCast_pow]; rfl]
  exact u64_in _ (two_pow_lt h)
theorem wrap_pow1 {v : Nat} (h : v < 64) : IntKind.u64.wrap (IntKind.u64.wrap ((2 : Int) ^ v) - 1) = ((2 ^ v - 1 : Nat) : Int) := by
  have h1 := two_pow_lt h
  have h2 : 0 < 2 ^ v := Nat.two_pow_pos v
  rw [wrap_pow h, show ((2 ^ v : Nat) : Int) - 1 = ((2 ^ v - 1 : Nat) : Int) by omega]
  exact u64_in _ (by omega)
set_option maxHeartbeats 400000 in
theorem bit_any (v : Nat) (hv : v < 64) (w : World) :
    Calls Tryd.prog 74 #[.int .i64 v] w fun e w' => e = .returned (.int .u64 (CoBit.bitN v : Nat)) ∧ w = w' := by
  have h2 := two_pow_lt hv
  go_enter Tryd.func74, Tryd.ntmps74
  go_wp2
  go_ret
  exact ⟨congrArg Ending.returned (congrArg (Value.int .u64) (wrap_pow hv)), rfl⟩
set_option maxHeartbeats 400000 in
theorem all_any (n : Nat) (hn : n ≤ 64) (w : World) :
    Calls Tryd.prog 75 #[.int .i64 n] w fun e w' => e = .returned (.int .u64 (2 ^ n - 1 : Nat)) ∧ w = w' := by
  by_cases h0 : n = 0
  · subst h0
    go_enter Tryd.func75, Tryd.ntmps75
    go_wp2
    go_ret
    exact ⟨rfl, rfl⟩
  · by_cases h1 : n = 64
    · subst h1
      go_enter Tryd.func75, Tryd.ntmps75
      go_wp2
      go_ret
      exact ⟨rfl, rfl⟩
    · have h2 := two_pow_lt (v := n) (by omega)
      go_enter Tryd.func75, Tryd.ntmps75
      go_wp2
      go_ret
      exact ⟨congrArg Ending.returned (congrArg (Value.int .u64) (wrap_pow1 (by omega))), rfl⟩
end Go.Proofs.YtknlmgcbdcepnaaDoor
