/- Small functions of packages ratio, wide and math/bits return what they compute. -/
import Derived.Test.YticekkjambkifaaDoorZaa
import Derived.Laws.Externs
import Derived.Shelf.Spec.BitsCarry
set_option linter.unusedVariables false
namespace Go.Proofs.YticekkjambkifaaDoor.Rt
open Go.RowKit CoRat

theorem retNum {a b c d : Int} (n : Bool) (h : a = c) (h' : b = d) : Ending.returned (.agg #[.int .u64 a, .int .u64 b, .bool n]) = .returned (.agg #[.int .u64 c, .int .u64 d, .bool n]) := by rw [h, h']

theorem gcd_step (i j : Int) (hi : 0 ≤ i) (hj : 0 ≤ j) : Int.gcd j (i % j) = Int.gcd i j := by
  obtain ⟨a, rfl⟩ := Int.eq_ofNat_of_zero_le hi
  obtain ⟨b, rfl⟩ := Int.eq_ofNat_of_zero_le hj
  rw [← Int.natCast_emod]
  show Nat.gcd b (a % b) = Nat.gcd a b
  rw [Nat.gcd_comm, ← Nat.gcd_rec, Nat.gcd_comm]

def dif (x y b : Int) : Int := (x - y - b) % 18446744073709551616
def bor (x y b : Int) : Int := if x < y + b then 1 else 0
def sm (x y b : Int) : Int := (x + y + b) % 18446744073709551616
def car (x y b : Int) : Int := (x + y + b) / 18446744073709551616
theorem run_sub (x y b : Int) (hx : 0 ≤ x) (hy : 0 ≤ y) (hy1 : y ≤ 18446744073709551615) (hb0 : 0 ≤ b) (hb1 : b ≤ 1) (w : World) :
    (callFunc 144 #[.int .u64 x, .int .u64 y, .int .u64 b]).run Tryd.prog w = .ok (.value (.tuple #[.int .u64 (dif x y b), .int .u64 (bor x y b)])) w := by
  obtain ⟨x, rfl⟩ := Int.eq_ofNat_of_zero_le hx
  obtain ⟨y, rfl⟩ := Int.eq_ofNat_of_zero_le hy
  obtain ⟨b, rfl⟩ := Int.eq_ofNat_of_zero_le hb0
  rw [run_callFunc_extern Tryd.func144 (by kernel_rfl) (by kernel_rfl) (by kernel_rfl) (e := sub64Entry) (by kernel_rfl), run_sub64 x y b (by omega)]
  have h1 : ((((x + 18446744073709551616 - y - b) % 18446744073709551616 : Nat) : Int)) = dif x y b := by unfold dif; omega
  have h2 : (((if x < y + b then 1 else 0 : Nat) : Int)) = bor x y b := by unfold bor; split <;> split <;> omega
  rw [h1, h2]; rfl
set_option maxHeartbeats 400000 in
theorem within_any (n most : Int) (w : World) (h0 : 0 ≤ most) (h1 : most ≤ 4611686018427387904) :
    Calls Tryd.prog 98 #[.int .i64 n, .int .i64 most] w fun e w' => e = .returned (.bool (decide (-most ≤ n ∧ n ≤ most))) ∧ w = w' := by
  go_enter Tryd.func98, Tryd.ntmps98
  go_wp2
  all_goals go_ret
  all_goals exact ⟨retBool (by rw [Bool.eq_iff_iff]; simp; omega), rfl⟩

set_option maxHeartbeats 400000 in
theorem sign_any (n : Int) (w : World) :
    Calls Tryd.prog 114 #[.int .i64 n] w fun e w' => e = .returned (.int .i64 n.sign) ∧ w = w' := by
  go_enter Tryd.func114, Tryd.ntmps114
  go_wp2
  all_goals go_ret
  · exact ⟨retInt (Int.sign_eq_neg_one_of_neg (by assumption)).symm, rfl⟩
  · exact ⟨retInt (Int.sign_eq_one_of_pos (by assumption)).symm, rfl⟩
  · exact ⟨retInt (by rw [show n = 0 by omega]; rfl), rfl⟩

set_option maxHeartbeats 400000 in
theorem common_any (a b : Int) (w : World) (ha : 0 ≤ a) (hb : 0 ≤ b) (ha2 : a ≤ 9223372036854775807) (hb2 : b ≤ 9223372036854775807) :
    Calls Tryd.prog 123 #[.int .i64 a, .int .i64 b] w fun e w' => e = .returned (.int .i64 (Int.gcd a b)) ∧ ∃ n, w' = w.drewN n := by
  go_enter Tryd.func123, Tryd.ntmps123
  go_wp2
  go_loopw [0, 1] (fun x y w' => ∃ i j : Int, 0 ≤ i ∧ 0 ≤ j ∧ i ≤ 9223372036854775807 ∧ j ≤ 9223372036854775807 ∧ x = .int .i64 i ∧ y = .int .i64 j ∧ Int.gcd i j = Int.gcd a b ∧ ∃ n, w' = w.drewN n) (fun _ y _ => (intOf y).toNat)
  case atStart => exact ⟨a, b, ha, hb, ha2, hb2, rfl, rfl, rfl, 0, rfl⟩
  case round =>
    obtain ⟨i, j, hi, hj, hi2, hj2, rfl, rfl, hg, n, rfl⟩ := hrel
    have hg' := Lib.hid hg; clear hg
    by_cases hz : j = 0
    · subst hz
      go_wp2
      go_ret
      exact ⟨retInt (by rw [← hg'.out, Int.gcd_zero_right]; omega), n, rfl⟩
    · have hz' : (j != 0) = true := by simpa using hz
      go_wp2
      go_quiet (fail)
      go_wp2
      go_roundw
      case rel => exact ⟨j, i % j, by omega, Int.emod_nonneg _ hz, by omega, by have := Int.emod_lt_of_pos i (show 0 < j by omega); omega, rfl, by go_num, by rw [← hg'.out]; exact gcd_step i j hi hj, _, by rw [World.drewN_drewN]⟩
      case measure => have := Int.emod_lt_of_pos i (show 0 < j by omega); have := Int.emod_nonneg i hz; simp [intOf]; omega
  
set_option maxHeartbeats 400000 in
theorem half_any (h l : Int) (n : Bool) (u : Nat) (w : World) (x : W h l u) (hu : u < B) :
    Calls Tryd.prog 138 #[.agg #[.int .u64 h, .int .u64 l, .bool n]] w fun e w' => e = .returned (.agg #[.int .u64 (hi (u / 2)), .int .u64 (lo (u / 2)), .bool n]) ∧ Below w.heap.size w w' := by
  obtain ⟨h0, h1, l0, l1⟩ := x.bd hu
  go_enter Tryd.func138, Tryd.ntmps138
  go_wp2
  go_returns
  exact ⟨retNum n (half_W x hu).1 (half_W x hu).2, by go_grown⟩

set_option maxHeartbeats 400000 in
theorem twice_any (h l : Int) (n : Bool) (u : Nat) (w : World) (x : W h l u) (hu : u * 2 < B) :
    Calls Tryd.prog 141 #[.agg #[.int .u64 h, .int .u64 l, .bool n]] w fun e w' => e = .returned (.agg #[.int .u64 (hi (u * 2)), .int .u64 (lo (u * 2)), .bool n]) ∧ Below w.heap.size w w' := by
  obtain ⟨h0, h1, l0, l1⟩ := x.bd (by omega)
  go_enter Tryd.func141, Tryd.ntmps141
  go_wp2
  go_returns
  exact ⟨retNum n (twice_W x hu).1 (twice_W x hu).2, by go_grown⟩

set_option maxHeartbeats 400000 in
theorem below_any (h l h' l' : Int) (n n' : Bool) (u v : Nat) (w : World) (x : W h l u) (hu : u < B) (y : W h' l' v) (hv : v < B) :
    Calls Tryd.prog 139 #[.agg #[.int .u64 h, .int .u64 l, .bool n], .agg #[.int .u64 h', .int .u64 l', .bool n']] w fun e w' => e = .returned (.bool (decide (u < v))) ∧ Below w.heap.size w w' := by
  obtain ⟨h0, h1, l0, l1⟩ := x.bd hu
  have hb := Lib.hid (below_W x y hu hv)
  go_enter Tryd.func139, Tryd.ntmps139
  go_wp2
  all_goals go_returns
  all_goals refine ⟨retBool ?_, by go_grown⟩
  all_goals have hb := hb.out
  all_goals (rw [Bool.eq_iff_iff]; simp; omega)

set_option maxHeartbeats 400000 in
theorem zero_any (h l : Int) (n : Bool) (u : Nat) (w : World) (x : W h l u) (hu : u < B) :
    Calls Tryd.prog 136 #[.agg #[.int .u64 h, .int .u64 l, .bool n]] w fun e w' => e = .returned (.bool (decide (u = 0))) ∧ Below w.heap.size w w' := by
  obtain ⟨h0, h1, l0, l1⟩ := x.bd hu
  have hb := Lib.hid (zero_W x hu)
  go_enter Tryd.func136, Tryd.ntmps136
  go_wp2
  all_goals go_returns
  all_goals refine ⟨retBool ?_, by go_grown⟩
  all_goals have hb := hb.out
  all_goals (rw [Bool.eq_iff_iff]; simp; omega)

set_option maxHeartbeats 400000 in
theorem even_any (h l : Int) (n : Bool) (u : Nat) (w : World) (x : W h l u) (hu : u < B) :
    Calls Tryd.prog 137 #[.agg #[.int .u64 h, .int .u64 l, .bool n]] w fun e w' => e = .returned (.bool (decide (u % 2 = 0))) ∧ Below w.heap.size w w' := by
  obtain ⟨h0, h1, l0, l1⟩ := x.bd hu
  have hb := Lib.hid (even_W x hu)
  go_enter Tryd.func137, Tryd.ntmps137
  go_wp2
  all_goals go_returns
  all_goals refine ⟨retBool ?_, by go_grown⟩
  all_goals have hb := hb.out
  all_goals (rw [Bool.eq_iff_iff]; simp; omega)

theorem less_W {h l h' l' : Int} {u v : Nat} (x : W h l u) (hu : u < B) (y : W h' l' v) (hv : v ≤ u) : W (dif h h' (bor l l' 0)) (dif l l' 0) (u - v) := by
  have b := x.bd hu; have c := y.bd (by omega); have e := x.val; have f := y.val
  unfold dif bor
  split <;> exact W.of (by omega) (by omega) (by omega) (by omega)
theorem more_W {h l h' l' : Int} {u v : Nat} (x : W h l u) (y : W h' l' v) (hv : u + v < B) : W (sm h h' (car l l' 0)) (sm l l' 0) (u + v) := by
  have b := x.bd (by omega); have c := y.bd (by omega); have e := x.val; have f := y.val
  unfold B at hv
  unfold sm car
  exact W.of (by omega) (by omega) (by omega) (by omega)
theorem bor_bd (x y b : Int) : 0 ≤ bor x y b ∧ bor x y b ≤ 1 := by unfold bor; split <;> omega
theorem car_bd (x y : Int) (hx : 0 ≤ x) (hx1 : x ≤ 18446744073709551615) (hy : 0 ≤ y) (hy1 : y ≤ 18446744073709551615) : 0 ≤ car x y 0 ∧ car x y 0 ≤ 1 := by unfold car; omega

set_option maxHeartbeats 400000 in
theorem less_any (h l h' l' : Int) (n n' : Bool) (u v : Nat) (w : World) (x : W h l u) (hu : u < B) (y : W h' l' v) (hv : v ≤ u) :
    Calls Tryd.prog 140 #[.agg #[.int .u64 h, .int .u64 l, .bool n], .agg #[.int .u64 h', .int .u64 l', .bool n']] w fun e w' => e = .returned (.agg #[.int .u64 (hi (u - v)), .int .u64 (lo (u - v)), .bool n]) ∧ Below w.heap.size w w' := by
  obtain ⟨h0, h1, l0, l1⟩ := x.bd hu
  obtain ⟨a0, a1, b0, b1⟩ := y.bd (by omega)
  have r1 := fun w => run_sub l l' 0 l0 b0 b1 (by omega) (by omega) w
  have r2 := fun w => run_sub h h' (bor l l' 0) h0 a0 a1 (bor_bd _ _ _).1 (bor_bd _ _ _).2 w
  go_enter Tryd.func140, Tryd.ntmps140
  go_wp2_with fail
  go_returns
  exact ⟨retNum n (less_W x hu y hv).1 (less_W x hu y hv).2, by go_grown⟩

end Go.Proofs.YticekkjambkifaaDoor.Rt

namespace Go.Proofs.YticekkjambkifaaDoor.Rt
open Go.RowKit CoRat

def C3 (w : World) (g : Nat) (u : Nat) (n : Bool) : Prop := Blk w g 134 #[.int .u64 (hi u), .int .u64 (lo u), .bool n]
theorem C3.cells {w : World} {g u : Nat} {n : Bool} (h : C3 w g u n) : w.cell? ⟨g, 0, none⟩ = some (.int .u64 (hi u)) ∧ w.cell? ⟨g, 1, none⟩ = some (.int .u64 (lo u)) ∧ w.cell? ⟨g, 2, none⟩ = some (.bool n) ∧ w.frozen? ⟨g, 0, none⟩ = false ∧ w.frozen? ⟨g, 1, none⟩ = false ∧ w.frozen? ⟨g, 2, none⟩ = false :=
  ⟨Blk.cell h 0, Blk.cell h 1, Blk.cell h 2, Blk.frozen h 0, Blk.frozen h 1, Blk.frozen h 2⟩
theorem C3.put {w : World} {g u : Nat} {n : Bool} (h : C3 w g u n) (v : Nat) (m : Bool) : C3 (((w.setCell ⟨g, 0, none⟩ (.int .u64 (hi v))).setCell ⟨g, 1, none⟩ (.int .u64 (lo v))).setCell ⟨g, 2, none⟩ (.bool m)) g v m :=
  ((Blk.set h 0 _).set 1 _).set 2 _
theorem C3.far {w : World} {g g' u : Nat} {n : Bool} (h : C3 w g u n) (hne : g ≠ g') (a b c : Value) : C3 (((w.setCell ⟨g', 0, none⟩ a).setCell ⟨g', 1, none⟩ b).setCell ⟨g', 2, none⟩ c) g u n :=
  ((Blk.far h (p := ⟨g', 0, none⟩) hne _).far (p := ⟨g', 1, none⟩) hne _).far (p := ⟨g', 2, none⟩) hne _
theorem put3_below {n : Nat} {w w' : World} (h : Below n w w') {g : Nat} (hg : n ≤ g) (a b c : Value) : Below n w (((w'.setCell ⟨g, 0, none⟩ a).setCell ⟨g, 1, none⟩ b).setCell ⟨g, 2, none⟩ c) :=
  ((h.setCell (p := ⟨g, 0, none⟩) hg _).setCell (p := ⟨g, 1, none⟩) hg _).setCell (p := ⟨g, 2, none⟩) hg _
/-- What the loops of Common hold in memory: both numbers, at two blocks, and a third block for the result. -/
def Two (w wr : World) (u v : Nat) : Prop := C3 wr w.heap.size u false ∧ C3 wr (w.heap.size + 1) v false ∧ C3 wr (w.heap.size + 1 + 1) 0 false ∧ Below w.heap.size w wr
theorem Two.size {w wr : World} {u v : Nat} (h : Two w wr u v) : w.heap.size + 3 ≤ wr.heap.size := by have := Blk.lt h.2.2.1; omega
theorem Two.step {w wr wr' : World} {u v : Nat} (h : Two w wr u v) {n : Nat} (hb : Below n wr wr') (hn : w.heap.size + 3 ≤ n) : Two w wr' u v :=
  ⟨Blk.below h.1 hb (by omega), Blk.below h.2.1 hb (by omega), Blk.below h.2.2.1 hb (by omega), h.2.2.2.trans (hb.mono (by omega))⟩
theorem Two.drew {w wr : World} {u v : Nat} (h : Two w wr u v) : Two w wr.drew u v := ⟨h.1, h.2.1, h.2.2.1, h.2.2.2.drew⟩
theorem Two.cells {w wr : World} {u v : Nat} (h : Two w wr u v) :
    (wr.cell? ⟨w.heap.size, 0, none⟩ = some (.int .u64 (hi u)) ∧ wr.cell? ⟨w.heap.size, 1, none⟩ = some (.int .u64 (lo u)) ∧ wr.cell? ⟨w.heap.size, 2, none⟩ = some (.bool false) ∧
    wr.frozen? ⟨w.heap.size, 0, none⟩ = false ∧ wr.frozen? ⟨w.heap.size, 1, none⟩ = false ∧ wr.frozen? ⟨w.heap.size, 2, none⟩ = false) ∧
    (wr.cell? ⟨w.heap.size + 1, 0, none⟩ = some (.int .u64 (hi v)) ∧ wr.cell? ⟨w.heap.size + 1, 1, none⟩ = some (.int .u64 (lo v)) ∧ wr.cell? ⟨w.heap.size + 1, 2, none⟩ = some (.bool false) ∧
    wr.frozen? ⟨w.heap.size + 1, 0, none⟩ = false ∧ wr.frozen? ⟨w.heap.size + 1, 1, none⟩ = false ∧ wr.frozen? ⟨w.heap.size + 1, 2, none⟩ = false) := ⟨C3.cells h.1, C3.cells h.2.1⟩
theorem Two.put1 {w wr : World} {u v : Nat} (h : Two w wr u v) (u' : Nat) : Two w (((wr.setCell ⟨w.heap.size, 0, none⟩ (.int .u64 (hi u'))).setCell ⟨w.heap.size, 1, none⟩ (.int .u64 (lo u'))).setCell ⟨w.heap.size, 2, none⟩ (.bool false)) u' v :=
  ⟨C3.put h.1 _ _, C3.far h.2.1 (by omega) _ _ _, C3.far h.2.2.1 (by omega) _ _ _, put3_below h.2.2.2 (by omega) _ _ _⟩
theorem Two.put2 {w wr : World} {u v : Nat} (h : Two w wr u v) (v' : Nat) : Two w (((wr.setCell ⟨w.heap.size + 1, 0, none⟩ (.int .u64 (hi v'))).setCell ⟨w.heap.size + 1, 1, none⟩ (.int .u64 (lo v'))).setCell ⟨w.heap.size + 1, 2, none⟩ (.bool false)) u v' :=
  ⟨C3.far h.1 (by omega) _ _ _, C3.put h.2.1 _ _, C3.far h.2.2.1 (by omega) _ _ _, put3_below h.2.2.2 (by omega) _ _ _⟩

/- ### the mathematics of the binary algorithm -/
theorem gcd_both {u v : Nat} (hu : u % 2 = 0) (hv : v % 2 = 0) : Nat.gcd u v = Nat.gcd (u / 2) (v / 2) * 2 := by
  have := Nat.gcd_mul_right (u / 2) 2 (v / 2)
  rw [show u / 2 * 2 = u by omega, show v / 2 * 2 = v by omega] at this
  exact this
theorem gcd_left {u v : Nat} (hu : u % 2 = 0) (hv : v % 2 = 1) : Nat.gcd u v = Nat.gcd (u / 2) v := by
  have e : u = 2 * (u / 2) := by omega
  have hc : Nat.Coprime 2 v := by
    unfold Nat.Coprime
    rw [Nat.gcd_rec, hv]
    rfl
  have h := Nat.Coprime.gcd_mul_left_cancel (u / 2) hc
  rw [← e] at h
  exact h
theorem gcd_right {u v : Nat} (hu : u % 2 = 1) (hv : v % 2 = 0) : Nat.gcd u v = Nat.gcd u (v / 2) := by
  rw [Nat.gcd_comm, gcd_left hv hu, Nat.gcd_comm]
theorem gcd_less {u v : Nat} (h : u ≤ v) : Nat.gcd u v = Nat.gcd u (v - u) := by
  rw [Nat.gcd_sub_self_right h]
theorem pow_lt {a k : Nat} (ha : 0 < a) (h : a * 2 ^ k < B) : k < 128 := by
  rcases Nat.lt_or_ge k 128 with hk | hk
  · exact hk
  · have h1 : 2 ^ 128 ≤ 2 ^ k := Nat.pow_le_pow_right (by omega) hk
    have h2 : 1 * 2 ^ k ≤ a * 2 ^ k := Nat.mul_le_mul_right _ ha
    have h3 : (2 : Nat) ^ 128 = B := by decide
    omega
theorem gcd_B {u v : Nat} (h : 0 < u) (hu : u < B) : Nat.gcd u v < B := Nat.lt_of_le_of_lt (Nat.le_of_dvd h (Nat.gcd_dvd_left u v)) hu

set_option maxHeartbeats 4000000 in
theorem common1 (h l h' l' : Int) (n n' : Bool) (u v : Nat) (w : World) (x : W h l u) (hu : u < B) (y : W h' l' v) (hv : v < B) (u0 : 0 < u) (v0 : 0 < v) :
    Calls Tryd.prog 125 #[.agg #[.int .u64 h, .int .u64 l, .bool n], .agg #[.int .u64 h', .int .u64 l', .bool n']] w fun e w' => e = .returned (.agg #[.int .u64 (hi (Nat.gcd u v)), .int .u64 (lo (Nat.gcd u v)), .bool false]) ∧ Below w.heap.size w w' := by
  obtain ⟨h0, h1, l0, l1⟩ := x.bd hu
  obtain ⟨a0, a1, b0, b1⟩ := y.bd hv
  have hu' : decide (u = 0) = false := by simp; omega
  have hv' : decide (v = 0) = false := by simp; omega
  have hGB := gcd_B (v := v) u0 hu
  go_enter Tryd.func125, Tryd.ntmps125
  go_wp2_with fail
  refine (zero_any _ _ _ u _ x hu).mono ?_; rintro e w1 ⟨rfl, hb⟩; obtain ⟨hc, hf⟩ := bcell hb
  go_wp2_with fail
  refine (zero_any _ _ _ v _ y hv).mono ?_; rintro e w2 ⟨rfl, hb2⟩; obtain ⟨hc2, hf2⟩ := bcell hb2
  have hz := hb.size
  simp at hz
  go_upto_block 0 with fail
  have T : Two w w2 u v := by
    obtain ⟨rfl, rfl⟩ := x
    obtain ⟨rfl, rfl⟩ := y
    exact ⟨((((Blk.new w _ _).alloc _).alloc _).below hb (by simp; omega)).below hb2 (by omega), (((Blk.new' (w.alloc _) _ _ (by simp)).alloc _).below hb (by simp)).below hb2 (by omega),
      ((Blk.new' ((w.alloc _).alloc _) _ _ (by simp)).below hb (by simp)).below hb2 (by omega), ((by go_grown : Below w.heap.size w _).trans (hb.mono (by simp; omega))).trans (hb2.mono (by omega))⟩
  clear hc hf hc2 hf2 hb hb2 hz
  go_cut [5] (fun t wr => ∃ (u' v' k : Nat), t = .int .i64 k ∧ Two w wr u' v' ∧ 0 < u' ∧ 0 < v' ∧ u' < B ∧ v' < B ∧ (u' % 2 = 1 ∨ v' % 2 = 1) ∧ Nat.gcd u v = Nat.gcd u' v' * 2 ^ k)
  case first =>
    go_wp2_with fail
    go_loopg [5] u (fun g t wr => ∃ (u' v' k : Nat), t = .int .i64 k ∧ Two w wr u' v' ∧ 0 < u' ∧ 0 < v' ∧ u' < B ∧ v' < B ∧ u' ≤ g ∧ Nat.gcd u v = Nat.gcd u' v' * 2 ^ k)
    case atStart => exact ⟨u, v, 0, rfl, T, u0, v0, hu, hv, by omega, by simp⟩
    case round =>
      obtain ⟨u', v', k, rfl, T', hu0, hv0, hu1, hv1, hug, hg⟩ := hrel
      have hk : k < 128 := pow_lt (Nat.gcd_pos_of_pos_left v' hu0) (by rw [← hg]; exact hGB)
      have hg' := Lib.hid hg; clear hg T hu' hv'
      obtain ⟨⟨e0, e1, e2, e3, e4, e5⟩, f0, f1, f2, f3, f4, f5⟩ := T'.cells
      by_cases pq : u' % 2 = 0 ∧ v' % 2 = 0
      · obtain ⟨p, q⟩ := pq
        have p' : decide (u' % 2 = 0) = true := by simpa using p
        have q' : decide (v' % 2 = 0) = true := by simpa using q
        have hp := Lib.hid p; clear p
        have hq := Lib.hid q; clear q
        go_wp2_with fail
        refine (even_any _ _ _ u' _ (W.mk u') hu1).mono ?_; rintro e w3 ⟨rfl, hb3⟩
        have T3 := T'.step hb3 T'.size
        clear e0 e1 e2 e3 e4 e5 f0 f1 f2 f3 f4 f5 hb3 T'
        obtain ⟨⟨e0, e1, e2, e3, e4, e5⟩, f0, f1, f2, f3, f4, f5⟩ := T3.cells
        go_wp2_with fail
        refine (even_any _ _ _ v' _ (W.mk v') hv1).mono ?_; rintro e w4 ⟨rfl, hb4⟩
        have T4 := T3.step hb4 T3.size
        clear e0 e1 e2 e3 e4 e5 f0 f1 f2 f3 f4 f5 hb4 T3
        obtain ⟨⟨e0, e1, e2, e3, e4, e5⟩, f0, f1, f2, f3, f4, f5⟩ := T4.cells
        go_wp2_with fail
        go_region_with (first | (go_at_call 138; (with_reducible refine (half_any _ _ _ u' _ (W.mk u') hu1).mono ?_); rintro e w5 ⟨rfl, hb5⟩; have T5 : Two w w5 u' v' := (T4.drew.step hb5 T4.size); obtain ⟨hc5, hf5⟩ := bat hb5 (w.heap.size + 3) T4.size) | (go_at_call 138; (with_reducible refine (half_any _ _ _ v' _ (W.mk v') hv1).mono ?_); rintro e w6 ⟨rfl, hb6⟩; have T6 : Two w w6 u' v' := (T5.step hb6 T5.size); obtain ⟨hc6, hf6⟩ := bat hb6 (w.heap.size + 3) T5.size))
        all_goals go_wp2
        all_goals clear e0 e1 e2 e3 e4 e5 f0 f1 f2 f3 f4 f5 hc5 hc6 hf5 hf6
        all_goals go_roundg (u' / 2)
        all_goals first | (omega; done) | exact ⟨u' / 2, v' / 2, k + 1, by (rw [IntWalk.i64_in _ (by omega)]; go_num), (T6.put1 _).put2 _, by have := hp.out; omega, by have := hq.out; omega, by omega, by omega, by omega, by rw [hg'.out, gcd_both hp.out hq.out, Nat.pow_succ, Nat.mul_assoc, Nat.mul_comm 2]⟩
      · have hodd : u' % 2 = 1 ∨ v' % 2 = 1 := by omega
        replace hodd := Lib.hid hodd
        clear pq
        by_cases p : u' % 2 = 0
        case' pos =>
          have p' : decide (u' % 2 = 0) = true := by simpa using p
          have q' : decide (v' % 2 = 0) = false := by have := hodd.out; simp; omega
          clear p
          go_wp2_with fail
          refine (even_any _ _ _ u' _ (W.mk u') hu1).mono ?_; rintro e w3 ⟨rfl, hb3⟩
          have T3 := T'.step hb3 T'.size
          clear e0 e1 e2 e3 e4 e5 f0 f1 f2 f3 f4 f5 hb3 T'
          obtain ⟨⟨e0, e1, e2, e3, e4, e5⟩, f0, f1, f2, f3, f4, f5⟩ := T3.cells
          go_wp2_with fail
          refine (even_any _ _ _ v' _ (W.mk v') hv1).mono ?_; rintro e w4 ⟨rfl, hb4⟩
          have T4 := T3.step hb4 T3.size
          clear e0 e1 e2 e3 e4 e5 f0 f1 f2 f3 f4 f5 hb4 T3
          go_wp2_with fail
        case' neg =>
          have p' : decide (u' % 2 = 0) = false := by simpa using p
          clear p
          go_wp2_with fail
          refine (even_any _ _ _ u' _ (W.mk u') hu1).mono ?_; rintro e w3 ⟨rfl, hb3⟩
          have T4 := T'.step hb3 T'.size
          clear e0 e1 e2 e3 e4 e5 f0 f1 f2 f3 f4 f5 hb3 T'
          go_wp2_with fail
        all_goals go_meet
        all_goals exact ⟨u', v', k, rfl, T4, hu0, hv0, hu1, hv1, hodd.out, hg'.out⟩
  case rest =>
    obtain ⟨u', v', k, rfl, T4, hu0, hv0, hu1, hv1, hodd, hg⟩ := hcut
    replace hodd := Lib.hid hodd
    have hg' := Lib.hid hg; clear hg
    have hk : k < 128 := pow_lt (Nat.gcd_pos_of_pos_left v' hu0) (by rw [← hg'.out]; exact hGB)
    go_wp2_with fail
    go_loopg [] u' (fun g wr => ∃ (u2 : Nat), Two w wr u2 v' ∧ 0 < u2 ∧ u2 < B ∧ u2 ≤ g ∧ Nat.gcd u' v' = Nat.gcd u2 v' ∧ (u2 % 2 = 1 ∨ v' % 2 = 1))
    case atStart => exact ⟨u', T4, hu0, hu1, by omega, rfl, hodd.out⟩
    case round =>
      obtain ⟨u2, T', hv2, hv3, hug, hh, ho⟩ := hrel
      replace hh := Lib.hid hh
      replace ho := Lib.hid ho
      clear T4
      obtain ⟨⟨e0, e1, e2, e3, e4, e5⟩, f0, f1, f2, f3, f4, f5⟩ := T'.cells
      by_cases p : u2 % 2 = 0
      · have p' : decide (u2 % 2 = 0) = true := by simpa using p
        have hp := Lib.hid p; clear p
        go_wp2_with fail
        refine (even_any _ _ _ u2 _ (W.mk u2) hv3).mono ?_; rintro e w3 ⟨rfl, hb3⟩
        have T3 := T'.step hb3 T'.size
        clear e0 e1 e2 e3 e4 e5 f0 f1 f2 f3 f4 f5 hb3 T'
        obtain ⟨⟨e0, e1, e2, e3, e4, e5⟩, f0, f1, f2, f3, f4, f5⟩ := T3.cells
        go_wp2_with fail
        refine (half_any _ _ _ u2 _ (W.mk u2) hv3).mono ?_; rintro e w4 ⟨rfl, hb4⟩
        have T4 := T3.step hb4 T3.size
        clear e0 e1 e2 e3 e4 e5 f0 f1 f2 f3 f4 f5 hb4 T3
        obtain ⟨⟨e0, e1, e2, e3, e4, e5⟩, f0, f1, f2, f3, f4, f5⟩ := T4.cells
        go_wp2_with fail
        go_roundg (u2 / 2)
        all_goals first | (omega; done) | skip
        have p := hp.out
        have o : v' % 2 = 1 := by have := ho.out; omega
        exact ⟨u2 / 2, T4.put1 _, by omega, by omega, by omega, by rw [hh.out, gcd_left p o], .inr o⟩
      · have p' : decide (u2 % 2 = 0) = false := by simpa using p
        have hp := Lib.hid p; clear p
        go_wp2_with fail
        refine (even_any _ _ _ u2 _ (W.mk u2) hv3).mono ?_; rintro e w3 ⟨rfl, hb3⟩
        have T3 := T'.step hb3 T'.size
        clear e0 e1 e2 e3 e4 e5 f0 f1 f2 f3 f4 f5 hb3 T'
        go_wp2_with fail
        replace hp : Hid (u2 % 2 = 1) := Lib.hid (by have := hp.out; omega)
        clear hodd ho p' hu0 hu1
        replace hh : Hid (Nat.gcd u v = Nat.gcd u2 v' * 2 ^ k) := Lib.hid (by rw [hg'.out, hh.out])
        clear hg'
        go_loopg [] (u2 + v') (fun g wr => ∃ (a b : Nat), Two w wr a b ∧ a % 2 = 1 ∧ a < B ∧ b < B ∧ a + b ≤ g ∧ Nat.gcd u v = Nat.gcd a b * 2 ^ k)
        case atStart => exact ⟨u2, v', T3, hp.out, hv3, hv1, by omega, hh.out⟩
        case round =>
          clear T3 hh hug hv2 hv3 hv0 hv1 hp
          obtain ⟨a, b, T', ha1, ha2, hb1, hug, hh⟩ := hrel
          replace hh := Lib.hid hh
          have ha := Lib.hid ha1
          have ha0 : 0 < a := by omega
          clear ha1
          obtain ⟨⟨e0, e1, e2, e3, e4, e5⟩, f0, f1, f2, f3, f4, f5⟩ := T'.cells
          by_cases hz : b = 0
          · have z' : decide (b = 0) = true := by simpa using hz
            replace hz := Lib.hid hz
            go_wp2_with fail
            refine (zero_any _ _ _ b _ (W.mk b) hb1).mono ?_; rintro e w3 ⟨rfl, hb3⟩
            have T3 := T'.step hb3 T'.size
            clear e0 e1 e2 e3 e4 e5 f0 f1 f2 f3 f4 f5 hb3 T'
            go_wp2_with fail
            replace hh : Hid (Nat.gcd u v = a * 2 ^ k) := Lib.hid (by rw [hh.out, hz.out, Nat.gcd_zero_right])
            clear hz z' hb1 hug ha
            go_loopg [46] k (fun g t wr => ∃ (i c : Nat), t = .int .i64 i ∧ i ≤ k ∧ k - i ≤ g ∧ Two w wr c b ∧ 0 < c ∧ Nat.gcd u v = c * 2 ^ (k - i))
            case atStart => exact ⟨0, a, rfl, by omega, by omega, T3, ha0, hh.out⟩
            case round =>
              clear T3 hh ha0 ha2
              obtain ⟨i, c, rfl, hi, hig, T', hc0, hh⟩ := hrel
              obtain ⟨⟨e0, e1, e2, e3, e4, e5⟩, f0, f1, f2, f3, f4, f5⟩ := T'.cells
              by_cases hik : i < k
              · have hcB : c * 2 < B := by
                  rw [show k - i = (k - i - 1) + 1 by omega, Nat.pow_succ, Nat.mul_comm _ 2, ← Nat.mul_assoc] at hh
                  have h1 : 1 ≤ 2 ^ (k - i - 1) := Nat.one_le_two_pow
                  have h2 : c * 2 * 1 ≤ c * 2 * 2 ^ (k - i - 1) := Nat.mul_le_mul_left _ h1
                  omega
                replace hh := Lib.hid hh
                go_wp2_with fail
                refine (twice_any _ _ _ c _ (W.mk c) hcB).mono ?_; rintro e w3 ⟨rfl, hb3⟩
                have T3 := T'.step hb3 T'.size
                clear e0 e1 e2 e3 e4 e5 f0 f1 f2 f3 f4 f5 hb3 T'
                obtain ⟨⟨e0, e1, e2, e3, e4, e5⟩, f0, f1, f2, f3, f4, f5⟩ := T3.cells
                go_wp2_with fail
                go_roundg (k - (i + 1))
                all_goals first | (omega; done) | skip
                exact ⟨i + 1, c * 2, by go_num, by omega, by omega, T3.put1 _, by omega, by rw [hh.out, Nat.mul_assoc, ← Nat.pow_succ', Nat.succ_eq_add_one, show k - (i + 1) + 1 = k - i by omega]⟩
              · have hik' : i = k := by omega
                have hh : Nat.gcd u v = c := by rw [hh, hik', Nat.sub_self]; simp
                replace hh := Lib.hid hh
                clear hik'
                obtain ⟨g0, g1, g2, g3, g4, g5⟩ := C3.cells T'.2.2.1
                go_wp2_with fail
                refine bodyPost_ret (v := .agg #[.int .u64 (CoRat.hi c), .int .u64 (CoRat.lo c), .bool false]) (by simp [results, Tryd.results125, go_sem, g0, g1, g2]) rfl ?_
                exact ⟨retNum false (by rw [hh.out]) (by rw [hh.out]), T'.2.2.2.trans (put3_below (Below.refl _ _) (by omega) _ _ _)⟩
          · have z' : decide (b = 0) = false := by simpa using hz
            have hb0 : 0 < b := by omega
            clear hz
            go_wp2_with fail
            refine (zero_any _ _ _ b _ (W.mk b) hb1).mono ?_; rintro e w3 ⟨rfl, hb3⟩
            have T3 := T'.step hb3 T'.size
            clear e0 e1 e2 e3 e4 e5 f0 f1 f2 f3 f4 f5 hb3 T'
            go_wp2_with fail
            go_loopg [] b (fun g wr => ∃ (c : Nat), Two w wr a c ∧ 0 < c ∧ c ≤ b ∧ c ≤ g ∧ Nat.gcd a b = Nat.gcd a c)
            case atStart => exact ⟨b, T3, by omega, by omega, by omega, rfl⟩
            case round =>
              clear T3
              obtain ⟨c, T', hc0, hcb, hcg, hh2⟩ := hrel
              replace hh2 := Lib.hid hh2
              have hcB : c < B := by omega
              obtain ⟨⟨e0, e1, e2, e3, e4, e5⟩, f0, f1, f2, f3, f4, f5⟩ := T'.cells
              by_cases p : c % 2 = 0
              · have p' : decide (c % 2 = 0) = true := by simpa using p
                replace p := Lib.hid p
                go_wp2_with fail
                refine (even_any _ _ _ c _ (W.mk c) hcB).mono ?_; rintro e w3 ⟨rfl, hb3⟩
                have T3 := T'.step hb3 T'.size
                clear e0 e1 e2 e3 e4 e5 f0 f1 f2 f3 f4 f5 hb3 T'
                obtain ⟨⟨e0, e1, e2, e3, e4, e5⟩, f0, f1, f2, f3, f4, f5⟩ := T3.cells
                go_wp2_with fail
                refine (half_any _ _ _ c _ (W.mk c) hcB).mono ?_; rintro e w4 ⟨rfl, hb4⟩
                have T4 := T3.step hb4 T3.size
                clear e0 e1 e2 e3 e4 e5 f0 f1 f2 f3 f4 f5 hb4 T3
                obtain ⟨⟨e0, e1, e2, e3, e4, e5⟩, f0, f1, f2, f3, f4, f5⟩ := T4.cells
                go_wp2_with fail
                have p2 := p.out
                go_roundg (c / 2)
                all_goals first | (omega; done) | skip
                exact ⟨c / 2, T4.put2 _, by omega, by omega, by omega, by rw [hh2.out, gcd_right ha.out p.out]⟩
              · have p' : decide (c % 2 = 0) = false := by simpa using p
                clear p
                go_wp2_with fail
                refine (even_any _ _ _ c _ (W.mk c) hcB).mono ?_; rintro e w3 ⟨rfl, hb3⟩
                have T3 := T'.step hb3 T'.size
                clear e0 e1 e2 e3 e4 e5 f0 f1 f2 f3 f4 f5 hb3 T'
                obtain ⟨⟨e0, e1, e2, e3, e4, e5⟩, f0, f1, f2, f3, f4, f5⟩ := T3.cells
                replace hh : Hid (Nat.gcd u v = Nat.gcd a c * 2 ^ k) := Lib.hid (by rw [hh.out, hh2.out])
                clear hh2
                by_cases q : c < a
                · have q' : decide (c < a) = true := by simpa using q
                  have hca : Hid (c % 2 = 1) := Lib.hid (by have := of_decide_eq_false p'; omega)
                  go_wp2_with fail
                  refine (below_any _ _ _ _ _ _ c a _ (W.mk c) hcB (W.mk a) ha2).mono ?_; rintro e w4 ⟨rfl, hb4⟩
                  have T4 := T3.step hb4 T3.size
                  clear e0 e1 e2 e3 e4 e5 f0 f1 f2 f3 f4 f5 hb4 T3
                  obtain ⟨⟨e0, e1, e2, e3, e4, e5⟩, f0, f1, f2, f3, f4, f5⟩ := T4.cells
                  go_wp2_with fail
                  refine (less_any _ _ _ _ _ _ a c _ (W.mk a) ha2 (W.mk c) (by omega)).mono ?_; rintro e w5 ⟨rfl, hb5⟩
                  have T5 := ((T4.put1 c).put2 a).step hb5 (by simpa using T4.size)
                  clear e0 e1 e2 e3 e4 e5 f0 f1 f2 f3 f4 f5 hb5 T4
                  obtain ⟨⟨e0, e1, e2, e3, e4, e5⟩, f0, f1, f2, f3, f4, f5⟩ := T5.cells
                  go_wp2_with fail
                  go_roundg (c + (a - c))
                  all_goals first | (omega; done) | skip
                  exact ⟨c, a - c, T5.put2 _, hca.out, hcB, by omega, by omega, by rw [hh.out, Nat.gcd_comm, gcd_less (Nat.le_of_lt q)]⟩
                · have q' : decide (c < a) = false := by simpa using q
                  go_wp2_with fail
                  refine (below_any _ _ _ _ _ _ c a _ (W.mk c) hcB (W.mk a) ha2).mono ?_; rintro e w4 ⟨rfl, hb4⟩
                  have T4 := T3.step hb4 T3.size
                  clear e0 e1 e2 e3 e4 e5 f0 f1 f2 f3 f4 f5 hb4 T3
                  obtain ⟨⟨e0, e1, e2, e3, e4, e5⟩, f0, f1, f2, f3, f4, f5⟩ := T4.cells
                  go_wp2_with fail
                  refine (less_any _ _ _ _ _ _ c a _ (W.mk c) hcB (W.mk a) (by omega)).mono ?_; rintro e w5 ⟨rfl, hb5⟩
                  have T5 := T4.step hb5 T4.size
                  clear e0 e1 e2 e3 e4 e5 f0 f1 f2 f3 f4 f5 hb5 T4
                  obtain ⟨⟨e0, e1, e2, e3, e4, e5⟩, f0, f1, f2, f3, f4, f5⟩ := T5.cells
                  go_wp2_with fail
                  go_roundg (a + (c - a))
                  all_goals first | (omega; done) | skip
                  exact ⟨a, c - a, T5.put2 _, ha.out, ha2, by omega, by omega, by rw [hh.out, gcd_less (by omega)]⟩

set_option maxHeartbeats 1000000 in
theorem wcommon_any (h l h' l' : Int) (n n' : Bool) (u v : Nat) (w : World) (x : W h l u) (hu : u < B) (y : W h' l' v) (hv : v < B) :
    Calls Tryd.prog 125 #[.agg #[.int .u64 h, .int .u64 l, .bool n], .agg #[.int .u64 h', .int .u64 l', .bool n']] w fun e w' => e = .returned (.agg #[.int .u64 (hi (Nat.gcd u v)), .int .u64 (lo (Nat.gcd u v)), .bool false]) ∧ Below w.heap.size w w' := by
  by_cases u0 : 0 < u
  · by_cases v0 : 0 < v
    · exact common1 h l h' l' n n' u v w x hu y hv u0 v0
    · have hu' : decide (u = 0) = false := by simp; omega
      obtain rfl : v = 0 := by omega
      have hv' : decide ((0 : Nat) = 0) = true := rfl
      obtain ⟨rfl, rfl⟩ := x
      go_enter Tryd.func125, Tryd.ntmps125
      go_wp2_with fail
      refine (zero_any _ _ _ u _ (W.mk u) hu).mono ?_; rintro e w1 ⟨rfl, hb⟩; obtain ⟨hc, hf⟩ := bat hb (w.heap.size + 3) (by simp)
      go_wp2_with fail
      refine (zero_any _ _ _ 0 _ y hv).mono ?_; rintro e w2 ⟨rfl, hb2⟩; obtain ⟨hc2, hf2⟩ := bat hb2 (w.heap.size + 3) (by have := hb.size; simp at this; omega)
      go_wp2_with fail
      refine bodyPost_ret (v := .agg #[.int .u64 (CoRat.hi u), .int .u64 (CoRat.lo u), .bool false]) (by simp [results, Tryd.results125, go_sem, hc2, hc]) rfl ?_
      exact ⟨retNum false (by rw [Nat.gcd_zero_right]) (by rw [Nat.gcd_zero_right]), (((by go_grown : Below w.heap.size w _).trans (hb.mono (by simp; omega))).trans (hb2.mono (by have := hb.size; simp at this; omega))).trans (put3_below (Below.refl _ _) (by have := hb.size; have := hb2.size; simp at *; omega) _ _ _)⟩
  · obtain rfl : u = 0 := by omega
    have hu' : decide ((0 : Nat) = 0) = true := rfl
    obtain ⟨rfl, rfl⟩ := y
    go_enter Tryd.func125, Tryd.ntmps125
    go_wp2_with fail
    refine (zero_any _ _ _ 0 _ x hu).mono ?_; rintro e w1 ⟨rfl, hb⟩; obtain ⟨hc, hf⟩ := bat hb (w.heap.size + 3) (by simp)
    go_wp2_with fail
    refine bodyPost_ret (v := .agg #[.int .u64 (CoRat.hi v), .int .u64 (CoRat.lo v), .bool false]) (by simp [results, Tryd.results125, go_sem, hc]) rfl ?_
    exact ⟨retNum false (by rw [Nat.gcd_zero_left]) (by rw [Nat.gcd_zero_left]), ((by go_grown : Below w.heap.size w _).trans (hb.mono (by simp; omega))).trans (put3_below (Below.refl _ _) (by have := hb.size; simp at *; omega) _ _ _)⟩
end Go.Proofs.YticekkjambkifaaDoor.Rt

namespace Go.Proofs.YticekkjambkifaaDoor.Rt
open Go.RowKit CoRat

/-- What the loop of Over holds in memory. -/
def Four (w wr : World) (u v r o : Nat) (n n' : Bool) : Prop := C3 wr w.heap.size u n ∧ C3 wr (w.heap.size + 1) v n' ∧ C3 wr (w.heap.size + 1 + 1) r false ∧ C3 wr (w.heap.size + 1 + 1 + 1) o false ∧ Below w.heap.size w wr
section
variable {w wr wr' : World} {u v r o : Nat} {n n' : Bool}
theorem Four.size (h : Four w wr u v r o n n') : w.heap.size + 4 ≤ wr.heap.size := by have := Blk.lt h.2.2.2.1; omega
theorem Four.step (h : Four w wr u v r o n n') {k : Nat} (hb : Below k wr wr') (hn : w.heap.size + 4 ≤ k) : Four w wr' u v r o n n' :=
  ⟨Blk.below h.1 hb (by omega), Blk.below h.2.1 hb (by omega), Blk.below h.2.2.1 hb (by omega), Blk.below h.2.2.2.1 hb (by omega), h.2.2.2.2.trans (hb.mono (by omega))⟩
theorem Four.drew (h : Four w wr u v r o n n') : Four w wr.drew u v r o n n' := ⟨h.1, h.2.1, h.2.2.1, h.2.2.2.1, h.2.2.2.2.drew⟩
theorem Four.putr (h : Four w wr u v r o n n') (r' : Nat) : Four w (((wr.setCell ⟨w.heap.size + 1 + 1, 0, none⟩ (.int .u64 (hi r'))).setCell ⟨w.heap.size + 1 + 1, 1, none⟩ (.int .u64 (lo r'))).setCell ⟨w.heap.size + 1 + 1, 2, none⟩ (.bool false)) u v r' o n n' :=
  ⟨C3.far h.1 (by omega) _ _ _, C3.far h.2.1 (by omega) _ _ _, C3.put h.2.2.1 _ _, C3.far h.2.2.2.1 (by omega) _ _ _, put3_below h.2.2.2.2 (by omega) _ _ _⟩
theorem Four.puto (h : Four w wr u v r o n n') (o' : Nat) : Four w (((wr.setCell ⟨w.heap.size + 1 + 1 + 1, 0, none⟩ (.int .u64 (hi o'))).setCell ⟨w.heap.size + 1 + 1 + 1, 1, none⟩ (.int .u64 (lo o'))).setCell ⟨w.heap.size + 1 + 1 + 1, 2, none⟩ (.bool false)) u v r o' n n' :=
  ⟨C3.far h.1 (by omega) _ _ _, C3.far h.2.1 (by omega) _ _ _, C3.far h.2.2.1 (by omega) _ _ _, C3.put h.2.2.2.1 _ _, put3_below h.2.2.2.2 (by omega) _ _ _⟩
theorem C3.low {w : World} {g u u' : Nat} {n : Bool} (h : C3 w g u n) (e : hi u = hi u') : C3 (w.setCell ⟨g, 1, none⟩ (.int .u64 (lo u'))) g u' n := by
  have := Blk.set h 1 (.int .u64 (lo u'))
  unfold C3
  rw [← e]
  exact this
theorem C3.far1 {w : World} {g g' u : Nat} {n : Bool} (h : C3 w g u n) (hne : g ≠ g') (i : Nat) (a : Value) : C3 (w.setCell ⟨g', i, none⟩ a) g u n := Blk.far h (p := ⟨g', i, none⟩) hne _
theorem Four.lowr (h : Four w wr u v r o n n') (r' : Nat) (e : hi r = hi r') : Four w (wr.setCell ⟨w.heap.size + 1 + 1, 1, none⟩ (.int .u64 (lo r'))) u v r' o n n' :=
  ⟨C3.far1 h.1 (by omega) _ _, C3.far1 h.2.1 (by omega) _ _, C3.low h.2.2.1 e, C3.far1 h.2.2.2.1 (by omega) _ _, h.2.2.2.2.setCell (p := ⟨w.heap.size + 1 + 1, 1, none⟩) (by simp; omega) _⟩
theorem Four.lowo (h : Four w wr u v r o n n') (o' : Nat) (e : hi o = hi o') : Four w (wr.setCell ⟨w.heap.size + 1 + 1 + 1, 1, none⟩ (.int .u64 (lo o'))) u v r o' n n' :=
  ⟨C3.far1 h.1 (by omega) _ _, C3.far1 h.2.1 (by omega) _ _, C3.far1 h.2.2.1 (by omega) _ _, C3.low h.2.2.2.1 e, h.2.2.2.2.setCell (p := ⟨w.heap.size + 1 + 1 + 1, 1, none⟩) (by simp; omega) _⟩
end

theorem retIB {a b : Int} {c d : Bool} (h : a = b) (h' : c = d) : Ending.returned (.tuple #[.int .i64 a, .bool c]) = .returned (.tuple #[.int .i64 b, .bool d]) := by rw [h, h']
theorem hi_zero (z : Nat) : hi z = 0 ↔ z < 18446744073709551616 := by unfold hi; omega
theorem and62 (z : Nat) : bits .and .u64 (lo z) 4611686018427387903 = ((z % 4611686018427387904 : Nat) : Int) := by
  rw [and_mask62 _ (by unfold lo; omega) (by unfold lo; omega)]; unfold lo; omega
theorem bit_lo (u j : Nat) (hj : j ≤ 63) : bits .and .u64 (lo u / 2 ^ j) 1 = ((u / 2 ^ j % 2 : Nat) : Int) := by
  have e : lo u / 2 ^ j = ((u % 18446744073709551616 / 2 ^ j : Nat) : Int) := by unfold lo; simp
  have h1 : u % 18446744073709551616 / 2 ^ j ≤ u % 18446744073709551616 := Nat.div_le_self _ _
  have h3 : u % 18446744073709551616 / 2 ^ j < 18446744073709551616 := by omega
  rw [e, and_one _ (Int.natCast_nonneg _) (by generalize u % 18446744073709551616 / 2 ^ j = z at *; omega)]
  have h2 : u % 18446744073709551616 / 2 ^ j % 2 = u / 2 ^ j % 2 := by
    have h : (18446744073709551616 : Nat) = 2 ^ j * 2 ^ (64 - j) := by rw [← Nat.pow_add, show j + (64 - j) = 64 by omega]
    rw [h, Nat.mod_mul_right_div_self]
    have : (2 : Nat) ^ (64 - j) = 2 * 2 ^ (63 - j) := by rw [← Nat.pow_succ', show (63 - j).succ = 64 - j by omega]
    rw [this, Nat.mod_mul_right_mod]
  rw [← h2]; omega
theorem bit_hi (u j : Nat) (hu : u < B) (hj : 63 < j) (hj2 : j ≤ 127) : bits .and .u64 (hi u / 2 ^ (j - 64)) 1 = ((u / 2 ^ j % 2 : Nat) : Int) := by
  have e : hi u / 2 ^ (j - 64) = ((u / 18446744073709551616 / 2 ^ (j - 64) : Nat) : Int) := by unfold hi; simp
  have h1 : u / 18446744073709551616 / 2 ^ (j - 64) ≤ u / 18446744073709551616 := Nat.div_le_self _ _
  unfold B at hu
  have h3 : u / 18446744073709551616 / 2 ^ (j - 64) < 18446744073709551616 := by omega
  rw [e, and_one _ (Int.natCast_nonneg _) (by generalize u / 18446744073709551616 / 2 ^ (j - 64) = z at *; omega)]
  have h2 : u / 18446744073709551616 / 2 ^ (j - 64) = u / 2 ^ j := by
    rw [Nat.div_div_eq_div_mul, show (18446744073709551616 : Nat) = 2 ^ 64 from rfl, ← Nat.pow_add, show 64 + (j - 64) = j by omega]
  rw [h2]; omega
theorem or_bit (r b : Nat) (hb : b < 2) : bits .or .u64 (lo (r * 2)) (b : Int) = lo (r * 2 + b) := by
  have e1 : 0 ≤ lo (r * 2) := by unfold lo; omega
  have e2 : lo (r * 2) < 18446744073709551616 := by unfold lo; omega
  have e3 : (lo (r * 2)).toNat % 2 = 0 := by unfold lo; omega
  rw [or_join (lo (r * 2)) b 1 e1 e2 (by omega) (by omega) (by simpa using e3) (by omega)]
  unfold lo; omega
theorem hi_bit (r b : Nat) (hb : b < 2) : hi (r * 2) = hi (r * 2 + b) := by unfold hi; omega
theorem div_step {x v q r b : Nat} (hv : 0 < v) (hq : x / v = q) (hr : x % v = r) (hlt : r * 2 + b < v) : (x * 2 + b) / v = q * 2 ∧ (x * 2 + b) % v = r * 2 + b := by
  have e := Nat.div_add_mod x v
  rw [hq, hr] at e
  have e2 : x * 2 + b = (r * 2 + b) + v * (q * 2) := by rw [← e, ← Nat.mul_assoc]; omega
  rw [e2]
  exact ⟨by rw [Nat.add_mul_div_left _ _ hv, Nat.div_eq_of_lt hlt]; omega, by rw [Nat.add_mul_mod_self_left, Nat.mod_eq_of_lt hlt]⟩
theorem div_step' {x v q r b : Nat} (hv : 0 < v) (hq : x / v = q) (hr : x % v = r) (hb : b < 2) (hlt : ¬ r * 2 + b < v) : (x * 2 + b) / v = q * 2 + 1 ∧ (x * 2 + b) % v = r * 2 + b - v := by
  have e := Nat.div_add_mod x v
  have hrv : r < v := hr ▸ Nat.mod_lt _ hv
  rw [hq, hr] at e
  have e2 : x * 2 + b = (r * 2 + b - v) + v * (q * 2 + 1) := by rw [← e, Nat.mul_add, ← Nat.mul_assoc]; omega
  have hlt2 : r * 2 + b - v < v := by omega
  rw [e2]
  exact ⟨by rw [Nat.add_mul_div_left _ _ hv, Nat.div_eq_of_lt hlt2]; omega, by rw [Nat.add_mul_mod_self_left, Nat.mod_eq_of_lt hlt2]⟩
theorem pow_step (u j : Nat) : u / 2 ^ j = u / 2 ^ (j + 1) * 2 + u / 2 ^ j % 2 := by
  have : u / 2 ^ (j + 1) = u / 2 ^ j / 2 := by rw [Nat.div_div_eq_div_mul, Nat.pow_succ]
  omega

set_option maxHeartbeats 2000000 in
theorem over_any (h l h' l' : Int) (n n' : Bool) (u v : Nat) (w : World) (x : W h l u) (hu : u < B) (y : W h' l' v) (hv : v * 2 < B) (v0 : 0 < v) :
    Calls Tryd.prog 126 #[.agg #[.int .u64 h, .int .u64 l, .bool n], .agg #[.int .u64 h', .int .u64 l', .bool n']] w fun e w' => e = .returned (.tuple #[.int .i64 ((u / v % 4611686018427387904 : Nat) : Int), .bool (decide (u / v < 4611686018427387904))]) ∧ Below w.heap.size w w' := by
  obtain ⟨h0, h1, l0, l1⟩ := x.bd hu
  obtain ⟨a0, a1, b0, b1⟩ := y.bd (by omega)
  have hv' : decide (v = 0) = false := by simp; omega
  go_enter Tryd.func126, Tryd.ntmps126
  go_wp2_with fail
  refine (zero_any _ _ _ v _ y (by omega)).mono ?_; rintro e w1 ⟨rfl, hb⟩; obtain ⟨hc, hf⟩ := bat hb (w.heap.size + 4) (by simp)
  go_wp2_with fail
  have T : Four w w1 u v 0 0 n n' := by
    obtain ⟨rfl, rfl⟩ := x
    obtain ⟨rfl, rfl⟩ := y
    exact ⟨(((((Blk.new w _ _).alloc _).alloc _).alloc _).below hb (by simp; omega)), (((Blk.new' (w.alloc _) _ _ (by simp)).alloc _).alloc _).below hb (by simp),
      ((Blk.new' ((w.alloc _).alloc _) _ _ (by simp)).alloc _).below hb (by simp), (Blk.new' (((w.alloc _).alloc _).alloc _) _ _ (by simp)).below hb (by simp),
      ((by go_grown : Below w.heap.size w _).trans (hb.mono (by simp; omega)))⟩
  clear hc hf hb hv'
  go_loopg [8] 128 (fun g t wr => ∃ j : Int, -1 ≤ j ∧ j ≤ 127 ∧ (j + 1).toNat ≤ g ∧ t = .int .i64 j ∧ Four w wr u v (u / 2 ^ (j + 1).toNat % v) (u / 2 ^ (j + 1).toNat / v) n n')
  case atStart => exact ⟨127, by omega, by omega, by omega, rfl, by rw [show ((127 : Int) + 1).toNat = 128 from rfl, Nat.div_eq_of_lt (show u < 2 ^ 128 from hu), Nat.zero_mod, Nat.zero_div]; exact T⟩
  case round =>
    obtain ⟨i, hi0, hi1, hig, rfl, T'⟩ := hrel
    clear T
    by_cases hn : i = -1
    · subst hn
      simp at T'
      obtain ⟨k0, k1, k2, k3, k4, k5⟩ := C3.cells T'.2.2.2.1
      obtain ⟨q, hq⟩ : ∃ q, u / v % 4611686018427387904 = q := ⟨_, rfl⟩
      have hq1 : (q : Int) ≤ 4611686018427387903 := by omega
      have hm : bits .and .u64 (lo (u / v)) 4611686018427387903 = (q : Int) := by rw [and62, hq]
      have hv2 : Hid (hi (u / v) = 0 ↔ u / v < 18446744073709551616) := Lib.hid (hi_zero _)
      have hv3 : Hid (lo (u / v) = ((u / v % 18446744073709551616 : Nat) : Int)) := Lib.hid rfl
      replace hq := Lib.hid hq
      by_cases hz : hi (u / v) = 0
      case' pos => have hd : (hi (u / v) == 0) = true := by simpa using hz
      case' neg => have hd : (hi (u / v) == 0) = false := by simpa using hz
      all_goals
        replace hz := Lib.hid hz
        go_wp2_with fail
        go_quiet (fail)
        go_wp2
        go_ret2
        have a1 := hv2.out; have a2 := hv3.out; have a3 := hz.out
        refine ⟨retIB (by rw [hq.out]) ?_, below_drewN T'.2.2.2.2 _⟩
        generalize u / v = z at *
        rw [Bool.eq_iff_iff]
        simp
        omega
    · obtain ⟨j, rfl⟩ := Int.eq_ofNat_of_zero_le (show 0 ≤ i by omega)
      clear hn
      rw [show ((j : Int) + 1).toNat = j + 1 by omega] at T'
      have hr : u / 2 ^ (j + 1) % v < v := Nat.mod_lt _ v0
      have ho : u / 2 ^ (j + 1) / v * 2 < B := by
        have h1 : u / 2 ^ (j + 1) / v ≤ u / 2 ^ (j + 1) := Nat.div_le_self _ _
        have h2 := pow_step u j
        have h3 : u / 2 ^ j ≤ u := Nat.div_le_self _ _
        omega
      obtain ⟨e0, e1, e2, e3, e4, e5⟩ := C3.cells T'.1
      obtain ⟨f0, f1, f2, f3, f4, f5⟩ := C3.cells T'.2.1
      obtain ⟨g0, g1, g2, g3, g4, g5⟩ := C3.cells T'.2.2.1
      obtain ⟨k0, k1, k2, k3, k4, k5⟩ := C3.cells T'.2.2.2.1
      generalize hr' : u / 2 ^ (j + 1) % v = r at *
      generalize ho' : u / 2 ^ (j + 1) / v = o at *
      replace hr' := Lib.hid hr'
      replace ho' := Lib.hid ho'
      go_upto_region 7 with fail
      go_cut [] (fun wx => Four w wx u v (r * 2) (o * 2) n n')
      case first =>
        go_region_with (first | (go_at_call 141; (with_reducible refine (twice_any _ _ _ r _ (W.mk r) (by omega)).mono ?_); rintro e w5 ⟨rfl, hb5⟩; have T5 : Four w w5 u v r o n n' := (T'.drew.step hb5 T'.size); obtain ⟨hc5, hf5⟩ := bat hb5 (w.heap.size + 4) T'.size) | (go_at_call 141; (with_reducible refine (twice_any _ _ _ o _ (W.mk o) ho).mono ?_); rintro e w6 ⟨rfl, hb6⟩; have T6 : Four w w6 u v r o n n' := (T5.step hb6 T5.size); obtain ⟨hc6, hf6⟩ := bat hb6 (w.heap.size + 4) T5.size))
        all_goals go_wp2_with fail
        all_goals go_meet
        all_goals exact (T6.putr _).puto _
      case rest =>
        clear e0 e1 e2 e3 e4 e5 f0 f1 f2 f3 f4 f5 g0 g1 g2 g3 g4 g5 k0 k1 k2 k3 k4 k5
        obtain ⟨e0, e1, e2, e3, e4, e5⟩ := C3.cells hcut.1
        obtain ⟨f0, f1, f2, f3, f4, f5⟩ := C3.cells hcut.2.1
        obtain ⟨g0, g1, g2, g3, g4, g5⟩ := C3.cells hcut.2.2.1
        obtain ⟨k0, k1, k2, k3, k4, k5⟩ := C3.cells hcut.2.2.2.1
        obtain ⟨b, hb⟩ : ∃ b, u / 2 ^ j % 2 = b := ⟨_, rfl⟩
        have hb2 : b < 2 := by omega
        have orb := or_bit r b hb2
        have oro : bits .or .u64 (lo (o * 2)) 1 = lo (o * 2 + 1) := or_bit o 1 (by omega)
        have hib := Lib.hid (hi_bit r b hb2)
        have hio := Lib.hid (hi_bit o 1 (by omega))
        have hpow := Lib.hid (pow_step u j)
        replace hb := Lib.hid hb
        have hrB : r * 2 + b < B := by omega
        by_cases hj : 63 < j
        case' pos => have hbit : bits .and .u64 (hi u / 2 ^ (j - 64)) 1 = (b : Int) := by rw [bit_hi u j hu hj (by omega), hb.out]
        case' neg => have hbit : bits .and .u64 (lo u / 2 ^ j) 1 = (b : Int) := by rw [bit_lo u j (by omega), hb.out]
        all_goals
          by_cases hlt : r * 2 + b < v
          case' pos => have hd : decide (r * 2 + b < v) = true := by simpa using hlt
          case' neg => have hd : decide (r * 2 + b < v) = false := by simpa using hlt
          all_goals
            go_wp2_with fail
            refine (below_any _ _ _ _ _ _ (r * 2 + b) v _ ⟨hib.out, rfl⟩ hrB (W.mk v) (by omega)).mono ?_; rintro e w4 ⟨rfl, hb4⟩
            have T4 := (hcut.lowr (r * 2 + b) hib.out).step hb4 (by simpa using hcut.size)
            clear e0 e1 e2 e3 e4 e5 f0 f1 f2 f3 f4 f5 g0 g1 g2 g3 g4 g5 k0 k1 k2 k3 k4 k5
            obtain ⟨f0, f1, f2, f3, f4, f5⟩ := C3.cells T4.2.1
            obtain ⟨g0, g1, g2, g3, g4, g5⟩ := C3.cells T4.2.2.1
            obtain ⟨k0, k1, k2, k3, k4, k5⟩ := C3.cells T4.2.2.2.1
            go_wp2_with fail
          · refine (less_any _ _ _ _ _ _ (r * 2 + b) v _ (W.mk _) hrB (W.mk v) (by omega)).mono ?_; rintro e w5 ⟨rfl, hb5⟩
            have T5 := T4.step hb5 T4.size
            clear f0 f1 f2 f3 f4 f5 g0 g1 g2 g3 g4 g5 k0 k1 k2 k3 k4 k5
            obtain ⟨g0, g1, g2, g3, g4, g5⟩ := C3.cells T5.2.2.1
            obtain ⟨k0, k1, k2, k3, k4, k5⟩ := C3.cells T5.2.2.2.1
            go_wp2_with fail
            go_roundg j
            all_goals first | (omega; done) | skip
            refine ⟨(j : Int) - 1, by omega, by omega, by omega, rfl, ?_⟩
            rw [show ((j : Int) - 1 + 1).toNat = j by omega, hpow.out, hb.out, (div_step' v0 ho'.out hr'.out hb2 hlt).1, (div_step' v0 ho'.out hr'.out hb2 hlt).2]
            exact (T5.putr _).lowo _ hio.out
          · go_roundg j
            all_goals first | (omega; done) | skip
            refine ⟨(j : Int) - 1, by omega, by omega, by omega, rfl, ?_⟩
            rw [show ((j : Int) - 1 + 1).toNat = j by omega, hpow.out, hb.out, (div_step v0 ho'.out hr'.out hlt).1, (div_step v0 ho'.out hr'.out hlt).2]
            exact T4
end Go.Proofs.YticekkjambkifaaDoor.Rt
