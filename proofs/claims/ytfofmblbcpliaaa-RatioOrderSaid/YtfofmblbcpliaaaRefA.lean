/- The reference's two-word numbers: double, less, sub, add, size and divide. -/
import Derived.Test.YtfofmblbcpliaaaRatC
set_option linter.unusedVariables false
namespace Go.Proofs.Ytfofmblbcpliaaa
open Go.RowKit CoRat

theorem retW {a b c d : Int} (h : a = c) (h' : b = d) : Ending.returned (.agg #[.int .u64 a, .int .u64 b]) = .returned (.agg #[.int .u64 c, .int .u64 d]) := by rw [h, h']

set_option maxHeartbeats 400000 in
theorem rdouble_any (h l : Int) (u : Nat) (w : World) (x : W h l u) (hu : u * 2 < B) :
    Calls Try.prog 62 #[.agg #[.int .u64 h, .int .u64 l]] w fun e w' => e = .returned (.agg #[.int .u64 (hi (u * 2)), .int .u64 (lo (u * 2))]) ∧ Below w.heap.size w w' := by
  obtain ⟨h0, h1, l0, l1⟩ := x.bd (by omega)
  go_enter Try.func62, Try.ntmps62
  go_wp2
  go_returns
  exact ⟨retW (twice_W x hu).1 (twice_W x hu).2, by go_grown⟩

set_option maxHeartbeats 400000 in
theorem rless_any (h l h' l' : Int) (u v : Nat) (w : World) (x : W h l u) (hu : u < B) (y : W h' l' v) (hv : v < B) :
    Calls Try.prog 45 #[.agg #[.int .u64 h, .int .u64 l], .agg #[.int .u64 h', .int .u64 l']] w fun e w' => e = .returned (.bool (decide (u < v))) ∧ Below w.heap.size w w' := by
  obtain ⟨h0, h1, l0, l1⟩ := x.bd hu
  have hb := Lib.hid (below_W x y hu hv)
  go_enter Try.func45, Try.ntmps45
  go_wp2
  all_goals go_returns
  all_goals refine ⟨retBool ?_, by go_grown⟩
  all_goals have hb := hb.out
  all_goals (rw [Bool.eq_iff_iff]; simp; omega)

set_option maxHeartbeats 400000 in
theorem rsub_any (h l h' l' : Int) (u v : Nat) (w : World) (x : W h l u) (hu : u < B) (y : W h' l' v) (hv : v ≤ u) :
    Calls Try.prog 46 #[.agg #[.int .u64 h, .int .u64 l], .agg #[.int .u64 h', .int .u64 l']] w fun e w' => e = .returned (.agg #[.int .u64 (hi (u - v)), .int .u64 (lo (u - v))]) ∧ Below w.heap.size w w' := by
  obtain ⟨h0, h1, l0, l1⟩ := x.bd hu
  obtain ⟨a0, a1, b0, b1⟩ := y.bd (by omega)
  have e := Lib.hid x.val
  have f := Lib.hid y.val
  go_enter Try.func46, Try.ntmps46
  go_wp2
  all_goals go_returns
  all_goals have e := e.out
  all_goals have f := f.out
  · exact ⟨retW (hi_of (l := (l - l') % 18446744073709551616) (by simp only [IntKind.wrap_u64]; omega) (by simp only [IntKind.wrap_u64]; omega) (by omega) (by omega)) (by simp only [IntKind.wrap_u64]; exact lo_of (h := h - h' - 1) (by omega) (by omega) (by omega) (by omega)), by go_grown⟩
  · exact ⟨retW (hi_of (l := l - l') (by simp only [IntKind.wrap_u64]; omega) (by simp only [IntKind.wrap_u64]; omega) (by omega) (by omega)) (lo_of (h := h - h') (by omega) (by omega) (by omega) (by omega)), by go_grown⟩

set_option maxHeartbeats 400000 in
theorem radd_any (h l h' l' : Int) (u v : Nat) (w : World) (x : W h l u) (y : W h' l' v) (hv : u + v < B) :
    Calls Try.prog 44 #[.agg #[.int .u64 h, .int .u64 l], .agg #[.int .u64 h', .int .u64 l']] w fun e w' => e = .returned (.agg #[.int .u64 (hi (u + v)), .int .u64 (lo (u + v))]) ∧ Below w.heap.size w w' := by
  obtain ⟨h0, h1, l0, l1⟩ := x.bd (by omega)
  obtain ⟨a0, a1, b0, b1⟩ := y.bd (by omega)
  have e := Lib.hid x.val
  have f := Lib.hid y.val
  unfold B at hv
  go_enter Try.func44, Try.ntmps44
  go_wp2
  all_goals go_returns
  all_goals have e := e.out
  all_goals have f := f.out
  · rename_i hh
    simp only [IntKind.wrap_u64] at *
    exact ⟨retW (hi_of (l := (l + l') % 18446744073709551616) (by omega) (by omega) (by omega) (by omega)) (lo_of (h := h + h' + 1) (by omega) (by omega) (by omega) (by omega)), by go_grown⟩
  · rename_i hh
    simp only [IntKind.wrap_u64] at *
    exact ⟨retW (hi_of (l := (l + l') % 18446744073709551616) (by omega) (by omega) (by omega) (by omega)) (lo_of (h := h + h') (by omega) (by omega) (by omega) (by omega)), by go_grown⟩

set_option maxHeartbeats 400000 in
theorem rsize_any (n : Int) (w : World) (h0 : -9223372036854775808 ≤ n) (h1 : n ≤ 9223372036854775807) :
    Calls Try.prog 33 #[.int .i64 n] w fun e w' => e = .returned (.int .u64 (n.natAbs : Int)) ∧ w = w' := by
  go_enter Try.func33, Try.ntmps33
  go_wp2
  all_goals go_returns
  all_goals refine ⟨retInt ?_, rfl⟩
  · simp only [IntKind.wrap_u64]; omega
  · first | omega | (simp only [IntKind.wrap_u64]; omega)

def C2 (w : World) (g : Nat) (u : Nat) : Prop := Blk w g 49 #[.int .u64 (hi u), .int .u64 (lo u)]
theorem C2.cells {w : World} {g u : Nat} (h : C2 w g u) : w.cell? ⟨g, 0, none⟩ = some (.int .u64 (hi u)) ∧ w.cell? ⟨g, 1, none⟩ = some (.int .u64 (lo u)) ∧ w.frozen? ⟨g, 0, none⟩ = false ∧ w.frozen? ⟨g, 1, none⟩ = false :=
  ⟨Blk.cell h 0, Blk.cell h 1, Blk.frozen h 0, Blk.frozen h 1⟩
theorem C2.put {w : World} {g u : Nat} (h : C2 w g u) (v : Nat) : C2 ((w.setCell ⟨g, 0, none⟩ (.int .u64 (hi v))).setCell ⟨g, 1, none⟩ (.int .u64 (lo v))) g v := (Blk.set h 0 _).set 1 _
theorem C2.far {w : World} {g g' u : Nat} (h : C2 w g u) (hne : g ≠ g') (a b : Value) : C2 ((w.setCell ⟨g', 0, none⟩ a).setCell ⟨g', 1, none⟩ b) g u :=
  (Blk.far h (p := ⟨g', 0, none⟩) hne _).far (p := ⟨g', 1, none⟩) hne _
theorem C2.low {w : World} {g u u' : Nat} (h : C2 w g u) (e : hi u = hi u') : C2 (w.setCell ⟨g, 1, none⟩ (.int .u64 (lo u'))) g u' := by
  have := Blk.set h 1 (.int .u64 (lo u'))
  unfold C2
  rw [← e]
  exact this
theorem C2.far1 {w : World} {g g' u : Nat} (h : C2 w g u) (hne : g ≠ g') (i : Nat) (a : Value) : C2 (w.setCell ⟨g', i, none⟩ a) g u := Blk.far h (p := ⟨g', i, none⟩) hne _
theorem two_below {n : Nat} {w w' : World} (h : Below n w w') {g : Nat} (hg : n ≤ g) (a b : Value) : Below n w ((w'.setCell ⟨g, 0, none⟩ a).setCell ⟨g, 1, none⟩ b) :=
  (h.setCell (p := ⟨g, 0, none⟩) hg _).setCell (p := ⟨g, 1, none⟩) hg _
/-- What the loop of divide holds: the two numbers, the results' places, the quotient and the rest. -/
def Six (w wr : World) (u v o r : Nat) : Prop := C2 wr w.heap.size u ∧ C2 wr (w.heap.size + 1) v ∧ C2 wr (w.heap.size + 1 + 1) 0 ∧ C2 wr (w.heap.size + 1 + 1 + 1) 0 ∧ C2 wr (w.heap.size + 1 + 1 + 1 + 1) o ∧ C2 wr (w.heap.size + 1 + 1 + 1 + 1 + 1) r ∧ Below w.heap.size w wr
section
variable {w wr wr' : World} {u v o r : Nat}
theorem Six.size (h : Six w wr u v o r) : w.heap.size + 6 ≤ wr.heap.size := by have := Blk.lt h.2.2.2.2.2.1; omega
theorem Six.step (h : Six w wr u v o r) {k : Nat} (hb : Below k wr wr') (hn : w.heap.size + 6 ≤ k) : Six w wr' u v o r :=
  ⟨Blk.below h.1 hb (by omega), Blk.below h.2.1 hb (by omega), Blk.below h.2.2.1 hb (by omega), Blk.below h.2.2.2.1 hb (by omega), Blk.below h.2.2.2.2.1 hb (by omega), Blk.below h.2.2.2.2.2.1 hb (by omega), h.2.2.2.2.2.2.trans (hb.mono (by omega))⟩
theorem Six.putr (h : Six w wr u v o r) (r' : Nat) : Six w ((wr.setCell ⟨w.heap.size + 1 + 1 + 1 + 1 + 1, 0, none⟩ (.int .u64 (hi r'))).setCell ⟨w.heap.size + 1 + 1 + 1 + 1 + 1, 1, none⟩ (.int .u64 (lo r'))) u v o r' :=
  ⟨C2.far h.1 (by omega) _ _, C2.far h.2.1 (by omega) _ _, C2.far h.2.2.1 (by omega) _ _, C2.far h.2.2.2.1 (by omega) _ _, C2.far h.2.2.2.2.1 (by omega) _ _, C2.put h.2.2.2.2.2.1 _, two_below h.2.2.2.2.2.2 (by omega) _ _⟩
theorem Six.puto (h : Six w wr u v o r) (o' : Nat) : Six w ((wr.setCell ⟨w.heap.size + 1 + 1 + 1 + 1, 0, none⟩ (.int .u64 (hi o'))).setCell ⟨w.heap.size + 1 + 1 + 1 + 1, 1, none⟩ (.int .u64 (lo o'))) u v o' r :=
  ⟨C2.far h.1 (by omega) _ _, C2.far h.2.1 (by omega) _ _, C2.far h.2.2.1 (by omega) _ _, C2.far h.2.2.2.1 (by omega) _ _, C2.put h.2.2.2.2.1 _, C2.far h.2.2.2.2.2.1 (by omega) _ _, two_below h.2.2.2.2.2.2 (by omega) _ _⟩
theorem Six.lowr (h : Six w wr u v o r) (r' : Nat) (e : hi r = hi r') : Six w (wr.setCell ⟨w.heap.size + 1 + 1 + 1 + 1 + 1, 1, none⟩ (.int .u64 (lo r'))) u v o r' :=
  ⟨C2.far1 h.1 (by omega) _ _, C2.far1 h.2.1 (by omega) _ _, C2.far1 h.2.2.1 (by omega) _ _, C2.far1 h.2.2.2.1 (by omega) _ _, C2.far1 h.2.2.2.2.1 (by omega) _ _, C2.low h.2.2.2.2.2.1 e, h.2.2.2.2.2.2.setCell (p := ⟨w.heap.size + 1 + 1 + 1 + 1 + 1, 1, none⟩) (by simp; omega) _⟩
theorem Six.lowo (h : Six w wr u v o r) (o' : Nat) (e : hi o = hi o') : Six w (wr.setCell ⟨w.heap.size + 1 + 1 + 1 + 1, 1, none⟩ (.int .u64 (lo o'))) u v o' r :=
  ⟨C2.far1 h.1 (by omega) _ _, C2.far1 h.2.1 (by omega) _ _, C2.far1 h.2.2.1 (by omega) _ _, C2.far1 h.2.2.2.1 (by omega) _ _, C2.low h.2.2.2.2.1 e, C2.far1 h.2.2.2.2.2.1 (by omega) _ _, h.2.2.2.2.2.2.setCell (p := ⟨w.heap.size + 1 + 1 + 1 + 1, 1, none⟩) (by simp; omega) _⟩
end
end Go.Proofs.Ytfofmblbcpliaaa
