/- Both Denser, with and without an error. -/
import Derived.Test.YticekkjambkifaaDoorRdnR
set_option linter.unusedVariables false
set_option linter.unusedSimpArgs false
namespace Go.Proofs.YticekkjambkifaaDoor.Fl
open Go.RowKit Go.Proofs.YticekkjambkifaaDoor CoBit CoRat Rt

def dsS (n : Nat) (es : List (Int × Int)) (p q : Int) : List Int := if prcE p q = 0 then bset (dR es p.toNat q.toNat (2 ^ n - 1)).1 else []
def dsB (n : Nat) (es : List (Int × Int)) (p q : Int) : Bool := if prcE p q = 0 then decide (0 < (dR es p.toNat q.toNat (2 ^ n - 1)).2) else false
def RetD3 (w : World) (S : List Int) (b : Bool) (err : Int) (e : Ending) (w' : World) : Prop := ∃ (A : Option Addr) (k c : Nat), e = .returned (.tuple #[.slice A k c, .bool b, .int .i64 err]) ∧ k ≤ c ∧ RI w' A k S ∧ Below w.heap.size w w'
theorem prcE_nat {p q : Int} (h : prcE p q = 0) : ∃ a b : Nat, p = (a : Int) ∧ q = (b : Int) := by
  unfold prcE at h
  split at h
  · cases h
  · rename_i h1
    split at h
    · cases h
    · rename_i h2
      have hk : okF p q = true := by cases hh : okF p q with
        | true => rfl
        | false => exact absurd hh h1
      have := okF_bd hk
      obtain ⟨a, ha⟩ := Int.eq_ofNat_of_zero_le (show 0 ≤ p by omega)
      obtain ⟨b, hb⟩ := Int.eq_ofNat_of_zero_le (show 0 ≤ q by omega)
      exact ⟨a, b, ha, hb⟩
set_option maxRecDepth 100000 in
set_option maxHeartbeats 2000000 in
theorem denser_err (A : Option Addr) (m c n : Nat) (es : List (Int × Int)) (p q : Int) (w : World) (h : RE w A m es) (hm : m ≤ 4096) (hz : chkG n es = 0) (hpq : prcE p q ≠ 0) :
    Calls Tryd.prog 50 #[.agg #[.int .i64 (n : Nat), .slice A m c], .agg #[.int .i64 p, .int .i64 q]] w (RetD3 w [] false (prcE p q)) := by
  have kc := fun w h => gcheck_any A m c n es w h (by omega)
  rw [hz] at kc
  have kpr := fun w => price_any p q w
  generalize prcE p q = E at *
  have hE : (E == 0) = false := by simpa using hpq
  have hE2 : (E != 0) = true := by simpa using hpq
  replace kc := Lib.hid kc
  replace kpr := Lib.hid kpr
  have B0 : Below w.heap.size w ((w.alloc (.cells #[.int .i64 (n : Nat), .slice A m c] 25)).alloc (.cells #[.int .i64 p, .int .i64 q] 36)) := ((Below.refl _ w).alloc (Nat.le_refl _) _).alloc (by simp) _
  have X0 : Blk ((w.alloc (.cells #[.int .i64 (n : Nat), .slice A m c] 25)).alloc (.cells #[.int .i64 p, .int .i64 q] 36)) (w.heap.size + 1) 36 #[.int .i64 p, .int .i64 q] := Blk.new' _ _ _ (by simp)
  clear hz hpq
  go_enter Tryd.func50, Tryd.ntmps50
  go_wp2_with fail
  refine (kc.out _ ((h.alloc _).alloc _)).mono ?_
  rintro e w1 ⟨rfl, hb1⟩
  have X1 := X0.below hb1 X0.lt
  have B1 := B0.trans (hb1.mono B0.size)
  clear X0 B0 hb1 kc h
  have x0 := Blk.cell X1 0
  have x1 := Blk.cell X1 1
  simp at x0 x1
  go_wp2_with (first
    | (go_at_call 90; (with_reducible refine (kpr.out _).mono ?_); rintro e w2 ⟨rfl, hb2⟩)
    | fail)
  refine bodyPost_ret (v := .tuple #[.slice none 0 0, .bool false, .int .i64 E]) (by simp [results, Tryd.results50, go_sem]) rfl ?_
  exact ⟨none, 0, 0, rfl, Nat.le_refl _, RI.none_, B1.trans (hb2.mono B1.size)⟩
set_option maxRecDepth 100000 in
set_option maxHeartbeats 2000000 in
theorem rdenser_err (A : Option Addr) (m c n : Nat) (es : List (Int × Int)) (p q : Int) (w : World) (h : RE w A m es) (hm : m ≤ 4096) (hz : chkG n es = 0) (hpq : prcE p q ≠ 0) :
    Calls Tryd.prog 51 #[.agg #[.int .i64 (n : Nat), .slice A m c], .agg #[.int .i64 p, .int .i64 q]] w (RetD3 w [] false (prcE p q)) := by
  have kc := fun w h => rcheck_any A m c n es w h (by omega)
  rw [hz] at kc
  have kv := fun w => Rt.rvalid_any p q w
  replace kc := Lib.hid kc
  have B0 : Below w.heap.size w ((w.alloc (.cells #[.int .i64 (n : Nat), .slice A m c] 25)).alloc (.cells #[.int .i64 p, .int .i64 q] 36)) := ((Below.refl _ w).alloc (Nat.le_refl _) _).alloc (by simp) _
  have X0 : Blk ((w.alloc (.cells #[.int .i64 (n : Nat), .slice A m c] 25)).alloc (.cells #[.int .i64 p, .int .i64 q] 36)) (w.heap.size + 1) 36 #[.int .i64 p, .int .i64 q] := Blk.new' _ _ _ (by simp)
  have hcs : okF p q = false ∧ prcE p q = 4 ∨ okF p q = true ∧ (p < 0 ∨ ¬ p < 0 ∧ 1048576 < p ∨ ¬ p < 0 ∧ ¬ 1048576 < p ∧ 1048576 < q) ∧ prcE p q = 1 := by
    unfold prcE at hpq ⊢
    cases hk : okF p q with
    | false => left; exact ⟨rfl, if_pos rfl⟩
    | true =>
      right
      rw [hk, if_neg (by decide)] at hpq
      rw [if_neg (by decide)]
      by_cases h2 : p < 0 ∨ 1048576 < p ∨ 1048576 < q
      · rw [if_pos h2]; exact ⟨rfl, by omega, rfl⟩
      · rw [if_neg h2] at hpq; exact absurd rfl hpq
  clear hz hpq
  rcases hcs with ⟨hk, hv⟩ | ⟨hk, hc, hv⟩
  · rw [hv]
    rw [hk] at kv
    replace kv := Lib.hid kv
    clear hv hk
    go_enter Tryd.func51, Tryd.ntmps51
    go_wp2_with fail
    refine (kc.out _ ((h.alloc _).alloc _)).mono ?_
    rintro e w1 ⟨rfl, hb1⟩
    have X1 := X0.below hb1 X0.lt
    have B1 := B0.trans (hb1.mono B0.size)
    clear X0 B0 hb1 kc h
    have x0 := Blk.cell X1 0
    have x1 := Blk.cell X1 1
    simp at x0 x1
    go_wp2_with (first
      | (go_at_call 43; (with_reducible refine (kv.out _).mono ?_); rintro e w2 ⟨rfl, hb2⟩)
      | fail)
    refine bodyPost_ret (v := .tuple #[.slice none 0 0, .bool false, .int .i64 4]) (by simp [results, Tryd.results51, go_sem]) rfl ?_
    exact ⟨none, 0, 0, rfl, Nat.le_refl _, RI.none_, B1.trans (hb2.mono B1.size)⟩
  · rw [hv]
    rw [hk] at kv
    replace kv := Lib.hid kv
    clear hv hk
    go_enter Tryd.func51, Tryd.ntmps51
    go_wp2_with fail
    refine (kc.out _ ((h.alloc _).alloc _)).mono ?_
    rintro e w1 ⟨rfl, hb1⟩
    have X1 := X0.below hb1 X0.lt
    have B1 := B0.trans (hb1.mono B0.size)
    clear X0 B0 hb1 kc h
    have x0 := Blk.cell X1 0
    have x1 := Blk.cell X1 1
    simp at x0 x1
    go_upto_region 6 with (first
      | (go_at_call 43; (with_reducible refine (kv.out _).mono ?_); rintro e w2 ⟨rfl, hb2⟩)
      | fail)
    have X2 := X1.below hb2 X1.lt
    clear x0 x1
    have x0 := Blk.cell X2 0
    have x1 := Blk.cell X2 1
    simp at x0 x1
    rcases hc with h1 | ⟨h1, h2⟩ | ⟨h1, h2, h3⟩
    all_goals
      go_wp2_with fail
      refine bodyPost_ret (v := .tuple #[.slice none 0 0, .bool false, .int .i64 1]) (by simp [results, Tryd.results51, go_sem]) rfl ?_
      exact ⟨none, 0, 0, rfl, Nat.le_refl _, RI.none_, B1.trans (hb2.mono B1.size)⟩
theorem denser_all (A : Option Addr) (m c n : Nat) (es : List (Int × Int)) (p q : Int) (w : World) (h : RE w A m es) (hT : Tab w) (hm : m ≤ 4096) (hz : chkG n es = 0) (hn : n ≤ 40) :
    Calls Tryd.prog 50 #[.agg #[.int .i64 (n : Nat), .slice A m c], .agg #[.int .i64 p, .int .i64 q]] w (RetD3 w (dsS n es p q) (dsB n es p q) (prcE p q)) := by
  by_cases hpq : prcE p q = 0
  · obtain ⟨a, b, rfl, rfl⟩ := prcE_nat hpq
    refine (denser_ok A m c n es a b w h hT hm hz (by omega) hpq).mono ?_
    rintro e w' ⟨mm, A1, k, c1, rfl, hmx, hk, hr, hb⟩
    obtain ⟨r1, r2⟩ := dR_max (show n ≤ 62 by omega) hmx
    have hS : dsS n es (a : Int) (b : Int) = bset mm := by unfold dsS; rw [if_pos hpq, Int.toNat_natCast, Int.toNat_natCast, r1]
    have hB : dsB n es (a : Int) (b : Int) = decide (a * pop mm < insE es (bset mm) * b) := by
      unfold dsB
      rw [if_pos hpq, Int.toNat_natCast, Int.toNat_natCast, r2]
      unfold dV
      rw [← Int.natCast_mul, ← Int.natCast_mul]
      exact decide_eq_decide.2 (by omega)
    rw [hS, hB, hpq]
    exact ⟨A1, k, c1, rfl, hk, hr, hb⟩
  · have hS : dsS n es p q = [] := if_neg hpq
    have hB : dsB n es p q = false := if_neg hpq
    rw [hS, hB]
    exact denser_err A m c n es p q w h hm hz hpq
theorem rdenser_all (A : Option Addr) (m c n : Nat) (es : List (Int × Int)) (p q : Int) (w : World) (h : RE w A m es) (hm : m ≤ 4096) (hz : chkG n es = 0) (hn : n ≤ 40) :
    Calls Tryd.prog 51 #[.agg #[.int .i64 (n : Nat), .slice A m c], .agg #[.int .i64 p, .int .i64 q]] w (RetD3 w (dsS n es p q) (dsB n es p q) (prcE p q)) := by
  by_cases hpq : prcE p q = 0
  · obtain ⟨a, b, rfl, rfl⟩ := prcE_nat hpq
    refine (rdenser_ok A m c n es a b w h hm hz hn hpq).mono ?_
    rintro e w' ⟨A1, k, c1, rfl, hk, hr, hb⟩
    have hS : dsS n es (a : Int) (b : Int) = bset (dR es a b (2 ^ n - 1)).1 := by unfold dsS; rw [if_pos hpq, Int.toNat_natCast, Int.toNat_natCast]
    have hB : dsB n es (a : Int) (b : Int) = decide (0 < (dR es a b (2 ^ n - 1)).2) := by unfold dsB; rw [if_pos hpq, Int.toNat_natCast, Int.toNat_natCast]
    rw [hS, hB, hpq]
    exact ⟨A1, k, c1, rfl, hk, hr, hb⟩
  · have hS : dsS n es p q = [] := if_neg hpq
    have hB : dsB n es p q = false := if_neg hpq
    rw [hS, hB]
    exact rdenser_err A m c n es p q w h hm hz hpq
end Go.Proofs.YticekkjambkifaaDoor.Fl
