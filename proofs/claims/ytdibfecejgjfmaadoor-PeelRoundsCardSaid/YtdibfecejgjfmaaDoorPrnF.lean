/- Printed by merge.py from PrnD, PrnE, PrnF. -/
import Derived.Test.YtdibfecejgjfmaaDoorPrnC
import Derived.Test.YtdibfecejgjfmaaDoorSma
import Derived.Test.YtdibfecejgjfmaaDoorPeeJ
import Derived.Test.YtdibfecejgjfmaaDoorRatN
/- Rounds, of the package and of the reference, with and without an error. (Printed by genPrnD.py.) -/
set_option linter.unusedVariables false
set_option linter.unusedSimpArgs false
namespace Go.Proofs.YtdibfecejgjfmaaDoor
open Go.RowKit CoBit CoRat Rt

def errR (n : Int) (es : List (Int × Int)) (N D : Int) : Int := if chkG n es ≠ 0 then chkG n es else if okF N D = false then 4 else if N < 0 ∨ 1048576 < N ∨ 1048576 < D then 1 else 0
def rdV (n : Int) (es : List (Int × Int)) (N D : Int) : List (List Int) × List Int × List Int × Int × Int :=
  if errR n es N D = 0 then ((rndK n.toNat es N.toNat D.toNat n.toNat).2.2, (rndK n.toNat es N.toNat D.toNat n.toNat).2.2.flatten, bset (rndK n.toNat es N.toNat D.toNat n.toNat).2.1.1, (rndK n.toNat es N.toNat D.toNat n.toNat).2.1.2.1, fixD (rndK n.toNat es N.toNat D.toNat n.toNat).2.1.2.2) else ([], [], [], 0, 0)
theorem errR_cases (n : Int) (es : List (Int × Int)) (N D : Int) : (chkG n es ≠ 0 ∧ errR n es N D = chkG n es) ∨ (chkG n es = 0 ∧ okF N D = false ∧ errR n es N D = 4) ∨ (chkG n es = 0 ∧ okF N D = true ∧ N < 0 ∧ errR n es N D = 1) ∨ (chkG n es = 0 ∧ okF N D = true ∧ ¬ N < 0 ∧ 1048576 < N ∧ errR n es N D = 1) ∨ (chkG n es = 0 ∧ okF N D = true ∧ ¬ N < 0 ∧ ¬ 1048576 < N ∧ 1048576 < D ∧ errR n es N D = 1) ∨ (chkG n es = 0 ∧ okF N D = true ∧ ¬ N < 0 ∧ ¬ 1048576 < N ∧ ¬ 1048576 < D ∧ errR n es N D = 0) := by
  unfold errR
  by_cases h0 : chkG n es = 0
  · rw [if_neg (by simp [h0])]
    refine .inr ?_
    cases h1 : okF N D with
    | false => exact .inl ⟨h0, rfl, if_pos rfl⟩
    | true =>
      rw [if_neg (by simp)]
      refine .inr ?_
      by_cases h2 : N < 0
      · exact .inl ⟨h0, rfl, h2, if_pos (.inl h2)⟩
      · by_cases h3 : 1048576 < N
        · exact .inr (.inl ⟨h0, rfl, h2, h3, if_pos (.inr (.inl h3))⟩)
        · by_cases h4 : 1048576 < D
          · exact .inr (.inr (.inl ⟨h0, rfl, h2, h3, h4, if_pos (.inr (.inr h4))⟩))
          · exact .inr (.inr (.inr ⟨h0, rfl, h2, h3, h4, if_neg (by omega)⟩))
  · exact .inl ⟨h0, if_pos h0⟩
theorem rdV_err {n : Int} {es : List (Int × Int)} {N D e : Int} (h : errR n es N D = e) (he : e ≠ 0) : rdV n es N D = ([], [], [], 0, 0) := by unfold rdV; rw [if_neg (by rw [h]; exact he)]
theorem rdV_rows (n : Int) (es : List (Int × Int)) (N D : Int) : ∀ ys ∈ (rdV n es N D).1, ys.length ≤ 64 := by
  unfold rdV
  split
  · exact rnd_rows _
  · intro ys h; cases h
theorem RLL.none_ {w : World} : RLL w none 0 [] := ⟨[], ⟨rfl, fun h => absurd h (Nat.lt_irrefl 0)⟩, rfl, fun i u ys h => by simp at h⟩
theorem rnd_err {w : World} {err : Int} {w' : World} (hb : Below w.heap.size w w') : RetRnd w [] [] [] 0 0 err (.returned (.tuple #[.slice none 0 0, .agg #[.slice none 0 0, .slice none 0 0, .int .i64 0, .int .i64 0], .int .i64 err])) w' :=
  ⟨none, 0, 0, none, 0, 0, none, 0, 0, rfl, Nat.le_refl _, Nat.le_refl _, Nat.le_refl _, RLL.none_, RI.none_, RI.none_, hb⟩
set_option maxRecDepth 100000 in
set_option maxHeartbeats 8000000 in
theorem rounds_all (A : Option Addr) (m c : Nat) (n : Int) (es : List (Int × Int)) (N D : Int) (w : World) (hT : Tab w) (h : RE w A m es) (hm : m ≤ 68719476736) :
    Calls Tryd.prog 20 #[.agg #[.int .i64 n, .slice A m c], .agg #[.int .i64 N, .int .i64 D]] w (RetRnd w (rdV n es N D).1 (rdV n es N D).2.1 (rdV n es N D).2.2.1 (rdV n es N D).2.2.2.1 (rdV n es N D).2.2.2.2 (errR n es N D)) := by
  have kck := fun w h => gcheck_any A m c n es w h (by omega)
  have kva := fun w => Rt.valid_any N D w
  rcases errR_cases n es N D with ⟨z0, z⟩ | ⟨z0, z1, z⟩ | ⟨z0, z1, z2, z⟩ | ⟨z0, z1, z2, z3, z⟩ | ⟨z0, z1, z2, z3, z4, z⟩ | ⟨z0, z1, z2, z3, z4, z⟩
  · rw [rdV_err z z0, z]
    generalize hq : chkG n es = q at *
    have hbq : (q != 0) = true := by rw [bne_iff_ne]; exact z0
    clear hq z z0
    replace kck := Lib.hid kck
    replace kva := Lib.hid kva
    go_enter Tryd.func20, Tryd.ntmps20
    go_wp2_with fail
    refine (kck.out _ (((h.alloc _).alloc _).alloc _)).mono ?_
    rintro e w1 ⟨rfl, hb1⟩
    simp only [World.size_alloc] at hb1
    have b0 : Below w.heap.size w (((w.alloc (.cells #[.int .i64 n, .slice A m c] 27)).alloc (.cells #[.int .i64 N, .int .i64 D] 31)).alloc (.cells #[.slice none 0 0, .slice none 0 0, .int .i64 0, .int .i64 0] 33)) := (((Below.refl _ _).alloc (Nat.le_refl _) _).alloc (by simp) _).alloc (by simp; omega) _
    have hb0 := b0.trans (hb1.mono (by omega))
    have X1 : Blk w1 (w.heap.size + 1) 31 #[.int .i64 N, .int .i64 D] := Blk.below ((Blk.new' _ _ _ (by simp)).alloc _) hb1 (by omega)
    have R1 : Blk w1 (w.heap.size + 1 + 1) 33 #[.slice none 0 0, .slice none 0 0, .int .i64 0, .int .i64 0] := Blk.below (Blk.new' _ _ _ (by simp)) hb1 (by omega)
    have s1 : w.heap.size + 1 + 1 + 1 ≤ w1.heap.size := by have := hb1.size; simp at this; omega
    have x0 := Blk.cell X1 0
    have x1 := Blk.cell X1 1
    simp at x0 x1
    clear hb1 b0 kck
    have hb02 := hb0
    have R2 := R1
    clear hb0 R1
    have y0 := Blk.cell R2 0
    have y1 := Blk.cell R2 1
    have y2 := Blk.cell R2 2
    have y3 := Blk.cell R2 3
    have f0 := Blk.frozen R2 0
    have f1 := Blk.frozen R2 1
    have f2 := Blk.frozen R2 2
    have f3 := Blk.frozen R2 3
    simp at y0 y1 y2 y3
    have hzz := Blk.set (Blk.set (Blk.set (Blk.set R2 0 (.slice none 0 0)) 1 (.slice none 0 0)) 2 (.int .i64 0)) 3 (.int .i64 0)
    have e0 := Blk.cell hzz 0
    have e1 := Blk.cell hzz 1
    have e2 := Blk.cell hzz 2
    have e3 := Blk.cell hzz 3
    simp at e0 e1 e2 e3
    have hbz := hb02.grown (grown_set (grown_set (grown_set (grown_set (World.grownBy.refl _ (some (w.heap.size + 1 + 1))) 0 (.slice none 0 0)) 1 (.slice none 0 0)) 2 (.int .i64 0)) 3 (.int .i64 0)) hb02.size (fun k hk => by injection hk with hk; omega)
    clear hzz R2
    go_wp2_with fail
    refine bodyPost_ret (v := .tuple #[.slice none 0 0, .agg #[.slice none 0 0, .slice none 0 0, .int .i64 0, .int .i64 0], .int .i64 q]) (by simp [results, Tryd.results20, go_sem, e0, e1, e2, e3]) rfl ?_
    exact rnd_err (by first | exact hbz | exact hbz.drew)
  · rw [rdV_err z (by decide), z]
    rw [z0] at kck
    rw [z1] at kva
    replace kck := Lib.hid kck
    replace kva := Lib.hid kva
    go_enter Tryd.func20, Tryd.ntmps20
    go_wp2_with fail
    refine (kck.out _ (((h.alloc _).alloc _).alloc _)).mono ?_
    rintro e w1 ⟨rfl, hb1⟩
    simp only [World.size_alloc] at hb1
    have b0 : Below w.heap.size w (((w.alloc (.cells #[.int .i64 n, .slice A m c] 27)).alloc (.cells #[.int .i64 N, .int .i64 D] 31)).alloc (.cells #[.slice none 0 0, .slice none 0 0, .int .i64 0, .int .i64 0] 33)) := (((Below.refl _ _).alloc (Nat.le_refl _) _).alloc (by simp) _).alloc (by simp; omega) _
    have hb0 := b0.trans (hb1.mono (by omega))
    have X1 : Blk w1 (w.heap.size + 1) 31 #[.int .i64 N, .int .i64 D] := Blk.below ((Blk.new' _ _ _ (by simp)).alloc _) hb1 (by omega)
    have R1 : Blk w1 (w.heap.size + 1 + 1) 33 #[.slice none 0 0, .slice none 0 0, .int .i64 0, .int .i64 0] := Blk.below (Blk.new' _ _ _ (by simp)) hb1 (by omega)
    have s1 : w.heap.size + 1 + 1 + 1 ≤ w1.heap.size := by have := hb1.size; simp at this; omega
    have x0 := Blk.cell X1 0
    have x1 := Blk.cell X1 1
    simp at x0 x1
    clear hb1 b0 kck
    go_wp2_with fail
    refine (kva.out _).mono ?_
    rintro e w2 ⟨rfl, hb2⟩
    have hb02 := hb0.trans (hb2.mono (by omega))
    have X2 := X1.below hb2 X1.lt
    have R2 := R1.below hb2 R1.lt
    have s2 := hb2.size
    clear hb0 X1 R1 x0 x1 hb2 kva
    have x0 := Blk.cell X2 0
    have x1 := Blk.cell X2 1
    simp at x0 x1
    have y0 := Blk.cell R2 0
    have y1 := Blk.cell R2 1
    have y2 := Blk.cell R2 2
    have y3 := Blk.cell R2 3
    have f0 := Blk.frozen R2 0
    have f1 := Blk.frozen R2 1
    have f2 := Blk.frozen R2 2
    have f3 := Blk.frozen R2 3
    simp at y0 y1 y2 y3
    have hzz := Blk.set (Blk.set (Blk.set (Blk.set R2 0 (.slice none 0 0)) 1 (.slice none 0 0)) 2 (.int .i64 0)) 3 (.int .i64 0)
    have e0 := Blk.cell hzz 0
    have e1 := Blk.cell hzz 1
    have e2 := Blk.cell hzz 2
    have e3 := Blk.cell hzz 3
    simp at e0 e1 e2 e3
    have hbz := hb02.grown (grown_set (grown_set (grown_set (grown_set (World.grownBy.refl _ (some (w.heap.size + 1 + 1))) 0 (.slice none 0 0)) 1 (.slice none 0 0)) 2 (.int .i64 0)) 3 (.int .i64 0)) hb02.size (fun k hk => by injection hk with hk; omega)
    clear hzz R2
    go_wp2_with fail
    refine bodyPost_ret (v := .tuple #[.slice none 0 0, .agg #[.slice none 0 0, .slice none 0 0, .int .i64 0, .int .i64 0], .int .i64 4]) (by simp [results, Tryd.results20, go_sem, e0, e1, e2, e3]) rfl ?_
    exact rnd_err (by first | exact hbz | exact hbz.drew)
  · rw [rdV_err z (by decide), z]
    rw [z0] at kck
    rw [z1] at kva
    have q1 : decide (N < 0) = true := decide_eq_true z2
    replace kck := Lib.hid kck
    replace kva := Lib.hid kva
    go_enter Tryd.func20, Tryd.ntmps20
    go_wp2_with fail
    refine (kck.out _ (((h.alloc _).alloc _).alloc _)).mono ?_
    rintro e w1 ⟨rfl, hb1⟩
    simp only [World.size_alloc] at hb1
    have b0 : Below w.heap.size w (((w.alloc (.cells #[.int .i64 n, .slice A m c] 27)).alloc (.cells #[.int .i64 N, .int .i64 D] 31)).alloc (.cells #[.slice none 0 0, .slice none 0 0, .int .i64 0, .int .i64 0] 33)) := (((Below.refl _ _).alloc (Nat.le_refl _) _).alloc (by simp) _).alloc (by simp; omega) _
    have hb0 := b0.trans (hb1.mono (by omega))
    have X1 : Blk w1 (w.heap.size + 1) 31 #[.int .i64 N, .int .i64 D] := Blk.below ((Blk.new' _ _ _ (by simp)).alloc _) hb1 (by omega)
    have R1 : Blk w1 (w.heap.size + 1 + 1) 33 #[.slice none 0 0, .slice none 0 0, .int .i64 0, .int .i64 0] := Blk.below (Blk.new' _ _ _ (by simp)) hb1 (by omega)
    have s1 : w.heap.size + 1 + 1 + 1 ≤ w1.heap.size := by have := hb1.size; simp at this; omega
    have x0 := Blk.cell X1 0
    have x1 := Blk.cell X1 1
    simp at x0 x1
    clear hb1 b0 kck
    go_wp2_with fail
    refine (kva.out _).mono ?_
    rintro e w2 ⟨rfl, hb2⟩
    have hb02 := hb0.trans (hb2.mono (by omega))
    have X2 := X1.below hb2 X1.lt
    have R2 := R1.below hb2 R1.lt
    have s2 := hb2.size
    clear hb0 X1 R1 x0 x1 hb2 kva
    have x0 := Blk.cell X2 0
    have x1 := Blk.cell X2 1
    simp at x0 x1
    have y0 := Blk.cell R2 0
    have y1 := Blk.cell R2 1
    have y2 := Blk.cell R2 2
    have y3 := Blk.cell R2 3
    have f0 := Blk.frozen R2 0
    have f1 := Blk.frozen R2 1
    have f2 := Blk.frozen R2 2
    have f3 := Blk.frozen R2 3
    simp at y0 y1 y2 y3
    have hzz := Blk.set (Blk.set (Blk.set (Blk.set R2 0 (.slice none 0 0)) 1 (.slice none 0 0)) 2 (.int .i64 0)) 3 (.int .i64 0)
    have e0 := Blk.cell hzz 0
    have e1 := Blk.cell hzz 1
    have e2 := Blk.cell hzz 2
    have e3 := Blk.cell hzz 3
    simp at e0 e1 e2 e3
    have hbz := hb02.grown (grown_set (grown_set (grown_set (grown_set (World.grownBy.refl _ (some (w.heap.size + 1 + 1))) 0 (.slice none 0 0)) 1 (.slice none 0 0)) 2 (.int .i64 0)) 3 (.int .i64 0)) hb02.size (fun k hk => by injection hk with hk; omega)
    clear hzz R2
    go_wp2_with fail
    refine bodyPost_ret (v := .tuple #[.slice none 0 0, .agg #[.slice none 0 0, .slice none 0 0, .int .i64 0, .int .i64 0], .int .i64 1]) (by simp [results, Tryd.results20, go_sem, e0, e1, e2, e3]) rfl ?_
    exact rnd_err (by first | exact hbz | exact hbz.drew)
  · rw [rdV_err z (by decide), z]
    rw [z0] at kck
    rw [z1] at kva
    have q1 : decide (N < 0) = false := decide_eq_false z2
    have q2 : decide (1048576 < N) = true := decide_eq_true z3
    replace kck := Lib.hid kck
    replace kva := Lib.hid kva
    go_enter Tryd.func20, Tryd.ntmps20
    go_wp2_with fail
    refine (kck.out _ (((h.alloc _).alloc _).alloc _)).mono ?_
    rintro e w1 ⟨rfl, hb1⟩
    simp only [World.size_alloc] at hb1
    have b0 : Below w.heap.size w (((w.alloc (.cells #[.int .i64 n, .slice A m c] 27)).alloc (.cells #[.int .i64 N, .int .i64 D] 31)).alloc (.cells #[.slice none 0 0, .slice none 0 0, .int .i64 0, .int .i64 0] 33)) := (((Below.refl _ _).alloc (Nat.le_refl _) _).alloc (by simp) _).alloc (by simp; omega) _
    have hb0 := b0.trans (hb1.mono (by omega))
    have X1 : Blk w1 (w.heap.size + 1) 31 #[.int .i64 N, .int .i64 D] := Blk.below ((Blk.new' _ _ _ (by simp)).alloc _) hb1 (by omega)
    have R1 : Blk w1 (w.heap.size + 1 + 1) 33 #[.slice none 0 0, .slice none 0 0, .int .i64 0, .int .i64 0] := Blk.below (Blk.new' _ _ _ (by simp)) hb1 (by omega)
    have s1 : w.heap.size + 1 + 1 + 1 ≤ w1.heap.size := by have := hb1.size; simp at this; omega
    have x0 := Blk.cell X1 0
    have x1 := Blk.cell X1 1
    simp at x0 x1
    clear hb1 b0 kck
    go_wp2_with fail
    refine (kva.out _).mono ?_
    rintro e w2 ⟨rfl, hb2⟩
    have hb02 := hb0.trans (hb2.mono (by omega))
    have X2 := X1.below hb2 X1.lt
    have R2 := R1.below hb2 R1.lt
    have s2 := hb2.size
    clear hb0 X1 R1 x0 x1 hb2 kva
    have x0 := Blk.cell X2 0
    have x1 := Blk.cell X2 1
    simp at x0 x1
    have y0 := Blk.cell R2 0
    have y1 := Blk.cell R2 1
    have y2 := Blk.cell R2 2
    have y3 := Blk.cell R2 3
    have f0 := Blk.frozen R2 0
    have f1 := Blk.frozen R2 1
    have f2 := Blk.frozen R2 2
    have f3 := Blk.frozen R2 3
    simp at y0 y1 y2 y3
    have hzz := Blk.set (Blk.set (Blk.set (Blk.set R2 0 (.slice none 0 0)) 1 (.slice none 0 0)) 2 (.int .i64 0)) 3 (.int .i64 0)
    have e0 := Blk.cell hzz 0
    have e1 := Blk.cell hzz 1
    have e2 := Blk.cell hzz 2
    have e3 := Blk.cell hzz 3
    simp at e0 e1 e2 e3
    have hbz := hb02.grown (grown_set (grown_set (grown_set (grown_set (World.grownBy.refl _ (some (w.heap.size + 1 + 1))) 0 (.slice none 0 0)) 1 (.slice none 0 0)) 2 (.int .i64 0)) 3 (.int .i64 0)) hb02.size (fun k hk => by injection hk with hk; omega)
    clear hzz R2
    go_wp2_with fail
    refine bodyPost_ret (v := .tuple #[.slice none 0 0, .agg #[.slice none 0 0, .slice none 0 0, .int .i64 0, .int .i64 0], .int .i64 1]) (by simp [results, Tryd.results20, go_sem, e0, e1, e2, e3]) rfl ?_
    exact rnd_err (by first | exact hbz | exact hbz.drew)
  · rw [rdV_err z (by decide), z]
    rw [z0] at kck
    rw [z1] at kva
    have q1 : decide (N < 0) = false := decide_eq_false z2
    have q2 : decide (1048576 < N) = false := decide_eq_false z3
    have q3 : decide (1048576 < D) = true := decide_eq_true z4
    replace kck := Lib.hid kck
    replace kva := Lib.hid kva
    go_enter Tryd.func20, Tryd.ntmps20
    go_wp2_with fail
    refine (kck.out _ (((h.alloc _).alloc _).alloc _)).mono ?_
    rintro e w1 ⟨rfl, hb1⟩
    simp only [World.size_alloc] at hb1
    have b0 : Below w.heap.size w (((w.alloc (.cells #[.int .i64 n, .slice A m c] 27)).alloc (.cells #[.int .i64 N, .int .i64 D] 31)).alloc (.cells #[.slice none 0 0, .slice none 0 0, .int .i64 0, .int .i64 0] 33)) := (((Below.refl _ _).alloc (Nat.le_refl _) _).alloc (by simp) _).alloc (by simp; omega) _
    have hb0 := b0.trans (hb1.mono (by omega))
    have X1 : Blk w1 (w.heap.size + 1) 31 #[.int .i64 N, .int .i64 D] := Blk.below ((Blk.new' _ _ _ (by simp)).alloc _) hb1 (by omega)
    have R1 : Blk w1 (w.heap.size + 1 + 1) 33 #[.slice none 0 0, .slice none 0 0, .int .i64 0, .int .i64 0] := Blk.below (Blk.new' _ _ _ (by simp)) hb1 (by omega)
    have s1 : w.heap.size + 1 + 1 + 1 ≤ w1.heap.size := by have := hb1.size; simp at this; omega
    have x0 := Blk.cell X1 0
    have x1 := Blk.cell X1 1
    simp at x0 x1
    clear hb1 b0 kck
    go_wp2_with fail
    refine (kva.out _).mono ?_
    rintro e w2 ⟨rfl, hb2⟩
    have hb02 := hb0.trans (hb2.mono (by omega))
    have X2 := X1.below hb2 X1.lt
    have R2 := R1.below hb2 R1.lt
    have s2 := hb2.size
    clear hb0 X1 R1 x0 x1 hb2 kva
    have x0 := Blk.cell X2 0
    have x1 := Blk.cell X2 1
    simp at x0 x1
    have y0 := Blk.cell R2 0
    have y1 := Blk.cell R2 1
    have y2 := Blk.cell R2 2
    have y3 := Blk.cell R2 3
    have f0 := Blk.frozen R2 0
    have f1 := Blk.frozen R2 1
    have f2 := Blk.frozen R2 2
    have f3 := Blk.frozen R2 3
    simp at y0 y1 y2 y3
    have hzz := Blk.set (Blk.set (Blk.set (Blk.set R2 0 (.slice none 0 0)) 1 (.slice none 0 0)) 2 (.int .i64 0)) 3 (.int .i64 0)
    have e0 := Blk.cell hzz 0
    have e1 := Blk.cell hzz 1
    have e2 := Blk.cell hzz 2
    have e3 := Blk.cell hzz 3
    simp at e0 e1 e2 e3
    have hbz := hb02.grown (grown_set (grown_set (grown_set (grown_set (World.grownBy.refl _ (some (w.heap.size + 1 + 1))) 0 (.slice none 0 0)) 1 (.slice none 0 0)) 2 (.int .i64 0)) 3 (.int .i64 0)) hb02.size (fun k hk => by injection hk with hk; omega)
    clear hzz R2
    go_wp2_with fail
    refine bodyPost_ret (v := .tuple #[.slice none 0 0, .agg #[.slice none 0 0, .slice none 0 0, .int .i64 0, .int .i64 0], .int .i64 1]) (by simp [results, Tryd.results20, go_sem, e0, e1, e2, e3]) rfl ?_
    exact rnd_err (by first | exact hbz | exact hbz.drew)
  · obtain ⟨n0, n1, _⟩ := chkG_zero z0
    have hbd := okF_bd z1
    obtain ⟨n, rfl⟩ := Int.eq_ofNat_of_zero_le n0
    obtain ⟨a, rfl⟩ := Int.eq_ofNat_of_zero_le (show 0 ≤ N by omega)
    obtain ⟨d, rfl⟩ := Int.eq_ofNat_of_zero_le (show 0 ≤ D by omega)
    have hv : rdV (n : Int) es (a : Int) (d : Int) = ((rndK n es a d n).2.2, (rndK n es a d n).2.2.flatten, bset (rndK n es a d n).2.1.1, (rndK n es a d n).2.1.2.1, fixD (rndK n es a d n).2.1.2.2) := by
      unfold rdV
      rw [if_pos z]; rfl
    rw [hv, z]
    exact rounds_any A m c n es a d w hT h hm z0 (by omega) z1 (by omega) (by omega)
set_option maxRecDepth 100000 in
set_option maxHeartbeats 8000000 in
theorem rrounds_all (A : Option Addr) (m c : Nat) (n : Int) (es : List (Int × Int)) (N D : Int) (w : World) (h : RE w A m es) (hm : m ≤ 68719476736) :
    Calls Tryd.prog 21 #[.agg #[.int .i64 n, .slice A m c], .agg #[.int .i64 N, .int .i64 D]] w (RetRnd w (rdV n es N D).1 (rdV n es N D).2.1 (rdV n es N D).2.2.1 (rdV n es N D).2.2.2.1 (rdV n es N D).2.2.2.2 (errR n es N D)) := by
  have kck := fun w h => rcheck_any A m c n es w h (by omega)
  have kva := fun w => rvalid_any N D w
  rcases errR_cases n es N D with ⟨z0, z⟩ | ⟨z0, z1, z⟩ | ⟨z0, z1, z2, z⟩ | ⟨z0, z1, z2, z3, z⟩ | ⟨z0, z1, z2, z3, z4, z⟩ | ⟨z0, z1, z2, z3, z4, z⟩
  · rw [rdV_err z z0, z]
    generalize hq : chkG n es = q at *
    have hbq : (q != 0) = true := by rw [bne_iff_ne]; exact z0
    clear hq z z0
    replace kck := Lib.hid kck
    replace kva := Lib.hid kva
    go_enter Tryd.func21, Tryd.ntmps21
    go_wp2_with fail
    refine (kck.out _ (((h.alloc _).alloc _).alloc _)).mono ?_
    rintro e w1 ⟨rfl, hb1⟩
    simp only [World.size_alloc] at hb1
    have b0 : Below w.heap.size w (((w.alloc (.cells #[.int .i64 n, .slice A m c] 27)).alloc (.cells #[.int .i64 N, .int .i64 D] 31)).alloc (.cells #[.slice none 0 0, .slice none 0 0, .int .i64 0, .int .i64 0] 33)) := (((Below.refl _ _).alloc (Nat.le_refl _) _).alloc (by simp) _).alloc (by simp; omega) _
    have hb0 := b0.trans (hb1.mono (by omega))
    have X1 : Blk w1 (w.heap.size + 1) 31 #[.int .i64 N, .int .i64 D] := Blk.below ((Blk.new' _ _ _ (by simp)).alloc _) hb1 (by omega)
    have R1 : Blk w1 (w.heap.size + 1 + 1) 33 #[.slice none 0 0, .slice none 0 0, .int .i64 0, .int .i64 0] := Blk.below (Blk.new' _ _ _ (by simp)) hb1 (by omega)
    have s1 : w.heap.size + 1 + 1 + 1 ≤ w1.heap.size := by have := hb1.size; simp at this; omega
    have x0 := Blk.cell X1 0
    have x1 := Blk.cell X1 1
    simp at x0 x1
    clear hb1 b0 kck
    have hb02 := hb0
    have R2 := R1
    clear hb0 R1
    have y0 := Blk.cell R2 0
    have y1 := Blk.cell R2 1
    have y2 := Blk.cell R2 2
    have y3 := Blk.cell R2 3
    have f0 := Blk.frozen R2 0
    have f1 := Blk.frozen R2 1
    have f2 := Blk.frozen R2 2
    have f3 := Blk.frozen R2 3
    simp at y0 y1 y2 y3
    have hzz := Blk.set (Blk.set (Blk.set (Blk.set R2 0 (.slice none 0 0)) 1 (.slice none 0 0)) 2 (.int .i64 0)) 3 (.int .i64 0)
    have e0 := Blk.cell hzz 0
    have e1 := Blk.cell hzz 1
    have e2 := Blk.cell hzz 2
    have e3 := Blk.cell hzz 3
    simp at e0 e1 e2 e3
    have hbz := hb02.grown (grown_set (grown_set (grown_set (grown_set (World.grownBy.refl _ (some (w.heap.size + 1 + 1))) 0 (.slice none 0 0)) 1 (.slice none 0 0)) 2 (.int .i64 0)) 3 (.int .i64 0)) hb02.size (fun k hk => by injection hk with hk; omega)
    clear hzz R2
    go_wp2_with fail
    refine bodyPost_ret (v := .tuple #[.slice none 0 0, .agg #[.slice none 0 0, .slice none 0 0, .int .i64 0, .int .i64 0], .int .i64 q]) (by simp [results, Tryd.results21, go_sem, e0, e1, e2, e3]) rfl ?_
    exact rnd_err (by first | exact hbz | exact hbz.drew)
  · rw [rdV_err z (by decide), z]
    rw [z0] at kck
    rw [z1] at kva
    replace kck := Lib.hid kck
    replace kva := Lib.hid kva
    go_enter Tryd.func21, Tryd.ntmps21
    go_wp2_with fail
    refine (kck.out _ (((h.alloc _).alloc _).alloc _)).mono ?_
    rintro e w1 ⟨rfl, hb1⟩
    simp only [World.size_alloc] at hb1
    have b0 : Below w.heap.size w (((w.alloc (.cells #[.int .i64 n, .slice A m c] 27)).alloc (.cells #[.int .i64 N, .int .i64 D] 31)).alloc (.cells #[.slice none 0 0, .slice none 0 0, .int .i64 0, .int .i64 0] 33)) := (((Below.refl _ _).alloc (Nat.le_refl _) _).alloc (by simp) _).alloc (by simp; omega) _
    have hb0 := b0.trans (hb1.mono (by omega))
    have X1 : Blk w1 (w.heap.size + 1) 31 #[.int .i64 N, .int .i64 D] := Blk.below ((Blk.new' _ _ _ (by simp)).alloc _) hb1 (by omega)
    have R1 : Blk w1 (w.heap.size + 1 + 1) 33 #[.slice none 0 0, .slice none 0 0, .int .i64 0, .int .i64 0] := Blk.below (Blk.new' _ _ _ (by simp)) hb1 (by omega)
    have s1 : w.heap.size + 1 + 1 + 1 ≤ w1.heap.size := by have := hb1.size; simp at this; omega
    have x0 := Blk.cell X1 0
    have x1 := Blk.cell X1 1
    simp at x0 x1
    clear hb1 b0 kck
    go_wp2_with fail
    refine (kva.out _).mono ?_
    rintro e w2 ⟨rfl, hb2⟩
    have hb02 := hb0.trans (hb2.mono (by omega))
    have X2 := X1.below hb2 X1.lt
    have R2 := R1.below hb2 R1.lt
    have s2 := hb2.size
    clear hb0 X1 R1 x0 x1 hb2 kva
    have x0 := Blk.cell X2 0
    have x1 := Blk.cell X2 1
    simp at x0 x1
    have y0 := Blk.cell R2 0
    have y1 := Blk.cell R2 1
    have y2 := Blk.cell R2 2
    have y3 := Blk.cell R2 3
    have f0 := Blk.frozen R2 0
    have f1 := Blk.frozen R2 1
    have f2 := Blk.frozen R2 2
    have f3 := Blk.frozen R2 3
    simp at y0 y1 y2 y3
    have hzz := Blk.set (Blk.set (Blk.set (Blk.set R2 0 (.slice none 0 0)) 1 (.slice none 0 0)) 2 (.int .i64 0)) 3 (.int .i64 0)
    have e0 := Blk.cell hzz 0
    have e1 := Blk.cell hzz 1
    have e2 := Blk.cell hzz 2
    have e3 := Blk.cell hzz 3
    simp at e0 e1 e2 e3
    have hbz := hb02.grown (grown_set (grown_set (grown_set (grown_set (World.grownBy.refl _ (some (w.heap.size + 1 + 1))) 0 (.slice none 0 0)) 1 (.slice none 0 0)) 2 (.int .i64 0)) 3 (.int .i64 0)) hb02.size (fun k hk => by injection hk with hk; omega)
    clear hzz R2
    go_wp2_with fail
    refine bodyPost_ret (v := .tuple #[.slice none 0 0, .agg #[.slice none 0 0, .slice none 0 0, .int .i64 0, .int .i64 0], .int .i64 4]) (by simp [results, Tryd.results21, go_sem, e0, e1, e2, e3]) rfl ?_
    exact rnd_err (by first | exact hbz | exact hbz.drew)
  · rw [rdV_err z (by decide), z]
    rw [z0] at kck
    rw [z1] at kva
    have q1 : decide (N < 0) = true := decide_eq_true z2
    replace kck := Lib.hid kck
    replace kva := Lib.hid kva
    go_enter Tryd.func21, Tryd.ntmps21
    go_wp2_with fail
    refine (kck.out _ (((h.alloc _).alloc _).alloc _)).mono ?_
    rintro e w1 ⟨rfl, hb1⟩
    simp only [World.size_alloc] at hb1
    have b0 : Below w.heap.size w (((w.alloc (.cells #[.int .i64 n, .slice A m c] 27)).alloc (.cells #[.int .i64 N, .int .i64 D] 31)).alloc (.cells #[.slice none 0 0, .slice none 0 0, .int .i64 0, .int .i64 0] 33)) := (((Below.refl _ _).alloc (Nat.le_refl _) _).alloc (by simp) _).alloc (by simp; omega) _
    have hb0 := b0.trans (hb1.mono (by omega))
    have X1 : Blk w1 (w.heap.size + 1) 31 #[.int .i64 N, .int .i64 D] := Blk.below ((Blk.new' _ _ _ (by simp)).alloc _) hb1 (by omega)
    have R1 : Blk w1 (w.heap.size + 1 + 1) 33 #[.slice none 0 0, .slice none 0 0, .int .i64 0, .int .i64 0] := Blk.below (Blk.new' _ _ _ (by simp)) hb1 (by omega)
    have s1 : w.heap.size + 1 + 1 + 1 ≤ w1.heap.size := by have := hb1.size; simp at this; omega
    have x0 := Blk.cell X1 0
    have x1 := Blk.cell X1 1
    simp at x0 x1
    clear hb1 b0 kck
    go_wp2_with fail
    refine (kva.out _).mono ?_
    rintro e w2 ⟨rfl, hb2⟩
    have hb02 := hb0.trans (hb2.mono (by omega))
    have X2 := X1.below hb2 X1.lt
    have R2 := R1.below hb2 R1.lt
    have s2 := hb2.size
    clear hb0 X1 R1 x0 x1 hb2 kva
    have x0 := Blk.cell X2 0
    have x1 := Blk.cell X2 1
    simp at x0 x1
    have y0 := Blk.cell R2 0
    have y1 := Blk.cell R2 1
    have y2 := Blk.cell R2 2
    have y3 := Blk.cell R2 3
    have f0 := Blk.frozen R2 0
    have f1 := Blk.frozen R2 1
    have f2 := Blk.frozen R2 2
    have f3 := Blk.frozen R2 3
    simp at y0 y1 y2 y3
    have hzz := Blk.set (Blk.set (Blk.set (Blk.set R2 0 (.slice none 0 0)) 1 (.slice none 0 0)) 2 (.int .i64 0)) 3 (.int .i64 0)
    have e0 := Blk.cell hzz 0
    have e1 := Blk.cell hzz 1
    have e2 := Blk.cell hzz 2
    have e3 := Blk.cell hzz 3
    simp at e0 e1 e2 e3
    have hbz := hb02.grown (grown_set (grown_set (grown_set (grown_set (World.grownBy.refl _ (some (w.heap.size + 1 + 1))) 0 (.slice none 0 0)) 1 (.slice none 0 0)) 2 (.int .i64 0)) 3 (.int .i64 0)) hb02.size (fun k hk => by injection hk with hk; omega)
    clear hzz R2
    go_wp2_with fail
    refine bodyPost_ret (v := .tuple #[.slice none 0 0, .agg #[.slice none 0 0, .slice none 0 0, .int .i64 0, .int .i64 0], .int .i64 1]) (by simp [results, Tryd.results21, go_sem, e0, e1, e2, e3]) rfl ?_
    exact rnd_err (by first | exact hbz | exact hbz.drew)
  · rw [rdV_err z (by decide), z]
    rw [z0] at kck
    rw [z1] at kva
    have q1 : decide (N < 0) = false := decide_eq_false z2
    have q2 : decide (1048576 < N) = true := decide_eq_true z3
    replace kck := Lib.hid kck
    replace kva := Lib.hid kva
    go_enter Tryd.func21, Tryd.ntmps21
    go_wp2_with fail
    refine (kck.out _ (((h.alloc _).alloc _).alloc _)).mono ?_
    rintro e w1 ⟨rfl, hb1⟩
    simp only [World.size_alloc] at hb1
    have b0 : Below w.heap.size w (((w.alloc (.cells #[.int .i64 n, .slice A m c] 27)).alloc (.cells #[.int .i64 N, .int .i64 D] 31)).alloc (.cells #[.slice none 0 0, .slice none 0 0, .int .i64 0, .int .i64 0] 33)) := (((Below.refl _ _).alloc (Nat.le_refl _) _).alloc (by simp) _).alloc (by simp; omega) _
    have hb0 := b0.trans (hb1.mono (by omega))
    have X1 : Blk w1 (w.heap.size + 1) 31 #[.int .i64 N, .int .i64 D] := Blk.below ((Blk.new' _ _ _ (by simp)).alloc _) hb1 (by omega)
    have R1 : Blk w1 (w.heap.size + 1 + 1) 33 #[.slice none 0 0, .slice none 0 0, .int .i64 0, .int .i64 0] := Blk.below (Blk.new' _ _ _ (by simp)) hb1 (by omega)
    have s1 : w.heap.size + 1 + 1 + 1 ≤ w1.heap.size := by have := hb1.size; simp at this; omega
    have x0 := Blk.cell X1 0
    have x1 := Blk.cell X1 1
    simp at x0 x1
    clear hb1 b0 kck
    go_wp2_with fail
    refine (kva.out _).mono ?_
    rintro e w2 ⟨rfl, hb2⟩
    have hb02 := hb0.trans (hb2.mono (by omega))
    have X2 := X1.below hb2 X1.lt
    have R2 := R1.below hb2 R1.lt
    have s2 := hb2.size
    clear hb0 X1 R1 x0 x1 hb2 kva
    have x0 := Blk.cell X2 0
    have x1 := Blk.cell X2 1
    simp at x0 x1
    have y0 := Blk.cell R2 0
    have y1 := Blk.cell R2 1
    have y2 := Blk.cell R2 2
    have y3 := Blk.cell R2 3
    have f0 := Blk.frozen R2 0
    have f1 := Blk.frozen R2 1
    have f2 := Blk.frozen R2 2
    have f3 := Blk.frozen R2 3
    simp at y0 y1 y2 y3
    have hzz := Blk.set (Blk.set (Blk.set (Blk.set R2 0 (.slice none 0 0)) 1 (.slice none 0 0)) 2 (.int .i64 0)) 3 (.int .i64 0)
    have e0 := Blk.cell hzz 0
    have e1 := Blk.cell hzz 1
    have e2 := Blk.cell hzz 2
    have e3 := Blk.cell hzz 3
    simp at e0 e1 e2 e3
    have hbz := hb02.grown (grown_set (grown_set (grown_set (grown_set (World.grownBy.refl _ (some (w.heap.size + 1 + 1))) 0 (.slice none 0 0)) 1 (.slice none 0 0)) 2 (.int .i64 0)) 3 (.int .i64 0)) hb02.size (fun k hk => by injection hk with hk; omega)
    clear hzz R2
    go_wp2_with fail
    refine bodyPost_ret (v := .tuple #[.slice none 0 0, .agg #[.slice none 0 0, .slice none 0 0, .int .i64 0, .int .i64 0], .int .i64 1]) (by simp [results, Tryd.results21, go_sem, e0, e1, e2, e3]) rfl ?_
    exact rnd_err (by first | exact hbz | exact hbz.drew)
  · rw [rdV_err z (by decide), z]
    rw [z0] at kck
    rw [z1] at kva
    have q1 : decide (N < 0) = false := decide_eq_false z2
    have q2 : decide (1048576 < N) = false := decide_eq_false z3
    have q3 : decide (1048576 < D) = true := decide_eq_true z4
    replace kck := Lib.hid kck
    replace kva := Lib.hid kva
    go_enter Tryd.func21, Tryd.ntmps21
    go_wp2_with fail
    refine (kck.out _ (((h.alloc _).alloc _).alloc _)).mono ?_
    rintro e w1 ⟨rfl, hb1⟩
    simp only [World.size_alloc] at hb1
    have b0 : Below w.heap.size w (((w.alloc (.cells #[.int .i64 n, .slice A m c] 27)).alloc (.cells #[.int .i64 N, .int .i64 D] 31)).alloc (.cells #[.slice none 0 0, .slice none 0 0, .int .i64 0, .int .i64 0] 33)) := (((Below.refl _ _).alloc (Nat.le_refl _) _).alloc (by simp) _).alloc (by simp; omega) _
    have hb0 := b0.trans (hb1.mono (by omega))
    have X1 : Blk w1 (w.heap.size + 1) 31 #[.int .i64 N, .int .i64 D] := Blk.below ((Blk.new' _ _ _ (by simp)).alloc _) hb1 (by omega)
    have R1 : Blk w1 (w.heap.size + 1 + 1) 33 #[.slice none 0 0, .slice none 0 0, .int .i64 0, .int .i64 0] := Blk.below (Blk.new' _ _ _ (by simp)) hb1 (by omega)
    have s1 : w.heap.size + 1 + 1 + 1 ≤ w1.heap.size := by have := hb1.size; simp at this; omega
    have x0 := Blk.cell X1 0
    have x1 := Blk.cell X1 1
    simp at x0 x1
    clear hb1 b0 kck
    go_wp2_with fail
    refine (kva.out _).mono ?_
    rintro e w2 ⟨rfl, hb2⟩
    have hb02 := hb0.trans (hb2.mono (by omega))
    have X2 := X1.below hb2 X1.lt
    have R2 := R1.below hb2 R1.lt
    have s2 := hb2.size
    clear hb0 X1 R1 x0 x1 hb2 kva
    have x0 := Blk.cell X2 0
    have x1 := Blk.cell X2 1
    simp at x0 x1
    have y0 := Blk.cell R2 0
    have y1 := Blk.cell R2 1
    have y2 := Blk.cell R2 2
    have y3 := Blk.cell R2 3
    have f0 := Blk.frozen R2 0
    have f1 := Blk.frozen R2 1
    have f2 := Blk.frozen R2 2
    have f3 := Blk.frozen R2 3
    simp at y0 y1 y2 y3
    have hzz := Blk.set (Blk.set (Blk.set (Blk.set R2 0 (.slice none 0 0)) 1 (.slice none 0 0)) 2 (.int .i64 0)) 3 (.int .i64 0)
    have e0 := Blk.cell hzz 0
    have e1 := Blk.cell hzz 1
    have e2 := Blk.cell hzz 2
    have e3 := Blk.cell hzz 3
    simp at e0 e1 e2 e3
    have hbz := hb02.grown (grown_set (grown_set (grown_set (grown_set (World.grownBy.refl _ (some (w.heap.size + 1 + 1))) 0 (.slice none 0 0)) 1 (.slice none 0 0)) 2 (.int .i64 0)) 3 (.int .i64 0)) hb02.size (fun k hk => by injection hk with hk; omega)
    clear hzz R2
    go_wp2_with fail
    refine bodyPost_ret (v := .tuple #[.slice none 0 0, .agg #[.slice none 0 0, .slice none 0 0, .int .i64 0, .int .i64 0], .int .i64 1]) (by simp [results, Tryd.results21, go_sem, e0, e1, e2, e3]) rfl ?_
    exact rnd_err (by first | exact hbz | exact hbz.drew)
  · obtain ⟨n0, n1, _⟩ := chkG_zero z0
    have hbd := okF_bd z1
    obtain ⟨n, rfl⟩ := Int.eq_ofNat_of_zero_le n0
    obtain ⟨a, rfl⟩ := Int.eq_ofNat_of_zero_le (show 0 ≤ N by omega)
    obtain ⟨d, rfl⟩ := Int.eq_ofNat_of_zero_le (show 0 ≤ D by omega)
    have hv : rdV (n : Int) es (a : Int) (d : Int) = ((rndK n es a d n).2.2, (rndK n es a d n).2.2.flatten, bset (rndK n es a d n).2.1.1, (rndK n es a d n).2.1.2.1, fixD (rndK n es a d n).2.1.2.2) := by
      unfold rdV
      rw [if_pos z]; rfl
    rw [hv, z]
    exact rrounds_ok A m c n es a d w h hm z0 (by omega) z1 (by omega) (by omega)
end Go.Proofs.YtdibfecejgjfmaaDoor

/- Chapter 20: light, Same of equal peelings. -/
set_option linter.unusedVariables false
set_option linter.unusedSimpArgs false
namespace Go.Proofs.YtdibfecejgjfmaaDoor
open Go.RowKit CoBit CoRat Rt
def lgt (n : Int) (m : Nat) (es : List (Int × Int)) : Bool := decide (m ≤ 40 ∧ (n ≤ 12 ∨ chkG n es ≠ 0))
set_option maxHeartbeats 1000000 in
theorem light20_any (A : Option Addr) (m c : Nat) (n : Int) (es : List (Int × Int)) (w : World) (h : RE w A m es) (hm : m ≤ 1152921504606846976) :
    Calls Tryd.prog 17 #[.agg #[.int .i64 n, .slice A m c]] w fun e w' => e = .returned (.bool (lgt n m es)) ∧ Below w.heap.size w w' := by
  have hb0 : Below w.heap.size w (w.alloc (.cells #[.int .i64 n, .slice A m c] 27)) := (Below.refl _ w).alloc (Nat.le_refl _) _
  by_cases h40 : m ≤ 40
  · have q0 : decide ((m : Int) ≤ 40) = true := by simp; omega
    have kck := fun w h => rcheck_any A m c n es w h (by omega)
    by_cases h12 : n ≤ 12
    · have hv : lgt n m es = true := decide_eq_true ⟨h40, .inl h12⟩
      rw [hv]
      have q1 : decide (n ≤ 12) = true := decide_eq_true h12
      clear hv
      go_enter Tryd.func17, Tryd.ntmps17
      go_wp2_with fail
      go_ret
      exact ⟨rfl, hb0⟩
    · have q1 : decide (n ≤ 12) = false := decide_eq_false h12
      have hv : lgt n m es = decide (chkG n es ≠ 0) := by
        unfold lgt
        by_cases hz : chkG n es = 0
        · rw [decide_eq_false (fun h => h.2.elim h12 (fun h => h hz)), decide_eq_false (fun h => h hz)]
        · rw [decide_eq_true ⟨h40, .inr hz⟩, decide_eq_true hz]
      rw [hv]
      have hv2 : decide (chkG n es ≠ 0) = (chkG n es != 0) := by
        by_cases hz : chkG n es = 0
        · rw [hz]; rfl
        · rw [decide_eq_true hz]; exact (bne_iff_ne.2 hz).symm
      rw [hv2]
      generalize chkG n es = Q at *
      replace kck := Lib.hid kck
      clear hv hv2
      go_enter Tryd.func17, Tryd.ntmps17
      go_wp2_with (first | (go_at_call 37; refine (kck.out _ (h.alloc _)).mono ?_; rintro e w1 ⟨rfl, hb1⟩) | fail)
      go_ret
      exact ⟨rfl, hb0.trans (hb1.mono (by simp))⟩
  · have q0 : decide ((m : Int) ≤ 40) = false := by simp; omega
    have hv : lgt n m es = false := decide_eq_false (fun h => h40 h.1)
    rw [hv]
    clear hv
    go_enter Tryd.func17, Tryd.ntmps17
    go_wp2_with fail
    go_ret
    exact ⟨rfl, hb0⟩
theorem same_eq (A A' : Option Addr) (n c n' c' : Nat) (xs : List Int) (w : World) (h : RI w A n xs) (hn : n ≤ 1099511627776) (h' : RI w A' n' xs) (hn' : n' ≤ 1099511627776) :
    Calls Tryd.prog 11 #[.slice A n c, .slice A' n' c'] w fun e w' => e = .returned (.bool true) ∧ ∃ q, w' = w.drewN q := by
  have h1 := same_any A A' n c n' c' xs xs w h hn h' hn'
  rwa [decide_eq_true rfl] at h1
set_option maxHeartbeats 1000000 in
theorem same20_any (A1 A2 A3 A4 : Option Addr) (n1 c1 n2 c2 n3 c3 n4 c4 : Nat) (o s : List Int) (N D : Int) (w : World) (h1 : RI w A1 n1 o) (h2 : RI w A2 n2 s) (h3 : RI w A3 n3 o) (h4 : RI w A4 n4 s) (b1 : n1 ≤ 1099511627776) (b2 : n2 ≤ 1099511627776) :
    Calls Tryd.prog 23 #[.agg #[.slice A1 n1 c1, .slice A2 n2 c2, .int .i64 N, .int .i64 D], .agg #[.slice A3 n3 c3, .slice A4 n4 c4, .int .i64 N, .int .i64 D]] w fun e w' => e = .returned (.bool true) ∧ Below w.heap.size w w' := by
  have b3 : n3 ≤ 1099511627776 := by have := h1.len; have := h3.len; omega
  have b4 : n4 ≤ 1099511627776 := by have := h2.len; have := h4.len; omega
  have k1 := fun w' (hb : Below w.heap.size w w') => same_eq A1 A3 n1 c1 n3 c3 o w' (h1.below hb (Nat.le_refl _)) b1 (h3.below hb (Nat.le_refl _)) b3
  have k2 := fun w' (hb : Below w.heap.size w w') => same_eq A2 A4 n2 c2 n4 c4 s w' (h2.below hb (Nat.le_refl _)) b2 (h4.below hb (Nat.le_refl _)) b4
  have hb0 : Below w.heap.size w ((w.alloc (.cells #[.slice A1 n1 c1, .slice A2 n2 c2, .int .i64 N, .int .i64 D] 33)).alloc (.cells #[.slice A3 n3 c3, .slice A4 n4 c4, .int .i64 N, .int .i64 D] 33)) := ((Below.refl _ w).alloc (Nat.le_refl _) _).alloc (by simp) _
  replace k1 := Lib.hid k1
  replace k2 := Lib.hid k2
  clear h1 h2 h3 h4
  go_enter Tryd.func23, Tryd.ntmps23
  go_wp2_with (first
    | (go_at_call 11; with_reducible refine (k1.out _ (by first | exact hb0 | exact below_drewN hb0 _)).mono ?_; rintro e wx ⟨rfl, q1, rfl⟩)
    | (go_at_call 11; with_reducible refine (k2.out _ (by first | exact hb0 | exact below_drewN hb0 _)).mono ?_; rintro e wx ⟨rfl, q2, rfl⟩)
    | fail)
  go_ret
  exact ⟨rfl, by first | exact below_drewN (below_drewN hb0 _) _ | exact below_drewN hb0 _⟩
end Go.Proofs.YtdibfecejgjfmaaDoor

/- The law PeelRounds. -/
set_option linter.unusedVariables false
set_option linter.unusedSimpArgs false
namespace Go.Proofs.YtdibfecejgjfmaaDoor
open Go.RowKit CoBit CoRat Rt
/-- Two graphs in a block. -/
def GL2 (w : World) (gl : Nat) : Prop := ∀ j, j < 2 → ∃ (n : Int) (A : Option Addr) (m c : Nat) (es : List (Int × Int)), w.cell? ⟨gl, j * 2, none⟩ = some (.int .i64 n) ∧ w.cell? ⟨gl, j * 2 + 1, none⟩ = some (.slice A m c) ∧ RE w A m es ∧ m ≤ 100
/-- Three fractions in a block. -/
def FL3 (w : World) (fl : Nat) : Prop := ∀ j, j < 3 → ∃ N D : Int, w.cell? ⟨fl, j * 2, none⟩ = some (.int .i64 N) ∧ w.cell? ⟨fl, j * 2 + 1, none⟩ = some (.int .i64 D)
theorem RLL.sls {w : World} {A : Option Addr} {n : Nat} {L : List (List Int)} (h : RLL w A n L) (hb : ∀ ys ∈ L, ys.length ≤ 64) : SLs w A n L := ⟨h.len, fun i hi => by
  obtain ⟨ad, A', k, c, ys, h1, h2, h3, h4, h5⟩ := h.get hi
  refine ⟨ad, A', k, c, h1, h2, ?_, ?_⟩
  · rw [List.getD_eq_getElem?_getD, h3.out]; exact h5
  · have := hb ys (List.mem_of_getElem? h3.out)
    have := h5.len
    omega⟩
theorem rdV_small (n : Int) (es : List (Int × Int)) (N D : Int) : (rdV n es N D).1.length ≤ 64 ∧ (rdV n es N D).2.1.length ≤ 4096 ∧ (rdV n es N D).2.2.1.length ≤ 64 := by
  rcases errR_cases n es N D with ⟨z0, z⟩ | ⟨z0, z1, z⟩ | ⟨z0, z1, z2, z⟩ | ⟨z0, z1, z2, z3, z⟩ | ⟨z0, z1, z2, z3, z4, z⟩ | ⟨z0, z1, z2, z3, z4, z⟩
  · rw [rdV_err z z0]; simp
  · rw [rdV_err z (by decide)]; simp
  · rw [rdV_err z (by decide)]; simp
  · rw [rdV_err z (by decide)]; simp
  · rw [rdV_err z (by decide)]; simp
  · obtain ⟨n0, n1, _⟩ := chkG_zero z0
    unfold rdV
    rw [if_pos z]
    have h1 := rndK_len (n := n.toNat) (es := es) (a := N.toNat) (d := D.toNat) n.toNat
    have h2 := rndK_flat (n := n.toNat) (es := es) (a := N.toNat) (d := D.toNat) n.toNat
    have h3 := bset_length (rndK n.toNat es N.toNat D.toNat n.toNat).2.1.1
    exact ⟨Nat.le_trans h1 (by omega), Nat.le_trans h2 (by omega), h3⟩
set_option maxRecDepth 100000 in
set_option maxHeartbeats 16000000 in
theorem lawRounds_any (RN RD : Int) (nr : Int) (Ar : Option Addr) (mr cr : Nat) (er : List (Int × Int)) (A0 : Option Addr) (m0 c0 : Nat) (l : List Int) (NU DE : Int) (w : World) (hT : Tab w) (hEr : RE w Ar mr er) (hmr : mr ≤ 1152921504606846976) (h0 : RI w A0 m0 l) (hmc : m0 ≤ c0) (hm0 : m0 ≤ 1152921504606846976) :
    Calls Tryd.prog 4 #[.agg #[.int .i64 RN, .int .i64 RD], .agg #[.int .i64 nr, .slice Ar mr cr], .slice A0 m0 c0, .int .i64 NU, .int .i64 DE] w fun e w' => e = .returned (.bool true) ∧ Below w.heap.size w w' := by
  have kl := fun w h => light20_any Ar mr cr nr er w h hmr
  have ka := Lib.hid (fun w h => awake20_any w h)
  have hB1 : Below w.heap.size w ((w.alloc (.cells #[.int .i64 RN, .int .i64 RD] 31)).alloc (.cells #[.int .i64 nr, .slice Ar mr cr] 27)) := ((Below.refl _ w).alloc (Nat.le_refl _) _).alloc (by simp) _
  cases hgood : lgt nr mr er with
  | false =>
    rw [hgood] at kl
    replace kl := Lib.hid kl
    clear hgood
    go_enter Tryd.func4, Tryd.ntmps4
    go_wp2_with (first
      | (go_at_call 17; refine (kl.out _ ((hEr.alloc _).alloc _)).mono ?_; rintro e w1 ⟨rfl, hb1⟩
         have hW1 : Below w.heap.size w w1 := hB1.trans (hb1.mono (by simp; omega))
         have ka1 := Lib.hid (ka.out w1 (hT.keep hW1)))
      | (go_at_call 16; refine ka1.out.mono ?_; rintro e w2 ⟨rfl, hb2⟩
         have hWz : Below w.heap.size w w2 := hW1.trans (hb2.mono hW1.size))
      | fail)
    go_ret
    exact ⟨rfl, hWz⟩
  | true =>
    have hmr4 : mr ≤ 40 := (of_decide_eq_true (show decide (mr ≤ 40 ∧ (nr ≤ 12 ∨ chkG nr er ≠ 0)) = true from hgood)).1
    rw [hgood] at kl
    replace kl := Lib.hid kl
    clear hgood
    have hT1 := (hT.alloc (.cells #[.int .i64 RN, .int .i64 RD] 31)).alloc (.cells #[.int .i64 nr, .slice Ar mr cr] 27)
    have bF1 := (Blk.new w 31 #[.int .i64 RN, .int .i64 RD]).alloc (.cells #[.int .i64 nr, .slice Ar mr cr] 27)
    have bR1 : Blk ((w.alloc (.cells #[.int .i64 RN, .int .i64 RD] 31)).alloc (.cells #[.int .i64 nr, .slice Ar mr cr] 27)) (w.heap.size + 1) 27 #[.int .i64 nr, .slice Ar mr cr] := Blk.new' _ _ _ (by simp)
    go_enter Tryd.func4, Tryd.ntmps4
    go_wp2_with fail
    refine (kl.out _ ((hEr.alloc _).alloc _)).mono ?_
    rintro e w1 ⟨rfl, hb1⟩
    have hW1 : Below w.heap.size w w1 := hB1.trans (hb1.mono (by simp; omega))
    have bF := bF1.below hb1 bF1.lt
    have bR := bR1.below hb1 bR1.lt
    have s1 := bR.lt
    clear hb1 hB1 bF1 bR1 hT1 kl
    go_wp2_with fail
    refine (new_any A0 m0 c0 l w1 (h0.below hW1 (Nat.le_refl _)) hmc hm0).mono ?_
    rintro e w2 ⟨rfl, hd2, hb2, hs2⟩
    replace bF := bF.below hb2 bF.lt
    replace bR := bR.below hb2 bR.lt
    have hW2 : Below w.heap.size w w2 := hW1.trans (hb2.mono (by omega))
    have hd20 := hW1.size
    clear hb2
    go_wp2_with fail
    refine (mkgraph_any w1.heap.size 9 w2 hd2 (by omega)).mono ?_
    rintro e w3 ⟨n, es, A, m, c, rfl, hmcc, hr3, hf3, hsrt, hn7, hd3, hg3⟩
    have hlen : m ≤ 81 := by
      have h1 := srt_len hsrt
      have h2 := hr3.len
      have h3 : n * n ≤ 9 * 9 := Nat.mul_le_mul hn7 hn7
      omega
    have hbg3 : Below w1.heap.size w2 w3 := grown_is_below hg3 (Nat.le_refl _) (by omega)
    have hW3 : Below w.heap.size w w3 := hW2.trans (hbg3.mono (by omega))
    replace bF := bF.below hbg3 (by omega)
    replace bR := bR.below hbg3 (by omega)
    have s3 := hbg3.size
    have hEr3 := hEr.below hW3 (Nat.le_refl _)
    clear hg3 hbg3 hd2 hd3 hW1 hW2
    have km1 := Lib.hid (fun w => mkmod_any NU 6 w (by omega) (by omega))
    have km2 := Lib.hid (fun w => mkmod_any DE 5 w (by omega) (by omega))
    have j1 : IntKind.i64.wrap (1 + DE % 5) = 1 + DE % 5 := IntWalk.i64_in _ ⟨by omega, by omega⟩
    have hX0 : ∃ X : Int, X = NU % 6 := ⟨_, rfl⟩
    obtain ⟨X, hX⟩ := hX0
    have kof := Lib.hid (fun w => of_f X (1 + DE % 5) w (by omega) (by omega) (by omega) (by omega))
    rw [← hX] at km1
    clear hX
    go_upto_region 5 with (first
      | (go_at_call 19; with_reducible refine (km1.out _).mono ?_; rintro e wq ⟨rfl, hq⟩; obtain rfl := hq.symm)
      | (go_at_call 19; with_reducible refine (km2.out _).mono ?_; rintro e wq ⟨rfl, hq⟩; obtain rfl := hq.symm)
      | (go_at_call 18; with_reducible refine (kof.out _).mono ?_; rintro e w4 ⟨rfl, hb4⟩)
      | fail)
    have hE4 := (hr3.alloc (.cells #[.int .i64 n, .slice A m c] 27)).below hb4 (Nat.le_refl _)
    have bG4 := (Blk.new w3 27 #[.int .i64 n, .slice A m c]).below hb4 (by simp)
    have hW4 : Below w.heap.size w w4 := (hW3.alloc hW3.size _).trans (hb4.mono (by have := hW3.size; simp; omega))
    have bF4 := (bF.alloc (.cells #[.int .i64 n, .slice A m c] 27)).below hb4 (by have := bF.lt; simp; omega)
    have bR4 := (bR.alloc (.cells #[.int .i64 n, .slice A m c] 27)).below hb4 (by have := bR.lt; simp; omega)
    have hEr4 := (hEr3.alloc (.cells #[.int .i64 n, .slice A m c] 27)).below hb4 (Nat.le_refl _)
    have s4 := bG4.lt
    have sw := bF4.lt
    clear hr3 hb4 hW3 bF bR hEr3 hf3 hsrt
    generalize w3.heap.size = gg at *
    obtain ⟨FN, hFN⟩ : ∃ FN, FN = mkN X (1 + DE % 5) := ⟨_, rfl⟩
    obtain ⟨FD, hFD⟩ : ∃ FD, FD = mkD X (1 + DE % 5) := ⟨_, rfl⟩
    rw [← hFN, ← hFD]
    clear hFN hFD kof km1 km2 j1
    have bX5 := Blk.new w4 31 #[.int .i64 FN, .int .i64 FD]
    have bG5 := bG4.alloc (.cells #[.int .i64 FN, .int .i64 FD] 31)
    have bF5 := bF4.alloc (.cells #[.int .i64 FN, .int .i64 FD] 31)
    have bR5 := bR4.alloc (.cells #[.int .i64 FN, .int .i64 FD] 31)
    have hE5 := hE4.alloc (.cells #[.int .i64 FN, .int .i64 FD] 31)
    have hEr5 := hEr4.alloc (.cells #[.int .i64 FN, .int .i64 FD] 31)
    have hW5 := hW4.alloc hW4.size (.cells #[.int .i64 FN, .int .i64 FD] 31)
    have s5 := bX5.lt
    clear bG4 bF4 bR4 hE4 hEr4 hW4
    go_upto_region 5 with fail
    generalize w4.alloc (.cells #[.int .i64 FN, .int .i64 FD] 31) = w5 at *
    generalize w4.heap.size = gx at *
    obtain ⟨d0, d1⟩ := blkG bG5
    obtain ⟨d2, d3⟩ := blkG bR5
    go_upto_region 6 with fail
    have hGL0 : GL2 (w5.alloc (.cells #[.int .i64 n, .slice A m c, .int .i64 nr, .slice Ar mr cr] 27)) w5.heap.size := by
      have hBk := Blk.new w5 27 #[.int .i64 n, .slice A m c, .int .i64 nr, .slice Ar mr cr]
      intro j hj
      have hjj : j = 0 ∨ j = 1 := by omega
      rcases hjj with rfl | rfl
      · exact ⟨n, A, m, c, es, hBk.cell 0, hBk.cell 1, hE5.alloc _, by omega⟩
      · exact ⟨nr, Ar, mr, cr, er, hBk.cell 2, hBk.cell 3, hEr5.alloc _, by omega⟩
    have bX6 := bX5.alloc (.cells #[.int .i64 n, .slice A m c, .int .i64 nr, .slice Ar mr cr] 27)
    have bF6 := bF5.alloc (.cells #[.int .i64 n, .slice A m c, .int .i64 nr, .slice Ar mr cr] 27)
    have hW6 := hW5.alloc hW5.size (.cells #[.int .i64 n, .slice A m c, .int .i64 nr, .slice Ar mr cr] 27)
    have hgl0 : w5.heap.size < (w5.alloc (.cells #[.int .i64 n, .slice A m c, .int .i64 nr, .slice Ar mr cr] 27)).heap.size := by simp
    clear bX5 bG5 bF5 bR5 hE5 hEr5 hW5 d0 d1 d2 d3 s5
    generalize w5.alloc (.cells #[.int .i64 n, .slice A m c, .int .i64 nr, .slice Ar mr cr] 27) = W0 at *
    generalize w5.heap.size = gl at *
    replace hGL0 := Lib.hid hGL0
    have hxl := bX6.lt
    have hfl := bF6.lt
    go_loopw [40] (fun i wr => ∃ k0 : Nat, k0 ≤ 2 ∧ i = .int .i64 k0 ∧ Below W0.heap.size W0 wr) (fun i _ => 2 - (intOf i).toNat)
    case atStart => exact ⟨0, by omega, rfl, Below.refl _ _⟩
    case round =>
      obtain ⟨k0, hk0, rfl, hb⟩ := hrel
      have hWr : Below w.heap.size w wr := hW6.trans (hb.mono hW6.size)
      by_cases hlt0 : k0 < 2
      · have i0 : (k0 : Int) < 2 := by omega
        obtain ⟨nx, Ax, mx, cx, ex, y0, y1, hEx0, hmx⟩ := hGL0.out k0 hlt0
        have z0 := (hb.cell (p := ⟨gl, k0 * 2, none⟩) hgl0).trans y0
        have z1 := (hb.cell (p := ⟨gl, k0 * 2 + 1, none⟩) hgl0).trans y1
        have hEx := hEx0.below hb (Nat.le_refl _)
        have bXr := bX6.below hb hxl
        have bFr := bF6.below hb hfl
        clear y0 y1 hEx0
        go_upto_region 8 with fail
        have bY := Blk.new wr 27 #[.int .i64 nx, .slice Ax mx cx]
        have hEy := hEx.alloc (.cells #[.int .i64 nx, .slice Ax mx cx] 27)
        have bXy := bXr.alloc (.cells #[.int .i64 nx, .slice Ax mx cx] 27)
        have bFy := bFr.alloc (.cells #[.int .i64 nx, .slice Ax mx cx] 27)
        have hby := hb.alloc hb.size (.cells #[.int .i64 nx, .slice Ax mx cx] 27)
        clear hEx bXr bFr z0 z1
        generalize hwy : wr.alloc (.cells #[.int .i64 nx, .slice Ax mx cx] 27) = wy at *
        clear hwy
        generalize wr.heap.size = gy at *
        have x0 := Blk.cell bXy 0
        have x1 := Blk.cell bXy 1
        have f0 := Blk.cell bFy 0
        have f1 := Blk.cell bFy 1
        simp at x0 x1 f0 f1
        go_upto_region 9 with fail
        have hFL : FL3 (wy.alloc (.cells #[.int .i64 FN, .int .i64 FD, .int .i64 RN, .int .i64 RD, .int .i64 NU, .int .i64 DE] 31)) wy.heap.size := by
          have hBk := Blk.new wy 31 #[.int .i64 FN, .int .i64 FD, .int .i64 RN, .int .i64 RD, .int .i64 NU, .int .i64 DE]
          intro j hj
          have hjj : j = 0 ∨ j = 1 ∨ j = 2 := by omega
          rcases hjj with rfl | rfl | rfl
          · exact ⟨_, _, hBk.cell 0, hBk.cell 1⟩
          · exact ⟨_, _, hBk.cell 2, hBk.cell 3⟩
          · exact ⟨_, _, hBk.cell 4, hBk.cell 5⟩
        have bY1 := bY.alloc (.cells #[.int .i64 FN, .int .i64 FD, .int .i64 RN, .int .i64 RD, .int .i64 NU, .int .i64 DE] 31)
        have hE1 := hEy.alloc (.cells #[.int .i64 FN, .int .i64 FD, .int .i64 RN, .int .i64 RD, .int .i64 NU, .int .i64 DE] 31)
        have hb1 := hby.alloc hby.size (.cells #[.int .i64 FN, .int .i64 FD, .int .i64 RN, .int .i64 RD, .int .i64 NU, .int .i64 DE] 31)
        have hfl0 : wy.heap.size < (wy.alloc (.cells #[.int .i64 FN, .int .i64 FD, .int .i64 RN, .int .i64 RD, .int .i64 NU, .int .i64 DE] 31)).heap.size := by simp
        clear bY hEy bXy bFy hby x0 x1 f0 f1
        generalize wy.alloc (.cells #[.int .i64 FN, .int .i64 FD, .int .i64 RN, .int .i64 RD, .int .i64 NU, .int .i64 DE] 31) = W1 at *
        generalize wy.heap.size = fl at *
        replace hFL := Lib.hid hFL
        have hyl := bY1.lt
        have kRp := Lib.hid (fun N D w hT hE => rounds_all Ax mx cx nx ex N D w hT hE (by omega))
        have kRr := Lib.hid (fun N D w hE => rrounds_all Ax mx cx nx ex N D w hE (by omega))
        have hW1 : Below w.heap.size w W1 := hW6.trans (hb1.mono hW6.size)
        go_loopw [51] (fun i wr => ∃ t0 : Nat, t0 ≤ 3 ∧ i = .int .i64 t0 ∧ Below W1.heap.size W1 wr) (fun i _ => 3 - (intOf i).toNat)
        case atStart => exact ⟨0, by omega, rfl, Below.refl _ _⟩
        case round =>
          obtain ⟨t0, ht0, rfl, hb2⟩ := hrel
          by_cases htl : t0 < 3
          · have i1 : (t0 : Int) < 3 := by omega
            obtain ⟨N, D, y0, y1⟩ := hFL.out t0 htl
            have z0 := (hb2.cell (p := ⟨fl, t0 * 2, none⟩) hfl0).trans y0
            have z1 := (hb2.cell (p := ⟨fl, t0 * 2 + 1, none⟩) hfl0).trans y1
            have bY2 := bY1.below hb2 hyl
            have hE2 := hE1.below hb2 (Nat.le_refl _)
            clear y0 y1
            go_upto_region 11 with fail
            have bZ3 := Blk.new wr 31 #[.int .i64 N, .int .i64 D]
            have bY3 := bY2.alloc (.cells #[.int .i64 N, .int .i64 D] 31)
            have hE3 := hE2.alloc (.cells #[.int .i64 N, .int .i64 D] 31)
            have hb3 := hb2.alloc hb2.size (.cells #[.int .i64 N, .int .i64 D] 31)
            clear bY2 hE2 z0 z1
            generalize hwz : wr.alloc (.cells #[.int .i64 N, .int .i64 D] 31) = wz at *
            clear hwz
            generalize wr.heap.size = gz at *
            obtain ⟨d0, d1⟩ := blkG bY3
            have x0 := Blk.cell bZ3 0
            have x1 := Blk.cell bZ3 1
            simp at x0 x1
            have kk := kRp.out N D wz (hT.keep (hW1.trans (hb3.mono hW1.size))) hE3
            have kr := fun w hE => kRr.out N D w hE
            obtain ⟨sm1, sm2, sm3⟩ := rdV_small nx ex N D
            have hrw := rdV_rows nx ex N D
            generalize rdV nx ex N D = V at *
            obtain ⟨VL, VO, VS, VN, VD⟩ := V
            simp only at kk kr sm1 sm2 sm3 hrw
            generalize errR nx ex N D = E at *
            replace kk := Lib.hid kk
            replace kr := Lib.hid kr
            replace hrw := Lib.hid hrw
            go_wp2_with fail
            refine kk.out.mono ?_
            clear kk d0 d1 x0 x1
            rintro e wa ⟨Aa, na, ca, Ab, nb, cb, Ac, nc, cc, rfl, -, -, -, hLa, hOa, hSa, hba⟩
            have bY4 := bY3.below hba bY3.lt
            have bZ4 := bZ3.below hba bZ3.lt
            have hE4 := hE3.below hba (Nat.le_refl _)
            have hb4 := hb3.trans (hba.mono hb3.size)
            clear bY3 bZ3 hE3 hb3 hba
            go_upto_region 12 with fail
            have bP5 := Blk.new wa 33 #[.slice Ab nb cb, .slice Ac nc cc, .int .i64 VN, .int .i64 VD]
            have hLa5 := (hLa.sls hrw.out).below ((Below.refl wa.heap.size wa).alloc (Nat.le_refl _) (.cells #[.slice Ab nb cb, .slice Ac nc cc, .int .i64 VN, .int .i64 VD] 33)) (Nat.le_refl _)
            have hOa5 := hOa.alloc (.cells #[.slice Ab nb cb, .slice Ac nc cc, .int .i64 VN, .int .i64 VD] 33)
            have hSa5 := hSa.alloc (.cells #[.slice Ab nb cb, .slice Ac nc cc, .int .i64 VN, .int .i64 VD] 33)
            have bY5 := bY4.alloc (.cells #[.slice Ab nb cb, .slice Ac nc cc, .int .i64 VN, .int .i64 VD] 33)
            have bZ5 := bZ4.alloc (.cells #[.slice Ab nb cb, .slice Ac nc cc, .int .i64 VN, .int .i64 VD] 33)
            have hE5 := hE4.alloc (.cells #[.slice Ab nb cb, .slice Ac nc cc, .int .i64 VN, .int .i64 VD] 33)
            have hb5 := hb4.alloc hb4.size (.cells #[.slice Ab nb cb, .slice Ac nc cc, .int .i64 VN, .int .i64 VD] 33)
            have hnb : nb ≤ 4096 := by have := hOa.len; omega
            have hnc : nc ≤ 64 := by have := hSa.len; omega
            have hna : na ≤ 64 := by have := hLa.len; omega
            clear hLa hOa hSa bY4 bZ4 hE4 hb4 sm1 sm2 sm3
            generalize hwp : wa.alloc (.cells #[.slice Ab nb cb, .slice Ac nc cc, .int .i64 VN, .int .i64 VD] 33) = wp at *
            clear hwp
            generalize wa.heap.size = gp at *
            obtain ⟨d0, d1⟩ := blkG bY5
            have x0 := Blk.cell bZ5 0
            have x1 := Blk.cell bZ5 1
            simp at x0 x1
            have kk := Lib.hid (kr.out wp hE5)
            go_wp2_with fail
            refine kk.out.mono ?_
            clear kk d0 d1 x0 x1 kr
            rintro e wb ⟨Ad, nd, cd, Ae, ne, ce, Af, nf, cf, rfl, -, -, -, hLb, hOb, hSb, hbb⟩
            have bP6 := bP5.below hbb bP5.lt
            have hLa6 := hLa5.below hbb (Nat.le_refl _)
            have hOa6 := hOa5.below hbb (Nat.le_refl _)
            have hSa6 := hSa5.below hbb (Nat.le_refl _)
            have hb6 := hb5.trans (hbb.mono hb5.size)
            clear bP5 hLa5 hOa5 hSa5 bY5 bZ5 hE5 hb5 hbb
            go_upto_region 13 with fail
            have bQ7 := Blk.new wb 33 #[.slice Ae ne ce, .slice Af nf cf, .int .i64 VN, .int .i64 VD]
            have hwb := (Below.refl wb.heap.size wb).alloc (Nat.le_refl _) (.cells #[.slice Ae ne ce, .slice Af nf cf, .int .i64 VN, .int .i64 VD] 33)
            have bP7 := bP6.alloc (.cells #[.slice Ae ne ce, .slice Af nf cf, .int .i64 VN, .int .i64 VD] 33)
            have hLb7 := (hLb.sls hrw.out).below hwb (Nat.le_refl _)
            have hLa7 := hLa6.below hwb (Nat.le_refl _)
            have hOa7 := hOa6.below hwb (Nat.le_refl _)
            have hSa7 := hSa6.below hwb (Nat.le_refl _)
            have hOb7 := hOb.below hwb (Nat.le_refl _)
            have hSb7 := hSb.below hwb (Nat.le_refl _)
            have hb7 := hb6.alloc hb6.size (.cells #[.slice Ae ne ce, .slice Af nf cf, .int .i64 VN, .int .i64 VD] 33)
            clear bP6 hLb hLa6 hOa6 hSa6 hOb hSb hb6 hwb hrw
            generalize hwq : wb.alloc (.cells #[.slice Ae ne ce, .slice Af nf cf, .int .i64 VN, .int .i64 VD] 33) = wq at *
            clear hwq
            generalize wb.heap.size = gq at *
            obtain rfl : na = nd := hLa7.1.symm.trans hLb7.1
            have ks1 := Lib.hid (sameall_self Aa Ad na ca cd VL wq hLa7 hLb7 (by omega))
            have ks2 := Lib.hid (fun q => same20_any Ab Ac Ae Af nb cb nc cc ne ce nf cf VO VS VN VD (wq.drewN q) hOa7 hSa7 hOb7 hSb7 (by omega) (by omega))
            have u0 := Blk.cell bP7 0
            have u1 := Blk.cell bP7 1
            have u2 := Blk.cell bP7 2
            have u3 := Blk.cell bP7 3
            have v0 := Blk.cell bQ7 0
            have v1 := Blk.cell bQ7 1
            have v2 := Blk.cell bQ7 2
            have v3 := Blk.cell bQ7 3
            simp at u0 u1 u2 u3 v0 v1 v2 v3
            clear bP7 bQ7 hLb7 hLa7 hOa7 hSa7 hOb7 hSb7
            go_wp2_with (first
              | (go_at_call 22; with_reducible refine ks1.out.mono ?_; rintro e wx ⟨rfl, q1, rfl⟩)
              | (go_at_call 23; with_reducible refine (ks2.out _).mono ?_; rintro e wx ⟨rfl, hbx⟩
                 have hb8 := hb7.trans (((below_drewN (Below.refl _ wq) q1).trans hbx).mono hb7.size))
              | fail)
            go_roundw
            case rel => exact ⟨t0 + 1, by omega, by go_num, hb8⟩
            case measure => simp [intOf]; omega
          · have i1 : ¬ (t0 : Int) < 3 := by omega
            have hbe := hb1.trans (hb2.mono hb1.size)
            go_wp2_with fail
            go_roundw
            case rel => exact ⟨k0 + 1, by omega, by go_num, hbe⟩
            case measure => simp [intOf]; omega
      · have i0 : ¬ (k0 : Int) < 2 := by omega
        have ka2 := Lib.hid (ka.out wr (hT.keep hWr))
        go_wp2_with (first | (go_at_call 16; refine ka2.out.mono ?_; rintro e wz ⟨rfl, hbz⟩) | fail)
        go_ret
        exact ⟨rfl, hWr.trans (hbz.mono hWr.size)⟩
end Go.Proofs.YtdibfecejgjfmaaDoor
