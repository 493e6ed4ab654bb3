/- What is made of numbers (cohesionmake): the deck. -/
import Derived.Test.YtdibfecejgjfmaaGreatDoorMem
import Derived.Deep.RegionLaw
set_option linter.unusedVariables false
namespace Go.Proofs.YtdibfecejgjfmaaGreatDoor
open Go.RowKit

set_option maxHeartbeats 400000 in
theorem mkmod_any (n k : Int) (w : World) (hk : 0 < k) (hk2 : k ≤ 4611686018427387904) :
    Calls Tryz.prog 32 #[.int .i64 n, .int .i64 k] w fun e w' => e = .returned (.int .i64 (n % k)) ∧ w = w' := by
  obtain ⟨T, hT⟩ : ∃ T, n.tmod k = T := ⟨_, rfl⟩
  have h1 : T < k := hT ▸ Int.tmod_lt_of_pos n hk
  have h2 : -k < T := by
    have := Int.tmod_lt_of_pos (-n) hk
    rw [Int.neg_tmod, hT] at this
    omega
  have h3 : Hid (n % k = (T + k) % k) := Lib.hid (by
    rw [Int.add_emod_right, ← hT]
    have e1 := Int.mul_tdiv_add_tmod n k
    conv => lhs; rw [← e1]
    rw [Int.mul_add_emod_self_left])
  go_enter Tryz.func32, Tryz.ntmps32
  go_wp2
  go_ret
  exact ⟨retInt h3.out.symm, rfl⟩

/-- A deck lies in block g. -/
def Dk (w : World) (g : Nat) : Prop := ∃ (A : Option Addr) (n c : Nat) (xs : List Int) (i : Nat), Blk w g 55 #[.slice A n c, .int .i64 i] ∧ Reads w g 1 A n (ints xs) ∧ i ≤ n ∧ n ≤ c ∧ n ≤ 1152921504606846976
theorem Dk.lt {w : World} {g : Nat} (h : Dk w g) : g < w.heap.size := by obtain ⟨_, _, _, _, _, h, _⟩ := h; exact h.lt
theorem Dk.below {w w' : World} {g b : Nat} (h : Dk w g) (hb : Below b w w') (hg : g < b) : Dk w' g := by
  obtain ⟨A, n, c, xs, i, h1, h2, h3⟩ := h
  exact ⟨A, n, c, xs, i, Blk.below h1 hb hg, Reads.below h2 hb (by omega), h3⟩
theorem Dk.drewN {w : World} {g : Nat} (h : Dk w g) (n : Nat) : Dk (w.drewN n) g := h
theorem Dk.drew {w : World} {g : Nat} (h : Dk w g) : Dk w.drew g := h
theorem Dk.alloc {w : World} {g : Nat} (h : Dk w g) (o : Obj) : Dk (w.alloc o) g := h.below ((Below.refl _ _).alloc (Nat.le_refl w.heap.size) o) h.lt
theorem Dk.grown {w w' : World} {g : Nat} {row : Option Nat} (h : Dk w g) (hg : w.grownBy w' row) (hr : ∀ k, row = some k → g < k) : Dk w' g :=
  h.below (b := g + 1) ((Below.refl _ w).grown hg h.lt (fun k hk => hr k hk)) (Nat.lt_succ_self g)
theorem grown_drewN {w w' : World} {row : Option Nat} (h : w.grownBy w' row) (n : Nat) : w.grownBy (w'.drewN n) row := ⟨h.os, h.tape, h.output, h.size, h.block⟩
theorem grown_drew {w w' : World} {row : Option Nat} (h : w.grownBy w' row) : w.grownBy w'.drew row := ⟨h.os, h.tape, h.output, h.size, h.block⟩
theorem grown_set {w w' : World} {g : Nat} (h : w.grownBy w' (some g)) (i : Nat) (u : Value) : w.grownBy (w'.setCell ⟨g, i, none⟩ u) (some g) :=
  ⟨h.os, h.tape, h.output, by simpa [World.setCell] using h.size, fun k hk hne => (Below.heap_setCell w' ⟨g, i, none⟩ u k (fun e => hne (by rw [e]))).trans (h.block k hk hne)⟩
theorem grown_below {w w' w2 : World} {g b : Nat} (h : w.grownBy w' (some g)) (hb : Below b w' w2) (hs : w.heap.size ≤ b) : w.grownBy w2 (some g) :=
  ⟨hb.os.trans h.os, hb.tape.trans h.tape, hb.output.trans h.output, Nat.le_trans h.size hb.size, fun k hk hne => (hb.block k (by omega)).trans (h.block k hk hne)⟩
theorem grown_trans {w w' w2 : World} {row : Option Nat} (h : w.grownBy w' row) (h2 : w'.grownBy w2 row) : w.grownBy w2 row :=
  ⟨h2.os.trans h.os, h2.tape.trans h.tape, h2.output.trans h.output, Nat.le_trans h.size h2.size, fun k hk hne => (h2.block k (Nat.lt_of_lt_of_le hk h.size) hne).trans (h.block k hk hne)⟩
theorem grown_is_below {w w' : World} {g B : Nat} (h : w.grownBy w' (some g)) (hB : B ≤ g) (hs : B ≤ w.heap.size) : Below B w w' := (Below.refl _ _).grown h hs (fun k hk => by injection hk with hk; omega)

set_option maxHeartbeats 400000 in
theorem new_any (A : Option Addr) (n c : Nat) (xs : List Int) (w : World) (h : RI w A n xs) (hnc : n ≤ c) (hn : n ≤ 1152921504606846976) :
    Calls Tryz.prog 6 #[.slice A n c] w fun e w' => e = .returned (.pointer (some ⟨w.heap.size, 0, none⟩)) ∧ Dk w' w.heap.size ∧ Below w.heap.size w w' ∧ w'.heap.size = w.heap.size + 1 := by
  have hd : Dk (w.alloc (.cells #[.slice A n c, .int .i64 (0 : Nat)] 55)) w.heap.size := ⟨A, n, c, xs, 0, Blk.new _ _ _, Reads.alloc h (Nat.le_refl _) _, Nat.zero_le _, hnc, hn⟩
  replace hd := Lib.hid hd
  go_enter Tryz.func6, Tryz.ntmps6
  go_wp2
  go_ret
  exact ⟨rfl, hd.out, by go_grown, by simp⟩

set_option maxHeartbeats 1000000 in
theorem next_any (g : Nat) (k : Int) (w : World) (h : Dk w g) (hk : k ≤ 4611686018427387904) :
    Calls Tryz.prog 20 #[.pointer (some ⟨g, 0, none⟩), .int .i64 k] w fun e w' => ∃ x : Int, e = .returned (.int .i64 x) ∧ 0 ≤ x ∧ (1 ≤ k → x < k) ∧ (k < 1 → x = 0) ∧ Dk w' g ∧ w.grownBy w' (some g) := by
  obtain ⟨A, n, c, xs, i, hB, hR, hi, hnc, hn⟩ := h
  have hD : Dk w g := ⟨A, n, c, xs, i, hB, hR, hi, hnc, hn⟩
  have c0 := Blk.cell hB 0
  have c1 := Blk.cell hB 1
  simp at c0 c1
  have f1 := Blk.frozen hB 1
  by_cases hk1 : k < 1
  · have q1 : decide (k < 1) = true := by simp; omega
    go_enter Tryz.func20, Tryz.ntmps20
    go_wp2
    go_quiet (fail)
    go_wp2
    go_ret
    exact ⟨0, rfl, Int.le_refl _, fun h => by omega, fun _ => rfl, hD.drewN _, grown_drewN (World.grownBy.refl _ _) _⟩
  · have q1 : decide (k < 1) = false := by simp; omega
    by_cases hin : i < n
    · have q2 : decide ((n : Int) ≤ (i : Int)) = false := by simp; omega
      have i0 : (0 : Int) ≤ (i : Int) := Int.natCast_nonneg _
      have i1 : (i : Int) < (n : Int) := by omega
      obtain ⟨ad, u, rfl, hbl, hu, hcu⟩ := Reads.at_ hR hin
      obtain ⟨y, rfl⟩ : ∃ y, u = .int .i64 y := by
        unfold ints at hu
        rw [List.getElem?_map] at hu
        cases hx : xs[i]? with
        | none => rw [hx] at hu; cases hu
        | some y => rw [hx] at hu; exact ⟨y, by injection hu with hu; exact hu.symm⟩
      clear hu
      go_enter Tryz.func20, Tryz.ntmps20
      go_wp2
      go_quiet (fail)
      go_wp2
      go_quiet (fail)
      have hD2 : ∀ a : Nat, Dk ((w.drewN a).setCell ⟨g, 1, none⟩ (.int .i64 ((i : Int) + 1))) g := by
        intro a
        refine ⟨some ad, n, c, xs, i + 1, ?_, (hR.drewN a).setCell (Nat.le_refl _) _, by omega, hnc, hn⟩
        have := Blk.set (Blk.drewN hB a) 1 (.int .i64 ((i : Int) + 1))
        simpa using this
      replace hD2 := Lib.hid hD2
      go_wp2_with fail
      refine (mkmod_any y k _ (by omega) hk).mono ?_
      rintro e w1 ⟨rfl, rfl⟩
      have m2 := Int.emod_nonneg y (show k ≠ 0 by omega)
      have m3 := Int.emod_lt_of_pos y (show 0 < k by omega)
      generalize y % k = r at *
      go_wp2
      go_ret
      exact ⟨r, rfl, m2, fun _ => m3, fun h => by omega, hD2.out _, grown_set (grown_drewN (World.grownBy.refl _ _) _) _ _⟩
    · have q2 : decide ((n : Int) ≤ (i : Int)) = true := by simp; omega
      go_enter Tryz.func20, Tryz.ntmps20
      go_wp2
      go_quiet (fail)
      go_wp2
      go_ret
      exact ⟨0, rfl, Int.le_refl _, fun h => by omega, fun _ => rfl, hD.drewN _, grown_drewN (World.grownBy.refl _ _) _⟩

end Go.Proofs.YtdibfecejgjfmaaGreatDoor
