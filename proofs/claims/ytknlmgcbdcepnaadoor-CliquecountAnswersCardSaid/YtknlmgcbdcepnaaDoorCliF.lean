/- Package cliquecount: Choose. -/
import Derived.Test.YtknlmgcbdcepnaaDoorCliE
set_option linter.unusedVariables false
set_option linter.unusedSimpArgs false
namespace CoCli
/-- The rows of Pascal's triangle. -/
def rowP : Nat → List Nat
  | 0 => [1]
  | n + 1 => List.zipWith (· + ·) (0 :: rowP n) (rowP n ++ [0])
theorem rowP_length (n : Nat) : (rowP n).length = n + 1 := by
  induction n with
  | zero => rfl
  | succ n ih => rw [rowP, List.length_zipWith, List.length_cons, List.length_append, ih]; simp
theorem rowP_at (n : Nat) : ∀ k, k ≤ n → (rowP n)[k]? = some (ch n k) := by
  induction n with
  | zero =>
    intro k hk
    obtain rfl : k = 0 := by omega
    rfl
  | succ n ih =>
    intro k hk
    have hl := rowP_length n
    rw [rowP, List.getElem?_zipWith]
    cases k with
    | zero =>
      rw [List.getElem?_cons_zero, List.getElem?_append_left (by omega), ih 0 (by omega), ch_zero, ch_zero]
    | succ k =>
      rw [List.getElem?_cons_succ, ih k (by omega), ch_succ]
      by_cases h : k + 1 ≤ n
      · rw [List.getElem?_append_left (by omega), ih (k + 1) h]
      · obtain rfl : k = n := by omega
        rw [List.getElem?_append_right (by omega), hl, ch_gt (show k < k + 1 by omega)]; simp
theorem row64 : (rowP 64).all (fun x => x < 9223372036854775808) = true := by decide +kernel
theorem ch64 {n : Nat} (hn : n ≤ 64) (k : Nat) : ch n k < 9223372036854775808 := by
  refine Nat.lt_of_le_of_lt (ch_mono k hn) ?_
  by_cases hk : k ≤ 64
  · have h := rowP_at 64 k hk
    have := List.all_eq_true.1 row64 _ (List.mem_of_getElem? h)
    simpa using this
  · rw [ch_gt (by omega)]; omega
end CoCli
namespace Go.Proofs.YtknlmgcbdcepnaaDoor
open Go.RowKit CoBit CoCli

def rowV (f : Nat → Nat) : List Value := (List.range 65).map fun j => Value.int .i64 ((f j : Nat) : Int)
theorem rowV_set (f : Nat → Nat) (i v : Nat) : (rowV f).set i (.int .i64 (v : Int)) = rowV (upd f i v) := by
  refine List.ext_getElem? fun j => ?_
  unfold rowV
  rw [List.getElem?_set]
  simp only [List.getElem?_map, List.length_map, List.length_range]
  by_cases h : i = j
  · subst h
    by_cases hj : i < 65
    · simp [hj, upd]
    · simp [hj]
  · rw [if_neg h]
    by_cases hj : j < 65
    · simp [hj, upd, Ne.symm h]
    · simp [hj]
/-- Block g holds a row of 65 numbers. -/
def AR (w : World) (g : Nat) (f : Nat → Nat) : Prop := Blk w g 72 (rowV f).toArray
section
variable {w w' : World} {g : Nat} {f : Nat → Nat}
theorem AR.cell (h : AR w g f) {i : Nat} (hi : i < 65) : w.cell? ⟨g, i, none⟩ = some (.int .i64 ((f i : Nat) : Int)) := by
  rw [Blk.cell h i]
  simp [rowV, hi]
theorem AR.set (h : AR w g f) (i v : Nat) : AR (w.setCell ⟨g, i, none⟩ (.int .i64 (v : Int))) g (upd f i v) := by
  have := Blk.set h i (.int .i64 (v : Int))
  unfold AR
  have e : (rowV f).toArray.setIfInBounds i (.int .i64 (v : Int)) = (rowV (upd f i v)).toArray := by rw [← rowV_set]; simp
  rwa [e] at this
end
/-- The row while it is turned into the next one. -/
def rowF (i j : Nat) : Nat → Nat := fun t => if j < t then ch (i + 1) t else ch i t
theorem rowF_start (i : Nat) : rowF i (i + 1) = ch i := by
  funext t
  unfold rowF
  split
  · rw [ch_gt (by omega), ch_gt (by omega)]
  · rfl
theorem rowF_end (i : Nat) : rowF i 0 = ch (i + 1) := by
  funext t
  unfold rowF
  split
  · rfl
  · obtain rfl : t = 0 := by omega
    rw [ch_zero, ch_zero]
theorem rowF_step (i j : Nat) : upd (rowF i (j + 1)) (j + 1) (rowF i (j + 1) (j + 1) + rowF i (j + 1) j) = rowF i j := by
  funext t
  unfold upd rowF
  by_cases h : t = j + 1
  · subst h
    rw [if_pos rfl, if_neg (by omega), if_neg (by omega), if_pos (by omega), ch_succ]; omega
  · rw [if_neg h]
    by_cases h2 : j + 1 < t
    · rw [if_pos h2, if_pos (by omega)]
    · rw [if_neg h2, if_neg (by omega)]
/-- What Choose returns. -/
def chZ (n k : Int) : Int := if n < 0 ∨ 64 < n ∨ k < 0 ∨ n < k then 0 else (ch n.toNat k.toNat : Nat)

set_option maxRecDepth 100000 in
set_option maxHeartbeats 2000000 in
theorem choose_any (n k : Int) (w : World) :
    Calls Tryd.prog 12 #[.int .i64 n, .int .i64 k] w fun e w' => e = .returned (.int .i64 (chZ n k)) ∧ Below w.heap.size w w' := by
  by_cases hz : n < 0 ∨ 64 < n ∨ k < 0 ∨ n < k
  · have hv : chZ n k = 0 := if_pos hz
    have hw : (decide (n < 0) = true) ∨ (decide (n < 0) = false ∧ decide (64 < n) = true) ∨ (decide (n < 0) = false ∧ decide (64 < n) = false ∧ decide (k < 0) = true) ∨ (decide (n < 0) = false ∧ decide (64 < n) = false ∧ decide (k < 0) = false ∧ decide (n < k) = true) := by
      simp; omega
    replace hv := Lib.hid hv
    clear hz
    rcases hw with q1 | ⟨q1, q2⟩ | ⟨q1, q2, q3⟩ | ⟨q1, q2, q3, q4⟩
    all_goals
      go_enter Tryd.func12, Tryd.ntmps12
      go_wp2_with fail
      go_ret
      exact ⟨retInt hv.out.symm, Below.refl _ _⟩
  · obtain ⟨n, rfl⟩ := Int.eq_ofNat_of_zero_le (show 0 ≤ n by omega)
    obtain ⟨k, rfl⟩ := Int.eq_ofNat_of_zero_le (show 0 ≤ k by omega)
    have hv : chZ n k = (ch n k : Nat) := by unfold chZ; rw [if_neg hz]; simp
    have q1 : decide ((n : Int) < 0) = false := by simp
    have q2 : decide (64 < (n : Int)) = false := by simp; omega
    have q3 : decide ((k : Int) < 0) = false := by simp
    have q4 : decide ((n : Int) < (k : Int)) = false := by simp; omega
    have hn : n ≤ 64 := by omega
    have hk : k ≤ n := by omega
    replace hv := Lib.hid hv
    clear hz
    go_enter Tryd.func12, Tryd.ntmps12
    have q5 : decide (n < k) = false := by simp; omega
    have z0 : Tryd.zeroCells72.setIfInBounds 0 (.int .i64 1) = (rowV (ch 0)).toArray := by kernel_rfl
    replace z0 := Lib.hid z0
    go_wp2_with fail
    have hA0 : AR (w.alloc (.cells (Tryd.zeroCells72.setIfInBounds 0 (.int .i64 1)) 72)) w.heap.size (ch 0) := by
      unfold AR
      rw [← z0.out]
      exact Blk.new _ _ _
    have hb0 : Below w.heap.size w (w.alloc (.cells (Tryd.zeroCells72.setIfInBounds 0 (.int .i64 1)) 72)) := (Below.refl _ _).alloc (Nat.le_refl _) _
    generalize w.alloc (.cells (Tryd.zeroCells72.setIfInBounds 0 (.int .i64 1)) 72) = w1 at *
    go_loopg [25] n (fun d i wr => ∃ (j : Nat), j ≤ n ∧ d = n - j ∧ i = .int .i64 j ∧ AR wr w.heap.size (ch j) ∧ Below w.heap.size w wr)
    case atStart => exact ⟨0, Nat.zero_le _, rfl, rfl, hA0, hb0⟩
    case round =>
      obtain ⟨j, hj, rfl, rfl, hA, hb⟩ := hrel
      clear hA0 hb0
      by_cases hlt : j < n
      · go_wp2_with fail
        rw [← rowF_start] at hA
        obtain ⟨wo, rfl⟩ : ∃ wo : World, wo = wr := ⟨_, rfl⟩
        go_loopg [7] (j + 1) (fun d i wr => ∃ (t : Nat), t ≤ j + 1 ∧ t = d ∧ i = .int .i64 t ∧ AR wr w.heap.size (rowF j t) ∧ Below w.heap.size w wr)
        case atStart => exact ⟨j + 1, Nat.le_refl _, rfl, by go_num, hA, hb⟩
        case round =>
          obtain ⟨t, ht, rfl, rfl, hA2, hb2⟩ := hrel
          clear hA hb
          by_cases h0 : 0 < t
          · obtain ⟨s, rfl⟩ : ∃ s, t = s + 1 := ⟨t - 1, by omega⟩
            have c1 := hA2.cell (i := s + 1) (by omega)
            have c2 := hA2.cell (i := s) (by omega)
            have hst := rowF_step j s
            have hv : rowF j (s + 1) (s + 1) + rowF j (s + 1) s = ch (j + 1) (s + 1) := by
              unfold rowF
              rw [if_neg (by omega), if_neg (by omega), ch_succ]; omega
            have hbd := ch64 (n := j + 1) (by omega) (s + 1)
            rw [← hv] at hbd
            have hset := AR.set hA2 (s + 1) (rowF j (s + 1) (s + 1) + rowF j (s + 1) s)
            rw [hst] at hset
            have hfr := Blk.frozen hA2 (s + 1)
            have hb3 := (hb2.setCell (p := ⟨w.heap.size, s + 1, none⟩) (Nat.le_refl _) (.int .i64 ((rowF j (s + 1) (s + 1) + rowF j (s + 1) s : Nat) : Int))).drew
            have q6 : decide (0 < ((s + 1 : Nat) : Int)) = true := decide_eq_true (by omega)
            have i3 : IntKind.i64.wrap (((s + 1 : Nat) : Int) - 1) = (s : Int) := by rw [show ((s + 1 : Nat) : Int) - 1 = (s : Int) by omega]; exact IntWalk.i64_in _ ⟨by omega, by omega⟩
            have i4 : IntKind.i64.wrap (((rowF j (s + 1) (s + 1) : Nat) : Int) + ((rowF j (s + 1) s : Nat) : Int)) = ((rowF j (s + 1) (s + 1) + rowF j (s + 1) s : Nat) : Int) := by rw [← Int.natCast_add]; exact IntWalk.i64_in _ ⟨by omega, by omega⟩
            clear hv hst hA2 hb2 hbd
            have hset' : AR (wr.setCell ⟨w.heap.size, s + 1, none⟩ (.int .i64 ((rowF j (s + 1) (s + 1) + rowF j (s + 1) s : Nat) : Int))).drew w.heap.size (rowF j s) := hset
            clear hset
            generalize rowF j (s + 1) (s + 1) + rowF j (s + 1) s = V at *
            generalize rowF j (s + 1) (s + 1) = X at *
            generalize rowF j (s + 1) s = Y at *
            obtain ⟨T, hT⟩ : ∃ T : Int, T = ((s + 1 : Nat) : Int) := ⟨_, rfl⟩
            have hT1 : T.toNat = s + 1 := by omega
            have hT2 : 0 ≤ T := by omega
            have hT3 : T < 65 := by omega
            have j0 : (0 : Int) ≤ (s : Int) := Int.natCast_nonneg _
            have j1 : (s : Int) < 65 := by omega
            rw [← hT] at i3 q6 ⊢
            replace hT := Lib.hid hT
            go_wp2_with fail
            go_region
            go_wp2_with fail
            go_roundg s
            case rel => exact ⟨s, by omega, rfl, rfl, hset', hb3⟩
            case measure => omega
          · obtain rfl : t = 0 := by omega
            rw [rowF_end] at hA2
            have q6 : decide ((0 : Int) < ((0 : Nat) : Int)) = false := rfl
            go_wp2_with fail
            go_roundg (n - (j + 1))
            case rel => exact ⟨j + 1, by omega, rfl, by go_num, hA2, hb2⟩
            case measure => omega
      · obtain rfl : j = n := by omega
        have ck := hA.cell (i := k) (by omega)
        have i0 : (0 : Int) ≤ (k : Int) := Int.natCast_nonneg _
        have i1 : (k : Int) < 65 := by omega
        go_wp2_with fail
        go_ret
        exact ⟨retInt hv.out.symm, hb⟩
end Go.Proofs.YtknlmgcbdcepnaaDoor
