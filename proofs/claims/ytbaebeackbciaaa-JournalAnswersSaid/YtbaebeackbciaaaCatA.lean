/- slices.Grow of no slice, and slices.Concat. -/
import Derived.Test.YtbaebeackbciaaaGll
import Derived.Test.YtbaebeackbciaaaEveG
import Derived.Lib.AppendZerosOnto
import Derived.Lib.SliceRun
set_option linter.unusedVariables false
set_option linter.unusedSimpArgs false
namespace Go.Proofs.Ytbaebeackbciaaa
open Go.RowKit CoEv

theorem OS.zeros {α : Type} {E : El α} {t : TypeId} {w : World} {z : Value} {n G B : Nat} (hz : z.cells.size = E.size) (hG : n ≤ G) (hm : G ≤ maxLen) (hB : B ≤ w.heap.size) :
    OS E t (w.alloc (.cells (Builtin.zeroCells z.cells n ++ Builtin.zeroCells z.cells (G - n)) t)).drew B (.slice (some ⟨w.heap.size, 0, none⟩) 0 G) [] := by
  refine ⟨by simp [El.all], .inr ⟨w.heap.size, G, _, rfl, hB, heap_alloc_new w _, Nat.zero_le _, hm, ?_, by simp [El.all]⟩⟩
  rw [Array.size_append, size_zeroCells, size_zeroCells, hz, ← Nat.add_mul, Nat.add_sub_cancel' hG]
theorem flat_take' {α : Type} {L : List (List α)} {k : Nat} {ys : List α} (h : L[k]? = some ys) : (L.take (k + 1)).flatten = (L.take k).flatten ++ ys := by
  rw [List.take_add_one, h, List.flatten_append]; simp
theorem flat_take {α : Type} {L : List (List α)} {k : Nat} {ys : List α} (h : L[k]? = some ys) : (L.take (k + 1)).flatten.length = (L.take k).flatten.length + ys.length := by
  rw [flat_take' h, List.length_append]
theorem flat_le {α : Type} (L : List (List α)) (k : Nat) : (L.take k).flatten.length ≤ L.flatten.length := by
  have := congrArg (fun l => (List.flatten l).length) (List.take_append_drop k L)
  simp only [List.flatten_append, List.length_append] at this
  omega

set_option maxRecDepth 100000 in
set_option maxHeartbeats 2000000 in
theorem bgrow_any (n : Nat) (w : World) (hn : n * 1 ≤ 140737488355328) : Calls Try.prog 44 #[.slice none 0 0, .int .i64 n] w fun e w' => ∃ v, e = .returned v ∧ OS BE 5 w' w.heap.size v [] ∧ Below w.heap.size w w' := by
  obtain ⟨z, hi, hzs⟩ := tyB.info
  obtain ⟨i0, hi0, hz0, hz1, hz2⟩ := info_parts hi
  have h1 : ¬ (n : Int) < 0 := by omega
  by_cases h0 : n = 0
  · subst h0
    go_enter Try.func44, Try.ntmps44
    go_wp2_with fail
    go_ret
    exact ⟨_, rfl, OS.nil_, Below.refl _ _⟩
  · have h2 : (0 : Int) < (n : Int) := by omega
    have hs : i0.size = BE.size := hz1
    have hby : i0.bytes = 1 := hz2
    have hold : (Builtin.firstCells i0.size 0 (.slice none 0 0)).run Try.prog w.drew = .ok ([] : List Value).toArray w.drew := run_firstCells_none w.drew i0.size 0 0 0
    have h := fun ty => Lib.run_append_grow_zeros w 26 3 ty 5 i0 z .i64 .i64 tyB.und Try.underlying3 hi0 hz0 none 0 0 [] hold n (by omega) (by rw [hs]; exact BE.pos) (by omega) (by omega) (by rw [hby]; omega)
      (by rw [Nat.zero_add]; exact growslice_fits (by omega) (by rw [hby]; exact hn))
    simp only [Nat.zero_add] at h
    have hG := grownCap_ge w n 0 5
    have hM := grownCap_le_maxLen w n 0 5 (by unfold maxLen; omega)
    have hO := OS.zeros (E := BE) (t := 5) (w := w) (z := z) (n := n) (B := w.heap.size) hzs hG hM (Nat.le_refl _)
    generalize grownCap w n 0 5 = G at *
    have hE : ([] : List Value).toArray ++ Builtin.zeroCells z.cells n ++ Builtin.zeroCells z.cells (G - n) = Builtin.zeroCells z.cells n ++ Builtin.zeroCells z.cells (G - n) := by simp
    simp only [hE] at h
    clear hE
    generalize Builtin.zeroCells z.cells n ++ Builtin.zeroCells z.cells (G - n) = Z at *
    have hGi : (0 : Int) ≤ (G : Int) := Int.natCast_nonneg _
    have hGm : G ≤ 9223372036854775807 := hM
    clear hold hi hi0 hz0 hz1 hz2
    go_enter Try.func44, Try.ntmps44
    go_wp2_with (at_builtin; refine Lib.wpList_append_run _ rfl _ _ _ _ rfl _ _ rfl rfl _ _ (h _) ?_)
    all_goals
      go_ret
      exact ⟨_, rfl, hO, ((Below.refl _ _).alloc (Nat.le_refl _) _).drew⟩

set_option maxRecDepth 100000 in
set_option maxHeartbeats 4000000 in
theorem bconcat_any (A : Option Addr) (n c : Nat) (L : List (List Nat)) (w : World) (h : RL BE w A n L) (hn : n ≤ 1099511627776) (hm : L.flatten.length ≤ 1099511627776) :
    Calls Try.prog 32 #[.slice A n c] w (RetG BE w L.flatten) := by
  have hl := Lib.hid h.len
  have kg := Lib.hid fun w => bgrow_any L.flatten.length w (by omega)
  go_enter Try.func32, Try.ntmps32
  go_wp2_with fail
  go_loop [3, 11] (fun s i => ∃ (k : Nat), k ≤ n ∧ i = .int .i64 k ∧ s = .int .i64 ((L.take k).flatten.length : Nat)) (fun _ i => n - (intOf i).toNat)
  case atStart => exact ⟨0, Nat.zero_le _, rfl, rfl⟩
  case round =>
    obtain ⟨k, hk, rfl, rfl⟩ := hrel
    by_cases hlt : k < n
    · obtain ⟨ad, A', k', c', ys, rfl, hc1, hy, hkc, hr, _⟩ := h.get hlt
      have e1 := flat_take hy.out
      have e2 := flat_le L (k + 1)
      have e3 := hr.len
      rw [e1] at e2
      have i2 : (0 : Int) ≤ (k : Int) := Int.natCast_nonneg _
      have i3 : (k : Int) < (n : Int) := by omega
      rw [e3] at e1 e2
      have e1' := Lib.hid e1
      generalize (L.take k).flatten.length = S at *
      clear hy e1 e3
      go_wp2_with fail
      go_round
      case rel => exact ⟨k + 1, by omega, by go_num, by rw [e1'.out]; go_num⟩
      case measure => simp [intOf]; omega
    · obtain rfl : k = n := by omega
      have hf : (L.take k).flatten.length = L.flatten.length := by rw [← hl.out, List.take_length]
      rw [hf]
      clear hf
      generalize hS : L.flatten.length = S at *
      replace hS := Lib.hid hS
      go_wp2_with fail
      (with_reducible refine (kg.out _).mono ?_)
      rintro e w1 ⟨v1, rfl, ho1, hb1⟩
      go_wp2_with fail
      go_loopw [6, 27] (fun o i wr => ∃ (k1 : Nat) (v : Value), v = o ∧ k1 ≤ k ∧ i = .int .i64 k1 ∧ OS BE 5 wr w.heap.size v (L.take k1).flatten ∧ Below w.heap.size w wr) (fun _ i _ => k - (intOf i).toNat)
      case atStart => exact ⟨0, _, rfl, Nat.zero_le _, rfl, ho1, hb1⟩
      case round =>
        clear ho1 hb1
        obtain ⟨j, v, rfl, hj, rfl, ho, hb⟩ := hrel
        by_cases hlt : j < k
        · obtain ⟨ad, A', k', c', ys, rfl, hc1, hy, hkc, hr, _⟩ := (h.below hb (Nat.le_refl _)).get hlt
          have e1 := flat_take hy.out
          have e2 := flat_le L (j + 1)
          have e3 := hr.len
          rw [e1, hS.out, e3] at e2
          have e4 : (L.take (j + 1)).flatten = (L.take j).flatten ++ ys := flat_take' hy.out
          have i2 : (0 : Int) ≤ (j : Int) := Int.natCast_nonneg _
          have i3 : (j : Int) < (k : Int) := by omega
          clear e1 e3 hy
          have hs := hb.size
          go_wp2_with (at_builtin; refine wpList_catG tyB rfl _ _ rfl rfl rfl ho hr (by unfold maxLen; omega) (by omega) hs ?_; intro v2 w2 ho2 hb2 hg2)
          rw [← e4] at ho2
          have hb3 := hb.trans hb2
          clear ho hb hb2 hg2 hr hc1 e4
          go_roundw
          case rel => exact ⟨j + 1, _, rfl, by omega, by go_num, ho2, hb3⟩
          case measure => simp [intOf]; omega
        · obtain rfl : j = k := by omega
          rw [show L.take j = L by rw [← hl.out, List.take_length]] at ho
          go_wp2_with fail
          go_ret
          exact RetG.own ho hb (Nat.le_refl _)

set_option maxRecDepth 100000 in
set_option maxHeartbeats 2000000 in
theorem egrow_any (n : Nat) (w : World) (hn : n * 56 ≤ 140737488355328) : Calls Try.prog 45 #[.slice none 0 0, .int .i64 n] w fun e w' => ∃ v, e = .returned v ∧ OS EE 55 w' w.heap.size v [] ∧ Below w.heap.size w w' := by
  obtain ⟨z, hi, hzs⟩ := tyE.info
  obtain ⟨i0, hi0, hz0, hz1, hz2⟩ := info_parts hi
  have h1 : ¬ (n : Int) < 0 := by omega
  by_cases h0 : n = 0
  · subst h0
    go_enter Try.func45, Try.ntmps45
    go_wp2_with fail
    go_ret
    exact ⟨_, rfl, OS.nil_, Below.refl _ _⟩
  · have h2 : (0 : Int) < (n : Int) := by omega
    have hs : i0.size = EE.size := hz1
    have hby : i0.bytes = 56 := hz2
    have hold : (Builtin.firstCells i0.size 0 (.slice none 0 0)).run Try.prog w.drew = .ok ([] : List Value).toArray w.drew := run_firstCells_none w.drew i0.size 0 0 0
    have h := fun ty => Lib.run_append_grow_zeros w 32 3 ty 55 i0 z .i64 .i64 tyE.und Try.underlying3 hi0 hz0 none 0 0 [] hold n (by omega) (by rw [hs]; exact EE.pos) (by omega) (by omega) (by rw [hby]; omega)
      (by rw [Nat.zero_add]; exact growslice_fits (by omega) (by rw [hby]; exact hn))
    simp only [Nat.zero_add] at h
    have hG := grownCap_ge w n 0 55
    have hM := grownCap_le_maxLen w n 0 55 (by unfold maxLen; omega)
    have hO := OS.zeros (E := EE) (t := 55) (w := w) (z := z) (n := n) (B := w.heap.size) hzs hG hM (Nat.le_refl _)
    generalize grownCap w n 0 55 = G at *
    have hE : ([] : List Value).toArray ++ Builtin.zeroCells z.cells n ++ Builtin.zeroCells z.cells (G - n) = Builtin.zeroCells z.cells n ++ Builtin.zeroCells z.cells (G - n) := by simp
    simp only [hE] at h
    clear hE
    generalize Builtin.zeroCells z.cells n ++ Builtin.zeroCells z.cells (G - n) = Z at *
    have hGi : (0 : Int) ≤ (G : Int) := Int.natCast_nonneg _
    have hGm : G ≤ 9223372036854775807 := hM
    clear hold hi hi0 hz0 hz1 hz2
    go_enter Try.func45, Try.ntmps45
    go_wp2_with (at_builtin; refine Lib.wpList_append_run _ rfl _ _ _ _ rfl _ _ rfl rfl _ _ (h _) ?_)
    all_goals
      go_ret
      exact ⟨_, rfl, hO, ((Below.refl _ _).alloc (Nat.le_refl _) _).drew⟩

set_option maxRecDepth 100000 in
set_option maxHeartbeats 4000000 in
theorem econcat_any (A : Option Addr) (n c : Nat) (L : List (List Ev)) (w : World) (h : RL EE w A n L) (hn : n ≤ 1099511627776) (hm : L.flatten.length ≤ 1099511627776) :
    Calls Try.prog 33 #[.slice A n c] w (RetG EE w L.flatten) := by
  have hl := Lib.hid h.len
  have kg := Lib.hid fun w => egrow_any L.flatten.length w (by omega)
  go_enter Try.func33, Try.ntmps33
  go_wp2_with fail
  go_loop [3, 11] (fun s i => ∃ (k : Nat), k ≤ n ∧ i = .int .i64 k ∧ s = .int .i64 ((L.take k).flatten.length : Nat)) (fun _ i => n - (intOf i).toNat)
  case atStart => exact ⟨0, Nat.zero_le _, rfl, rfl⟩
  case round =>
    obtain ⟨k, hk, rfl, rfl⟩ := hrel
    by_cases hlt : k < n
    · obtain ⟨ad, A', k', c', ys, rfl, hc1, hy, hkc, hr, _⟩ := h.get hlt
      have e1 := flat_take hy.out
      have e2 := flat_le L (k + 1)
      have e3 := hr.len
      rw [e1] at e2
      have i2 : (0 : Int) ≤ (k : Int) := Int.natCast_nonneg _
      have i3 : (k : Int) < (n : Int) := by omega
      rw [e3] at e1 e2
      have e1' := Lib.hid e1
      generalize (L.take k).flatten.length = S at *
      clear hy e1 e3
      go_wp2_with fail
      go_round
      case rel => exact ⟨k + 1, by omega, by go_num, by rw [e1'.out]; go_num⟩
      case measure => simp [intOf]; omega
    · obtain rfl : k = n := by omega
      have hf : (L.take k).flatten.length = L.flatten.length := by rw [← hl.out, List.take_length]
      rw [hf]
      clear hf
      generalize hS : L.flatten.length = S at *
      replace hS := Lib.hid hS
      go_wp2_with fail
      (with_reducible refine (kg.out _).mono ?_)
      rintro e w1 ⟨v1, rfl, ho1, hb1⟩
      go_wp2_with fail
      go_loopw [6, 27] (fun o i wr => ∃ (k1 : Nat) (v : Value), v = o ∧ k1 ≤ k ∧ i = .int .i64 k1 ∧ OS EE 55 wr w.heap.size v (L.take k1).flatten ∧ Below w.heap.size w wr) (fun _ i _ => k - (intOf i).toNat)
      case atStart => exact ⟨0, _, rfl, Nat.zero_le _, rfl, ho1, hb1⟩
      case round =>
        clear ho1 hb1
        obtain ⟨j, v, rfl, hj, rfl, ho, hb⟩ := hrel
        by_cases hlt : j < k
        · obtain ⟨ad, A', k', c', ys, rfl, hc1, hy, hkc, hr, _⟩ := (h.below hb (Nat.le_refl _)).get hlt
          have e1 := flat_take hy.out
          have e2 := flat_le L (j + 1)
          have e3 := hr.len
          rw [e1, hS.out, e3] at e2
          have e4 : (L.take (j + 1)).flatten = (L.take j).flatten ++ ys := flat_take' hy.out
          have i2 : (0 : Int) ≤ (j : Int) := Int.natCast_nonneg _
          have i3 : (j : Int) < (k : Int) := by omega
          clear e1 e3 hy
          have hs := hb.size
          go_wp2_with (at_builtin; refine wpList_catG tyE rfl _ _ rfl rfl rfl ho hr (by unfold maxLen; omega) (by omega) hs ?_; intro v2 w2 ho2 hb2 hg2)
          rw [← e4] at ho2
          have hb3 := hb.trans hb2
          clear ho hb hb2 hg2 hr hc1 e4
          go_roundw
          case rel => exact ⟨j + 1, _, rfl, by omega, by go_num, ho2, hb3⟩
          case measure => simp [intOf]; omega
        · obtain rfl : j = k := by omega
          rw [show L.take j = L by rw [← hl.out, List.take_length]] at ho
          go_wp2_with fail
          go_ret
          exact RetG.own ho hb (Nat.le_refl _)
end Go.Proofs.Ytbaebeackbciaaa
