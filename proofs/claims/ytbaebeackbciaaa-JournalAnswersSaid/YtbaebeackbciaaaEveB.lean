/- Events: Check of the program, and the reference's from, Attributes, Check. -/
import Derived.Test.YtbaebeackbciaaaEveA
set_option linter.unusedVariables false
set_option linter.unusedSimpArgs false
namespace Go.Proofs.Ytbaebeackbciaaa
open Go.RowKit CoEv

theorem chk_ways (k t u v ww l s : Int) :
    ((decide (k < 1) = true) ∧ chk ⟨k, t, u, v, ww, l, s⟩ = 8) ∨
    ((decide (k < 1) = false ∧ decide (3 < k) = true) ∧ chk ⟨k, t, u, v, ww, l, s⟩ = 8) ∨
    ((decide (k < 1) = false ∧ decide (3 < k) = false ∧ decide (t < 0) = true) ∧ chk ⟨k, t, u, v, ww, l, s⟩ = 9) ∨
    ((decide (k < 1) = false ∧ decide (3 < k) = false ∧ decide (t < 0) = false ∧ decide (1048576 < t) = true) ∧ chk ⟨k, t, u, v, ww, l, s⟩ = 9) ∨
    ((decide (k < 1) = false ∧ decide (3 < k) = false ∧ decide (t < 0) = false ∧ decide (1048576 < t) = false ∧ endsB ⟨k, t, u, v, ww, l, s⟩ = false) ∧ chk ⟨k, t, u, v, ww, l, s⟩ = 6) ∨
    ((decide (k < 1) = false ∧ decide (3 < k) = false ∧ decide (t < 0) = false ∧ decide (1048576 < t) = false ∧ endsB ⟨k, t, u, v, ww, l, s⟩ = true) ∧ ((k == 1) = true ∧ (k != 1) = false ∧ rightB ww l s = false) ∧ chk ⟨k, t, u, v, ww, l, s⟩ = 1) ∨
    ((decide (k < 1) = false ∧ decide (3 < k) = false ∧ decide (t < 0) = false ∧ decide (1048576 < t) = false ∧ endsB ⟨k, t, u, v, ww, l, s⟩ = true) ∧ ((k == 1) = true ∧ (k != 1) = false ∧ rightB ww l s = true) ∧ chk ⟨k, t, u, v, ww, l, s⟩ = 0) ∨
    ((decide (k < 1) = false ∧ decide (3 < k) = false ∧ decide (t < 0) = false ∧ decide (1048576 < t) = false ∧ endsB ⟨k, t, u, v, ww, l, s⟩ = true) ∧ ((k == 1) = false ∧ (k != 1) = true ∧ (ww != 0) = true) ∧ chk ⟨k, t, u, v, ww, l, s⟩ = 1) ∨
    ((decide (k < 1) = false ∧ decide (3 < k) = false ∧ decide (t < 0) = false ∧ decide (1048576 < t) = false ∧ endsB ⟨k, t, u, v, ww, l, s⟩ = true) ∧ ((k == 1) = false ∧ (k != 1) = true ∧ (ww != 0) = false ∧ (l != 0) = true) ∧ chk ⟨k, t, u, v, ww, l, s⟩ = 1) ∨
    ((decide (k < 1) = false ∧ decide (3 < k) = false ∧ decide (t < 0) = false ∧ decide (1048576 < t) = false ∧ endsB ⟨k, t, u, v, ww, l, s⟩ = true) ∧ ((k == 1) = false ∧ (k != 1) = true ∧ (ww != 0) = false ∧ (l != 0) = false ∧ (s != 0) = true) ∧ chk ⟨k, t, u, v, ww, l, s⟩ = 1) ∨
    ((decide (k < 1) = false ∧ decide (3 < k) = false ∧ decide (t < 0) = false ∧ decide (1048576 < t) = false ∧ endsB ⟨k, t, u, v, ww, l, s⟩ = true) ∧ ((k == 1) = false ∧ (k != 1) = true ∧ (ww != 0) = false ∧ (l != 0) = false ∧ (s != 0) = false) ∧ chk ⟨k, t, u, v, ww, l, s⟩ = 0) := by
  unfold chk
  generalize endsB ⟨k, t, u, v, ww, l, s⟩ = E
  simp only [decide_eq_true_eq, decide_eq_false_iff_not, bne_iff_ne, bne_eq_false_iff_eq, beq_iff_eq, beq_eq_false_iff_ne]
  by_cases h1 : k < 1
  · left; exact ⟨h1, if_pos (by omega)⟩
  right
  by_cases h2 : 3 < k
  · left; exact ⟨⟨h1, h2⟩, if_pos (by omega)⟩
  right
  by_cases h3 : t < 0
  · left; exact ⟨⟨h1, h2, h3⟩, by rw [if_neg (by omega), if_pos (by omega)]⟩
  right
  by_cases h4 : 1048576 < t
  · left; exact ⟨⟨h1, h2, h3, h4⟩, by rw [if_neg (by omega), if_pos (by omega)]⟩
  right
  cases E
  · left; exact ⟨⟨h1, h2, h3, h4, rfl⟩, by rw [if_neg (by omega), if_neg (by omega), if_pos rfl]⟩
  right
  rw [if_neg (show ¬ (k < 1 ∨ k > 3) by omega), if_neg (show ¬ (t < 0 ∨ t > 1048576) by omega), if_neg (show ¬ (true = false) by decide)]
  by_cases h5 : k = 1
  · rw [if_pos h5]
    cases hr : rightB ww l s
    · left; exact ⟨⟨h1, h2, h3, h4, rfl⟩, ⟨h5, h5, rfl⟩, rfl⟩
    · right; left; exact ⟨⟨h1, h2, h3, h4, rfl⟩, ⟨h5, h5, rfl⟩, rfl⟩
  right; right
  rw [if_neg h5]
  by_cases h6 : ww = 0
  · by_cases h7 : l = 0
    · by_cases h8 : s = 0
      · right; right; right; exact ⟨⟨h1, h2, h3, h4, rfl⟩, ⟨h5, h5, h6, h7, h8⟩, by rw [if_neg (by omega)]⟩
      · right; right; left; exact ⟨⟨h1, h2, h3, h4, rfl⟩, ⟨h5, h5, h6, h7, h8⟩, by rw [if_pos (by omega)]⟩
    · right; left; exact ⟨⟨h1, h2, h3, h4, rfl⟩, ⟨h5, h5, h6, h7⟩, by rw [if_pos (by omega)]⟩
  · left; exact ⟨⟨h1, h2, h3, h4, rfl⟩, ⟨h5, h5, h6⟩, by rw [if_pos (by omega)]⟩

set_option maxHeartbeats 4000000 in
theorem echeck_any (e : Ev) (w : World) : Calls Try.prog 53 #[evV e] w fun r w' => r = .returned (.int .i64 (chk e)) ∧ Below w.heap.size w w' := by
  have ke := fun w => eends_any e w
  obtain ⟨k, t, u, v, ww, l, s⟩ := e
  have kr := fun w => eright_any ww l s w
  have hw := chk_ways k t u v ww l s
  have hs : evV ⟨k, t, u, v, ww, l, s⟩ = .agg #[.int .i64 k, .int .i64 t, .int .i64 u, .int .i64 v, .int .i64 ww, .int .i64 l, .int .i64 s] := rfl
  generalize endsB ⟨k, t, u, v, ww, l, s⟩ = E at *
  generalize rightB ww l s = R at *
  generalize chk ⟨k, t, u, v, ww, l, s⟩ = C at *
  rw [hs] at *
  rcases hw with ⟨q1, rfl⟩ | ⟨⟨q1, q2⟩, rfl⟩ | ⟨⟨q1, q2, q3⟩, rfl⟩ | ⟨⟨q1, q2, q3, q4⟩, rfl⟩ | ⟨⟨q1, q2, q3, q4, rfl⟩, rfl⟩ | ⟨⟨q1, q2, q3, q4, rfl⟩, ⟨q5, q6, rfl⟩, rfl⟩ | ⟨⟨q1, q2, q3, q4, rfl⟩, ⟨q5, q6, rfl⟩, rfl⟩ | ⟨⟨q1, q2, q3, q4, rfl⟩, ⟨q5, q6, q7⟩, rfl⟩ | ⟨⟨q1, q2, q3, q4, rfl⟩, ⟨q5, q6, q7, q8⟩, rfl⟩ | ⟨⟨q1, q2, q3, q4, rfl⟩, ⟨q5, q6, q7, q8, q9⟩, rfl⟩ | ⟨⟨q1, q2, q3, q4, rfl⟩, ⟨q5, q6, q7, q8, q9⟩, rfl⟩
  all_goals
    replace ke := Lib.hid ke
    replace kr := Lib.hid kr
    clear hs
    go_enter Try.func53, Try.ntmps53
    go_wp2_with fail
  all_goals try (go_ret; exact ⟨rfl, by go_grown⟩)
  all_goals
    (with_reducible refine (ke.out _).mono ?_)
    rintro r w1 ⟨rfl, hb⟩
    have G := Blk.below (Blk.new w _ _) hb (by simp)
    have c0 := Blk.cell G 0
    have c4 := Blk.cell G 4
    have c5 := Blk.cell G 5
    have c6 := Blk.cell G 6
    simp at c0 c4 c5 c6
    have hb0 : Below w.heap.size w w1 := ((Below.refl _ _).alloc (Nat.le_refl _) _).trans (hb.mono (by simp))
    clear hb G ke
    go_wp2_with fail
    try ((with_reducible refine (kr.out _).mono ?_); rintro e w1 ⟨rfl, rfl⟩; go_wp2_with fail)
    go_ret
    exact ⟨rfl, hb0⟩

set_option maxHeartbeats 1000000 in
theorem efrom_any (n a b : Int) (w : World) : Calls Try.prog 54 #[.int .i64 n, .int .i64 a, .int .i64 b] w fun e w' => e = .returned (.bool (decide (a ≤ n ∧ n ≤ b))) ∧ w' = w := by
  have hw : (decide (a ≤ n) = false ∧ decide (a ≤ n ∧ n ≤ b) = false) ∨ (decide (a ≤ n) = true ∧ decide (n ≤ b) = false ∧ decide (a ≤ n ∧ n ≤ b) = false) ∨ (decide (a ≤ n) = true ∧ decide (n ≤ b) = true ∧ decide (a ≤ n ∧ n ≤ b) = true) := by
    simp only [decide_eq_true_eq, decide_eq_false_iff_not]
    omega
  generalize decide (a ≤ n ∧ n ≤ b) = R at *
  rcases hw with ⟨q1, rfl⟩ | ⟨q1, q2, rfl⟩ | ⟨q1, q2, rfl⟩
  all_goals
    go_enter Try.func54, Try.ntmps54
    go_wp2_with fail
    go_ret
    exact ⟨rfl, rfl⟩
theorem right_ways (a b c : Int) : (decide (1 ≤ a ∧ a ≤ 1000) = false ∧ rightB a b c = false) ∨ (decide (1 ≤ a ∧ a ≤ 1000) = true ∧ decide (0 ≤ b ∧ b ≤ 15) = false ∧ rightB a b c = false) ∨
    (decide (1 ≤ a ∧ a ≤ 1000) = true ∧ decide (0 ≤ b ∧ b ≤ 15) = true ∧ (c != 1) = true ∧ (c != -1) = true ∧ rightB a b c = false) ∨ (decide (1 ≤ a ∧ a ≤ 1000) = true ∧ decide (0 ≤ b ∧ b ≤ 15) = true ∧ (c != 1) = true ∧ (c != -1) = false ∧ rightB a b c = true) ∨
    (decide (1 ≤ a ∧ a ≤ 1000) = true ∧ decide (0 ≤ b ∧ b ≤ 15) = true ∧ (c != 1) = false ∧ rightB a b c = true) := by
  unfold rightB
  simp only [decide_eq_true_eq, decide_eq_false_iff_not, bne_iff_ne, bne_eq_false_iff_eq]
  omega
set_option maxHeartbeats 2000000 in
theorem eattr_any (a b c : Int) (w : World) : Calls Try.prog 55 #[.int .i64 a, .int .i64 b, .int .i64 c] w fun e w' => e = .returned (.int .i64 (if rightB a b c then 0 else 1)) ∧ Below w.heap.size w w' := by
  have ka := fun w => efrom_any a 1 1000 w
  have kb := fun w => efrom_any b 0 15 w
  have hw := right_ways a b c
  generalize decide (1 ≤ a ∧ a ≤ 1000) = X at *
  generalize decide (0 ≤ b ∧ b ≤ 15) = Y at *
  generalize rightB a b c = R at *
  rcases hw with ⟨rfl, rfl⟩ | ⟨rfl, rfl, rfl⟩ | ⟨rfl, rfl, q1, q2, rfl⟩ | ⟨rfl, rfl, q1, q2, rfl⟩ | ⟨rfl, rfl, q1, rfl⟩
  all_goals
    replace ka := Lib.hid ka
    replace kb := Lib.hid kb
    go_enter Try.func55, Try.ntmps55
    go_wp2_with fail
    first
      | (go_quiet (first | (go_at_call 54; exact Calls.quiet_of_same (ka.out _)) | (go_at_call 54; exact Calls.quiet_of_same (kb.out _)))
         go_wp2_with fail)
      | ((with_reducible refine (ka.out _).mono ?_); rintro e w1 ⟨rfl, rfl⟩; go_wp2_with fail; try ((with_reducible refine (kb.out _).mono ?_); rintro e w1 ⟨rfl, rfl⟩; go_wp2_with fail))
    go_ret
    exact ⟨rfl, by go_grown⟩
end Go.Proofs.Ytbaebeackbciaaa
