/- Events: the program's checks of one event, and the reference's. -/
import Derived.Test.YtbaebeackbciaaaGen
import Derived.Test.YtbaebeackbciaaaEveM
set_option linter.unusedVariables false
set_option linter.unusedSimpArgs false
namespace Go.Proofs.Ytbaebeackbciaaa
open Go.RowKit CoEv

def evC (e : Ev) : Array Value := #[.int .i64 e.k, .int .i64 e.t, .int .i64 e.u, .int .i64 e.v, .int .i64 e.w, .int .i64 e.l, .int .i64 e.s]
def evV (e : Ev) : Value := .agg (evC e)
/-- Events in memory. -/
def EE : El Ev := ⟨7, fun e => [.int .i64 e.k, .int .i64 e.t, .int .i64 e.u, .int .i64 e.v, .int .i64 e.w, .int .i64 e.l, .int .i64 e.s], fun _ => rfl, fun _ u hu => by simp at hu; rcases hu with rfl | rfl | rfl | rfl | rfl | rfl | rfl <;> rfl, by omega⟩

set_option maxHeartbeats 1000000 in
theorem enode_any (v : Int) (w : World) : Calls Try.prog 58 #[.int .i64 v] w fun e w' => e = .returned (.bool (nodeB v)) ∧ w' = w := by
  have hw : (decide (0 ≤ v) = false ∧ nodeB v = false) ∨ (decide (0 ≤ v) = true ∧ decide (v < 64) = false ∧ nodeB v = false) ∨ (decide (0 ≤ v) = true ∧ decide (v < 64) = true ∧ nodeB v = true) := by
    unfold nodeB
    simp only [decide_eq_true_eq, decide_eq_false_iff_not]
    omega
  rcases hw with ⟨q1, h⟩ | ⟨q1, q2, h⟩ | ⟨q1, q2, h⟩
  all_goals
    replace h := Lib.hid h
    go_enter Try.func58, Try.ntmps58
    go_wp2_with fail
    go_ret
    exact ⟨retBool h.out.symm, rfl⟩

set_option maxHeartbeats 2000000 in
theorem eright_any (a b c : Int) (w : World) : Calls Try.prog 57 #[.int .i64 a, .int .i64 b, .int .i64 c] w fun e w' => e = .returned (.bool (rightB a b c)) ∧ w' = w := by
  have hw : (decide (1 ≤ a) = false ∧ rightB a b c = false) ∨ (decide (1 ≤ a) = true ∧ decide (a ≤ 1000) = false ∧ rightB a b c = false) ∨ (decide (1 ≤ a) = true ∧ decide (a ≤ 1000) = true ∧ decide (0 ≤ b) = false ∧ rightB a b c = false) ∨
      (decide (1 ≤ a) = true ∧ decide (a ≤ 1000) = true ∧ decide (0 ≤ b) = true ∧ decide (b ≤ 15) = false ∧ rightB a b c = false) ∨ (decide (1 ≤ a) = true ∧ decide (a ≤ 1000) = true ∧ decide (0 ≤ b) = true ∧ decide (b ≤ 15) = true ∧ (c == 1) = true ∧ rightB a b c = true) ∨
      (decide (1 ≤ a) = true ∧ decide (a ≤ 1000) = true ∧ decide (0 ≤ b) = true ∧ decide (b ≤ 15) = true ∧ (c == 1) = false ∧ (c == -1) = true ∧ rightB a b c = true) ∨ (decide (1 ≤ a) = true ∧ decide (a ≤ 1000) = true ∧ decide (0 ≤ b) = true ∧ decide (b ≤ 15) = true ∧ (c == 1) = false ∧ (c == -1) = false ∧ rightB a b c = false) := by
    unfold rightB
    simp only [decide_eq_true_eq, decide_eq_false_iff_not, beq_iff_eq, beq_eq_false_iff_ne]
    omega
  rcases hw with ⟨q1, h⟩ | ⟨q1, q2, h⟩ | ⟨q1, q2, q3, h⟩ | ⟨q1, q2, q3, q4, h⟩ | ⟨q1, q2, q3, q4, q5, h⟩ | ⟨q1, q2, q3, q4, q5, q6, h⟩ | ⟨q1, q2, q3, q4, q5, q6, h⟩
  all_goals
    replace h := Lib.hid h
    go_enter Try.func57, Try.ntmps57
    go_wp2_with fail
    go_ret
    exact ⟨retBool h.out.symm, rfl⟩

set_option maxHeartbeats 2000000 in
theorem eends_any (e : Ev) (w : World) : Calls Try.prog 56 #[evV e] w fun r w' => r = .returned (.bool (endsB e)) ∧ Below w.heap.size w w' := by
  obtain ⟨k, t, u, v, ww, l, s⟩ := e
  have hw : ((k == 3) = true ∧ nodeB u = false ∧ endsB ⟨k, t, u, v, ww, l, s⟩ = false) ∨ ((k == 3) = true ∧ nodeB u = true ∧ endsB ⟨k, t, u, v, ww, l, s⟩ = (v == 0)) ∨
      ((k == 3) = false ∧ nodeB u = false ∧ endsB ⟨k, t, u, v, ww, l, s⟩ = false) ∨ ((k == 3) = false ∧ nodeB u = true ∧ nodeB v = false ∧ endsB ⟨k, t, u, v, ww, l, s⟩ = false) ∨ ((k == 3) = false ∧ nodeB u = true ∧ nodeB v = true ∧ endsB ⟨k, t, u, v, ww, l, s⟩ = (u != v)) := by
    have e1 : ∀ a b : Int, (a == b) = decide (a = b) := fun a b => rfl
    have e2 : (u != v) = decide (u ≠ v) := by by_cases h : u = v <;> simp [h]
    unfold endsB nodeB
    simp only [beq_iff_eq, beq_eq_false_iff_ne, e1, e2, decide_eq_true_eq, decide_eq_false_iff_not]
    by_cases hk : k = 3
    · rw [if_pos hk]
      by_cases hu : 0 ≤ u ∧ u < 64
      · refine .inr (.inl ⟨hk, hu, ?_⟩)
        exact decide_eq_decide.2 ⟨fun h => h.2, fun h => ⟨hu, h⟩⟩
      · exact .inl ⟨hk, hu, decide_eq_false fun h => hu h.1⟩
    · rw [if_neg hk]
      by_cases hu : 0 ≤ u ∧ u < 64
      · by_cases hv : 0 ≤ v ∧ v < 64
        · exact .inr (.inr (.inr (.inr ⟨hk, hu, hv, decide_eq_decide.2 ⟨fun h => h.2.2, fun h => ⟨hu, hv, h⟩⟩⟩)))
        · exact .inr (.inr (.inr (.inl ⟨hk, hu, hv, decide_eq_false fun h => hv h.2.1⟩)))
      · exact .inr (.inr (.inl ⟨hk, hu, decide_eq_false fun h => hu h.1⟩))
  unfold evV evC
  have ku := fun w => enode_any u w
  have kv := fun w => enode_any v w
  rcases hw with ⟨q1, q2, h⟩ | ⟨q1, q2, h⟩ | ⟨q1, q2, h⟩ | ⟨q1, q2, q3, h⟩ | ⟨q1, q2, q3, h⟩
  all_goals
    rw [q2] at ku
    try rw [q3] at kv
    replace ku := Lib.hid ku
    replace kv := Lib.hid kv
    replace h := Lib.hid h
    go_enter Try.func56, Try.ntmps56
    go_wp2_with fail
    (with_reducible refine (ku.out _).mono ?_); rintro e w1 ⟨rfl, rfl⟩
    go_wp2_with fail
    try ((with_reducible refine (kv.out _).mono ?_); rintro e w1 ⟨rfl, rfl⟩; go_wp2_with fail)
    go_ret
    exact ⟨retBool h.out.symm, by go_grown⟩
end Go.Proofs.Ytbaebeackbciaaa
