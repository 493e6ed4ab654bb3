/- Small functions of package motifs. -/
import Derived.Test.YtkcmbpokoijglaaGen
import Derived.Test.YtkcmbpokoijglaaMotV
set_option linter.unusedVariables false
set_option linter.unusedSimpArgs false
namespace Go.Proofs.Ytkcmbpokoijglaa
open Go.RowKit CoMot

/-- Ticks in memory. -/
def TE : El Tick := ⟨3, fun x => [.int .i64 x.u, .int .i64 x.v, .int .i64 x.t], fun _ => rfl, fun _ u hu => by simp at hu; rcases hu with rfl | rfl | rfl <;> rfl, by omega⟩
/-- Steps in memory. -/
def SE : El Step := ⟨2, fun x => [.int .i64 x.1, .int .i64 x.2], fun _ => rfl, fun _ u hu => by simp at hu; rcases hu with rfl | rfl <;> rfl, by omega⟩
theorem tyT : Ty TE 27 33 24 := ⟨Try.underlying27, .agg #[.int .i64 0, .int .i64 0, .int .i64 0], by kernel_rfl, rfl⟩
theorem tyS : Ty SE 29 34 16 := ⟨Try.underlying29, .agg #[.int .i64 0, .int .i64 0], by kernel_rfl, rfl⟩
set_option maxHeartbeats 2000000 in
theorem step_any (a b : Int) (n : Nat) (w : World) (hn : 1 ≤ n) (hn2 : n ≤ 100) :
    Calls Try.prog 38 #[.agg #[.int .i64 a, .int .i64 b], .int .i64 n] w fun e w' => e = .returned (.tuple #[.int .i64 (((vs n (a, b)).getD 0 : Nat) : Int), .bool (vs n (a, b)).isSome]) ∧ Below w.heap.size w w' := by
  rcases Int.lt_trichotomy a b with hab | hab | hab
  · have g1 : ¬ a = b := by omega
    have g2 : (a == b) = false := by simp; omega
    have g3 : ¬ b < a := by omega
    by_cases h1 : a < 0
    · have hres : Hid (vs n (a, b) = none) := Lib.hid (by unfold vs; rw [if_neg (by omega), if_pos (by simp only; omega)])
      go_enter Try.func38, Try.ntmps38
      go_wp2_with fail
      refine bodyPost_ret (v := .tuple #[.int .i64 0, .bool false]) (by simp [results, Try.results38, go_sem] <;> omega) rfl ⟨by rw [hres.out]; rfl, by go_grown⟩
    · by_cases h2 : (n : Int) ≤ a
      · have g4 : ¬ a < (n : Int) := by omega
        have hres : Hid (vs n (a, b) = none) := Lib.hid (by unfold vs; rw [if_neg (by omega), if_pos (by simp only; omega)])
        go_enter Try.func38, Try.ntmps38
        go_wp2_with fail
        refine bodyPost_ret (v := .tuple #[.int .i64 0, .bool false]) (by simp [results, Try.results38, go_sem] <;> omega) rfl ⟨by rw [hres.out]; rfl, by go_grown⟩
      · by_cases h3 : (n : Int) < b
        · have hres : Hid (vs n (a, b) = none) := Lib.hid (by unfold vs; rw [if_neg (by omega), if_pos (by simp only; omega)])
          go_enter Try.func38, Try.ntmps38
          go_wp2_with fail
          refine bodyPost_ret (v := .tuple #[.int .i64 0, .bool false]) (by simp [results, Try.results38, go_sem] <;> omega) rfl ⟨by rw [hres.out]; rfl, by go_grown⟩
        · by_cases h4 : (n : Int) ≤ b
          · have hres : Hid (vs n (a, b) = some (n + 1)) := Lib.hid (by unfold vs; rw [if_neg (by omega), if_neg (by simp only; omega)]; congr 1; first | (rw [if_pos (by simp only; omega)]; done) | (rw [if_neg (by simp only; omega)]))
            go_enter Try.func38, Try.ntmps38
            go_wp2_with fail
            refine bodyPost_ret (v := .tuple #[.int .i64 ((n + 1) : Nat), .bool true]) (by simp [results, Try.results38, go_sem] <;> omega) rfl ⟨by rw [hres.out]; rfl, by go_grown⟩
          · have hres : Hid (vs n (a, b) = some n) := Lib.hid (by unfold vs; rw [if_neg (by omega), if_neg (by simp only; omega)]; congr 1; first | (rw [if_pos (by simp only; omega)]; done) | (rw [if_neg (by simp only; omega)]))
            go_enter Try.func38, Try.ntmps38
            go_wp2_with fail
            refine bodyPost_ret (v := .tuple #[.int .i64 (n : Nat), .bool true]) (by simp [results, Try.results38, go_sem] <;> omega) rfl ⟨by rw [hres.out]; rfl, by go_grown⟩
  · subst hab
    have g2 : (a == a) = true := by simp
    have hres : Hid (vs n (a, a) = none) := Lib.hid (by unfold vs; rw [if_neg (by omega), if_pos (.inl rfl)])
    go_enter Try.func38, Try.ntmps38
    go_wp2_with fail
    refine bodyPost_ret (v := .tuple #[.int .i64 0, .bool false]) (by simp [results, Try.results38, go_sem] <;> omega) rfl ⟨by rw [hres.out]; rfl, by go_grown⟩
  · have g1 : ¬ a = b := by omega
    have g2 : (a == b) = false := by simp; omega
    have g3 : ¬ a < b := by omega
    by_cases h1 : b < 0
    · have hres : Hid (vs n (a, b) = none) := Lib.hid (by unfold vs; rw [if_neg (by omega), if_pos (by simp only; omega)])
      go_enter Try.func38, Try.ntmps38
      go_wp2_with fail
      refine bodyPost_ret (v := .tuple #[.int .i64 0, .bool false]) (by simp [results, Try.results38, go_sem] <;> omega) rfl ⟨by rw [hres.out]; rfl, by go_grown⟩
    · by_cases h2 : (n : Int) ≤ b
      · have g4 : ¬ b < (n : Int) := by omega
        have hres : Hid (vs n (a, b) = none) := Lib.hid (by unfold vs; rw [if_neg (by omega), if_pos (by simp only; omega)])
        go_enter Try.func38, Try.ntmps38
        go_wp2_with fail
        refine bodyPost_ret (v := .tuple #[.int .i64 0, .bool false]) (by simp [results, Try.results38, go_sem] <;> omega) rfl ⟨by rw [hres.out]; rfl, by go_grown⟩
      · by_cases h3 : (n : Int) < a
        · have hres : Hid (vs n (a, b) = none) := Lib.hid (by unfold vs; rw [if_neg (by omega), if_pos (by simp only; omega)])
          go_enter Try.func38, Try.ntmps38
          go_wp2_with fail
          refine bodyPost_ret (v := .tuple #[.int .i64 0, .bool false]) (by simp [results, Try.results38, go_sem] <;> omega) rfl ⟨by rw [hres.out]; rfl, by go_grown⟩
        · by_cases h4 : (n : Int) ≤ a
          · have hres : Hid (vs n (a, b) = some (n + 1)) := Lib.hid (by unfold vs; rw [if_neg (by omega), if_neg (by simp only; omega)]; congr 1; first | (rw [if_pos (by simp only; omega)]; done) | (rw [if_neg (by simp only; omega)]))
            go_enter Try.func38, Try.ntmps38
            go_wp2_with fail
            refine bodyPost_ret (v := .tuple #[.int .i64 ((n + 1) : Nat), .bool true]) (by simp [results, Try.results38, go_sem] <;> omega) rfl ⟨by rw [hres.out]; rfl, by go_grown⟩
          · have hres : Hid (vs n (a, b) = some n) := Lib.hid (by unfold vs; rw [if_neg (by omega), if_neg (by simp only; omega)]; congr 1; first | (rw [if_pos (by simp only; omega)]; done) | (rw [if_neg (by simp only; omega)]))
            go_enter Try.func38, Try.ntmps38
            go_wp2_with fail
            refine bodyPost_ret (v := .tuple #[.int .i64 (n : Nat), .bool true]) (by simp [results, Try.results38, go_sem] <;> omega) rfl ⟨by rw [hres.out]; rfl, by go_grown⟩
end Go.Proofs.Ytkcmbpokoijglaa
