/- Package core, second part: Later. -/
import Derived.Test.YtknlmgcbdcepnaaDoorCorA
set_option linter.unusedVariables false
namespace Go.Proofs.YtknlmgcbdcepnaaDoor
open Go.RowKit CoBit

theorem u64_clr {x b : Nat} (hx : x < 18446744073709551616) (hb : b < 64) : bits .andNot .u64 (x : Int) ((bitN b : Nat) : Int) = ((clr x b : Nat) : Int) := u64_andNot_nat x (2 ^ b) hx (two_pow_lt hb)
theorem per_drop {o : List Int} {n k : Nat} {x : Int} (h : Per o n) (hx : o[k]? = some x) : x ∉ o.drop (k + 1) := by
  have h1 : (o.drop k).Nodup := h.2.1.sublist (List.drop_sublist _ _)
  rw [drop_at hx, List.nodup_cons] at h1
  exact h1.1
theorem per_all {o : List Int} {n i : Nat} (h : Per o n) (hi : i < n) : (i : Int) ∈ o := by
  have hp : rst n o = [] := by
    by_cases he : rst n o = []
    · exact he
    · obtain ⟨x, hx⟩ := List.exists_mem_of_ne_nil _ he
      have hx' := mem_rst.1 hx
      have h2 := nodup_length (n := n) (o := x :: o) (List.nodup_cons.2 ⟨hx'.2, h.2.1⟩) (fun y hy => by
        rcases List.mem_cons.1 hy with rfl | hy
        · exact hx'.1
        · exact h.2.2 y hy)
      have := h.1
      simp at h2
      omega
  by_cases hm : (i : Int) ∈ o
  · exact hm
  · have : (i : Int) ∈ rst n o := mem_rst.2 ⟨by omega, hm⟩
    rw [hp] at this
    cases this
theorem left_start {o : List Int} {n : Nat} (h : Per o n) : ∀ i, i < n → ((2 ^ n - 1).testBit i = true ↔ (i : Int) ∈ o.drop 0) := by
  intro i hi
  rw [all_bit]
  simp [hi]
  exact per_all h hi
theorem left_step {o : List Int} {n k x : Nat} {left : Nat} (h : Per o n) (hx : o[k]? = some (x : Int)) (hl : left < 18446744073709551616) (hx64 : x < 64) (hb : ∀ i, i < n → (left.testBit i = true ↔ (i : Int) ∈ o.drop k)) : ∀ i, i < n → ((clr left x).testBit i = true ↔ (i : Int) ∈ o.drop (k + 1)) := by
  intro i hi
  rw [clr_bit hl hx64]
  have h1 := hb i hi
  have h2 := per_drop h hx
  rw [drop_at hx, List.mem_cons] at h1
  simp only [Bool.and_eq_true, decide_eq_true_eq, h1]
  constructor
  · rintro ⟨h | h, hne⟩
    · omega
    · exact h
  · intro hm
    exact ⟨.inr hm, fun e => h2 (e ▸ hm)⟩

end Go.Proofs.YtknlmgcbdcepnaaDoor
