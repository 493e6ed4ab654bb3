/- slices.Max of a list of numbers. -/
import Derived.Test.YtdibfecejgjfmaaGreatDoorMem
set_option linter.unusedVariables false
set_option linter.unusedSimpArgs false
namespace Go.Proofs.YtdibfecejgjfmaaGreatDoor
open Go.RowKit

/-- The greatest of a list. -/
def IsMx (xs : List Int) (m : Int) : Prop := m ∈ xs ∧ ∀ x ∈ xs, x ≤ m
theorem isMx_unique {xs : List Int} {a b : Int} (ha : IsMx xs a) (hb : IsMx xs b) : a = b := by
  have := ha.2 b hb.1
  have := hb.2 a ha.1
  omega
theorem isMx_succ {xs : List Int} {k : Nat} {m y : Int} (h : IsMx (xs.take k) m) (hy : xs[k]? = some y) (hb : m ≤ y ∨ y ≤ m) : IsMx (xs.take (k + 1)) (if m < y then y else m) := by
  obtain ⟨hk, rfl⟩ := List.getElem?_eq_some_iff.1 hy
  rw [List.take_succ_eq_append_getElem hk]
  refine ⟨?_, fun x hx => ?_⟩
  · split
    · exact List.mem_append_right _ (List.mem_singleton.2 rfl)
    · exact List.mem_append_left _ h.1
  · rw [List.mem_append] at hx
    rcases hx with hx | hx
    · have := h.2 x hx; split <;> omega
    · rw [List.mem_singleton] at hx; subst hx; split <;> omega

set_option maxRecDepth 100000 in
set_option maxHeartbeats 1000000 in
theorem smax_any (A : Option Addr) (n c : Nat) (xs : List Int) (w : World) (h : RI w A n xs) (hn : n ≤ 1099511627776) (hn0 : 0 < n) :
    Calls Tryz.prog 28 #[.slice A n c] w fun e w' => ∃ m, e = .returned (.int .i64 m) ∧ IsMx xs m ∧ w = w' := by
  have hl := Lib.hid h.len
  have i0 : ¬ ((n : Int) < 1) := by omega
  have i1 : (0 : Int) < (n : Int) := by omega
  obtain ⟨ad, x, rfl, hx, hcx⟩ := h.get hn0
  replace hcx : w.cell? ad = some (.int .i64 x) := hcx
  have hst : IsMx (xs.take 1) x := by
    have hx' := hx.out
    cases xs with
    | nil => simp at hx'
    | cons y ys => simp at hx'; subst hx'; exact ⟨by simp, by simp⟩
  replace hst := Lib.hid hst
  go_enter Tryz.func28, Tryz.ntmps28
  go_wp2_with fail
  go_loop [3, 4] (fun m i => ∃ (k : Nat) (v : Int), 1 ≤ k ∧ k ≤ n ∧ i = .int .i64 k ∧ m = .int .i64 v ∧ Hid (IsMx (xs.take k) v)) (fun _ i => n - (intOf i).toNat)
  case atStart => exact ⟨1, x, Nat.le_refl _, hn0, rfl, rfl, hst⟩
  case round =>
    obtain ⟨k, v, hk1, hk, rfl, rfl, hm⟩ := hrel
    by_cases hlt : k < n
    · obtain ⟨ad', y, e, hy, hcy⟩ := h.get hlt
      injection e with e
      subst e
      have hnew := isMx_succ hm.out hy.out (by omega)
      have i2 : (0 : Int) ≤ (k : Int) := Int.natCast_nonneg _
      have i3 : (k : Int) < (n : Int) := by omega
      by_cases hvy : v < y
      · rw [if_pos hvy] at hnew
        replace hnew := Lib.hid hnew
        clear hx hy hcx
        go_wp2_with fail
        go_round
        case rel => exact ⟨k + 1, y, by omega, by omega, by go_num, by first | rfl | (simp [hvy]) | go_num, hnew⟩
        case measure => simp [intOf]; omega
      · rw [if_neg hvy] at hnew
        replace hnew := Lib.hid hnew
        clear hx hy hcx
        go_wp2_with fail
        go_round
        case rel => exact ⟨k + 1, v, by omega, by omega, by go_num, by first | rfl | (simp [hvy]) | go_num, hnew⟩
        case measure => simp [intOf]; omega
    · obtain rfl : k = n := by omega
      have hf : IsMx xs v := by have := hm.out; rw [← hl.out, List.take_length] at this; exact this
      replace hf := Lib.hid hf
      clear hx hcx
      go_wp2_with fail
      go_ret
      exact ⟨v, rfl, hf.out, rfl⟩
end Go.Proofs.YtdibfecejgjfmaaGreatDoor
