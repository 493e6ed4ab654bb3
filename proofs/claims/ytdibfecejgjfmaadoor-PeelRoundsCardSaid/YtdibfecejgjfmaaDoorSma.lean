/- Reference 02: SameAll of equal lists of lists. -/
import Derived.Test.YtdibfecejgjfmaaDoorSetB
import Derived.Deep.QuietTactic
import Derived.Lib.AtoiErrMem
set_option linter.unusedVariables false
set_option linter.unusedSimpArgs false
namespace Go.Proofs.YtdibfecejgjfmaaDoor
open Go.RowKit
/-- A slice of slices reads the lists L. -/
def SLs (w : World) (A : Option Addr) (n : Nat) (L : List (List Int)) : Prop := L.length = n ∧ ∀ i, i < n → ∃ ad A' k c, A = some ad ∧ w.cell? (ad.add i) = some (.slice A' k c) ∧ RI w A' k (L.getD i []) ∧ k ≤ 1099511627776
theorem SLs.drewN {w : World} {A : Option Addr} {n : Nat} {L : List (List Int)} (h : SLs w A n L) (q : Nat) : SLs (w.drewN q) A n L := h
theorem SLs.none_ {w : World} : SLs w none 0 [] := ⟨rfl, fun i hi => by omega⟩
theorem SLs.below {w w' : World} {A : Option Addr} {n : Nat} {L : List (List Int)} (h : SLs w A n L) {b : Nat} (hb : Below b w w') (hB : w.heap.size ≤ b) : SLs w' A n L :=
  ⟨h.1, fun i hi => by
    obtain ⟨ad, A', k, c, h1, h2, h3, h4⟩ := h.2 i hi
    exact ⟨ad, A', k, c, h1, (hb.cell (Nat.lt_of_lt_of_le (Lib.lt_of_cell h2) hB)).trans h2, RI.below h3 hb hB, h4⟩⟩
set_option maxRecDepth 100000 in
set_option maxHeartbeats 1000000 in
theorem sameall_self (A A' : Option Addr) (n c c' : Nat) (L : List (List Int)) (w : World) (h : SLs w A n L) (h' : SLs w A' n L) (hn : n ≤ 1099511627776) :
    Calls Tryd.prog 22 #[.slice A n c, .slice A' n c'] w fun e w' => e = .returned (.bool true) ∧ ∃ q, w' = w.drewN q := by
  go_enter Tryd.func22, Tryd.ntmps22
  go_wp2_with fail
  go_loopw [13] (fun i wr => ∃ (j : Nat), j ≤ n ∧ i = .int .i64 j ∧ SLs wr A n L ∧ SLs wr A' n L ∧ Hid (∃ q, wr = w.drewN q)) (fun i _ => n - (intOf i).toNat)
  case atStart => exact ⟨0, Nat.zero_le _, rfl, h, h', Lib.hid ⟨0, rfl⟩⟩
  case round =>
    obtain ⟨j, hj, rfl, hr, hr', hw⟩ := hrel
    clear h h'
    by_cases hlt : j < n
    · have i1 : (j : Int) < (n : Int) := by omega
      have i2 : (0 : Int) ≤ (j : Int) := by omega
      obtain ⟨ad, A1, k1, c1, rfl, d1, r1, b1⟩ := hr.2 j hlt
      obtain ⟨ad', A2, k2, c2, rfl, d2, r2, b2⟩ := hr'.2 j hlt
      have ks := fun w h h' => same_any A1 A2 k1 c1 k2 c2 (L.getD j []) (L.getD j []) w h b1 h' b2
      rw [show decide (L.getD j [] = L.getD j []) = true by simp] at ks
      replace ks := Lib.hid ks
      generalize L.getD j [] = xs at *
      have hn1 := fun q => hr.drewN q
      have hn2 := fun q => hr'.drewN q
      replace hn1 := Lib.hid hn1
      replace hn2 := Lib.hid hn2
      clear hr hr'
      go_wp2_with fail
      go_quiet ((first | (go_at_call 11; exact Calls.quiet_of (ks.out _ (r1.drewN _) (r2.drewN _)))))
      have hw2 : Hid (∃ q, wr.drewN nq = w.drewN q) := Lib.hid (by
        obtain ⟨q, hq⟩ := hw.out
        exact ⟨q + nq, by rw [hq, World.drewN_drewN]⟩)
      have h1 := hn1.out nq
      have h2 := hn2.out nq
      go_wp2_with fail
      go_roundw
      case rel => exact ⟨j + 1, by omega, by go_num, h1, h2, hw2⟩
      case measure => simp [intOf]; omega
    · obtain rfl : j = n := by omega
      have hw2 := hw.out
      clear hw
      replace hw2 := Lib.hid hw2
      go_wp2_with fail
      go_ret
      exact ⟨rfl, hw2.out⟩
end Go.Proofs.YtdibfecejgjfmaaDoor
