/- slices.Equal of steps, and the function that motifs.of makes. -/
import Derived.Test.YtkcmbpokoijglaaMotH
set_option linter.unusedVariables false
set_option linter.unusedSimpArgs false
namespace Go.Proofs.Ytkcmbpokoijglaa
open Go.RowKit CoMot

theorem eq_takeS {xs ys : List Step} {k : Nat} {x y : Step} (h : xs.take k = ys.take k) (hx : xs[k]? = some x) (hy : ys[k]? = some y) : (x = y → xs.take (k + 1) = ys.take (k + 1)) ∧ (x ≠ y → xs ≠ ys) := by
  refine ⟨fun e => ?_, fun e hh => ?_⟩
  · rw [List.take_add_one, List.take_add_one, h, hx, hy, e]
  · subst hh; rw [hx] at hy; injection hy with hy; exact e hy
set_option maxRecDepth 100000 in
set_option maxHeartbeats 4000000 in
theorem sequal_any (A B : Option Addr) (n m c d : Nat) (xs ys : List Step) (w : World) (h : RS SE w A n xs) (h' : RS SE w B m ys) (hn : n ≤ 1099511627776) :
    Calls Try.prog 66 #[.slice A n c, .slice B m d] w fun e w' => e = .returned (.bool (decide (xs = ys))) ∧ Below w.heap.size w w' := by
  have hl := h.len
  have hl' := h'.len
  have kq := neq_arr2
  by_cases hnm : n = m
  · subst hnm
    replace hl := Lib.hid hl
    replace hl' := Lib.hid hl'
    go_enter Try.func66, Try.ntmps66
    go_wp2_with fail
    go_loopw [13] (fun i wr => ∃ k : Nat, k ≤ n ∧ i = .int .i64 k ∧ Hid (xs.take k = ys.take k) ∧ Below w.heap.size w wr) (fun i _ => n - (intOf i).toNat)
    case atStart => exact ⟨0, Nat.zero_le _, rfl, Lib.hid rfl, Below.refl _ _⟩
    case round =>
      obtain ⟨k, hk, rfl, hx, hb⟩ := hrel
      by_cases hlt : k < n
      · obtain ⟨ad, a1, a2, rfl, hbl, hxk, hcx, hcx2⟩ := (h.below hb (Nat.le_refl _)).st hlt
        obtain ⟨bd, b1, b2, rfl, hbl', hyk, hcy, hcy2⟩ := (h'.below hb (Nat.le_refl _)).st hlt
        have hst := eq_takeS hx.out hxk.out hyk.out
        have i2 : (0 : Int) ≤ (k : Int) := Int.natCast_nonneg _
        have i3 : (k : Int) < (n : Int) := by omega
        clear hx hxk hyk
        by_cases he : a1 = b1
        · by_cases he2 : a2 = b2
          · subst he; subst he2
            have hst1 := Lib.hid (hst.1 rfl)
            clear hst
            have e1 : (a1 == a1) = true := by simp
            have e2 : (a2 == a2) = true := by simp
            go_wp2_with fail
            go_quiet (fail)
            go_wp2_with fail
            go_roundw
            case rel => exact ⟨k + 1, by omega, by go_num, hst1, below_drewN hb _⟩
            case measure => simp [intOf]; omega
          · subst he
            have hst1 := Lib.hid (hst.2 (fun e => he2 (by injection e)))
            have e1 : (a1 == a1) = true := by simp
            have e2 : (a2 == b2) = false := by simp [he2]
            replace he2 := Lib.hid he2
            clear hst
            go_wp2_with fail
            go_quiet (fail)
            go_wp2_with fail
            go_ret
            exact ⟨by rw [decide_eq_false hst1.out]; rfl, below_drewN hb _⟩
        · have hst1 := Lib.hid (hst.2 (fun e => he (by injection e)))
          have e1 : (a1 == b1) = false := by simp [he]
          replace he := Lib.hid he
          clear hst
          go_wp2_with fail
          go_quiet (fail)
          go_wp2_with fail
          go_ret
          exact ⟨by rw [decide_eq_false hst1.out]; rfl, below_drewN hb _⟩
      · obtain rfl : k = n := by omega
        have hf : Hid (xs = ys) := Lib.hid (by have := hx.out; rw [← hl.out, List.take_length, hl.out, ← hl'.out, List.take_length] at this; exact this)
        clear hx
        go_wp2_with fail
        go_ret
        exact ⟨by rw [decide_eq_true hf.out]; rfl, hb⟩
  · have hne : Hid (xs ≠ ys) := Lib.hid (fun e => by subst e; omega)
    have e1 : ((n : Int) != (m : Int)) = true := by simp; omega
    clear hl hl'
    go_enter Try.func66, Try.ntmps66
    go_wp2_with fail
    go_ret
    exact ⟨by rw [decide_eq_false hne.out]; rfl, Below.refl _ _⟩
/-- The function that of makes: are these steps the beginning of the motif? -/
theorem of1_any (g : Nat) (A B : Option Addr) (n c m d : Nat) (xs M : List Step) (w : World) (h : RS SE w A n xs) (hg : Blk w g 29 #[.slice B m d]) (hM : RS SE w B m M) (hmd : m ≤ d) (hnm : n ≤ m) (hn : n ≤ 1099511627776) :
    Calls Try.prog 65 #[.slice A n c, .pointer (some ⟨g, 0, none⟩)] w fun e w' => e = .returned (.bool (pre M xs)) ∧ Below w.heap.size w w' := by
  have hl := h.len
  have hp : pre M xs = decide (xs = M.take n) := by unfold pre; rw [hl]
  have ke := Lib.hid (sequal_any A B n n c d xs (M.take n) w h (hM.head hnm) hn)
  have b0 := Blk.cell hg 0
  simp at b0
  have i1 : (n : Int) ≤ (d : Int) := by omega
  have i2 : (0 : Int) ≤ (n : Int) := Int.natCast_nonneg _
  rw [hp]
  clear hp hl
  go_enter Try.func65, Try.ntmps65
  go_wp2_with fail
  (with_reducible refine (ke.out).mono ?_)
  rintro e w1 ⟨rfl, hb1⟩
  go_wp2_with fail
  go_ret
  exact ⟨rfl, hb1⟩
end Go.Proofs.Ytkcmbpokoijglaa
