/- slices.Equal and slices.Clone of bytes. -/
import Derived.Test.YtbaebeackbciaaaJouD
import Derived.Laws.EntriesVeiled
set_option linter.unusedVariables false
set_option linter.unusedSimpArgs false
namespace Go.Proofs.Ytbaebeackbciaaa
open Go.RowKit CoEv

set_option maxRecDepth 100000 in
set_option maxHeartbeats 2000000 in
theorem bclone_any (A : Option Addr) (n c : Nat) (xs : List Nat) (w : World) (h : RS BE w A n xs) (hn : n ≤ 1099511627776) :
    Calls Try.prog 34 #[.slice A n c] w (RetG BE w xs) := by
  have kq := fun (w : World) (a : Option Addr) (l c n' c' : Nat) => Lib.run_eql_slice_nil (P := Try.prog) w 26 5 a l c n' c' Try.underlying26
  cases A with
  | none =>
    have h0 : n = 0 := by
      rcases Nat.eq_zero_or_pos n with h0 | h0
      · exact h0
      · obtain ⟨ad, e, _⟩ := h.block_lt h0; cases e
    subst h0
    have hx : xs = [] := List.eq_nil_of_length_eq_zero h.len
    subst hx
    go_enter Try.func34, Try.ntmps34
    go_wp2_with fail
    go_ret
    exact ⟨none, 0, 0, rfl, Nat.le_refl _, RS.none_, Below.refl _ _, Fr.none_⟩
  | some ad =>
    go_enter Try.func34, Try.ntmps34
    have ho : OS BE 5 (w.alloc (.cells #[] 5)) w.heap.size (.slice (some ⟨w.heap.size, 0, none⟩) 0 0) [] :=
      ⟨rfl, .inr ⟨w.heap.size, 0, #[], rfl, Nat.le_refl _, heap_alloc_new w _, Nat.le_refl _, Nat.zero_le _, rfl, rfl⟩⟩
    have hr := h.alloc (.cells #[] 5)
    have hb0 : Below w.heap.size w (w.alloc (.cells #[] 5)) := (Below.refl _ _).alloc (Nat.le_refl _) _
    go_wp2_with (at_builtin; refine wpList_catG tyB rfl _ _ rfl rfl rfl ho hr (by unfold maxLen; simp; omega) (by simp; omega) (by simp) ?_; intro v1 w1 ho1 hb1 hg1)
    go_ret
    exact RetG.own ho1 (hb0.trans hb1) (Nat.le_refl _)

theorem eq_take {xs ys : List Nat} {k : Nat} {x y : Nat} (h : xs.take k = ys.take k) (hx : xs[k]? = some x) (hy : ys[k]? = some y) : (x = y → xs.take (k + 1) = ys.take (k + 1)) ∧ (x ≠ y → xs ≠ ys) := by
  refine ⟨fun e => ?_, fun e hh => ?_⟩
  · rw [List.take_add_one, List.take_add_one, h, hx, hy, e]
  · subst hh; rw [hx] at hy; injection hy with hy; exact e hy

set_option maxRecDepth 100000 in
set_option maxHeartbeats 4000000 in
theorem bequal_any (A B : Option Addr) (n m c d : Nat) (xs ys : List Nat) (w : World) (h : RS BE w A n xs) (h' : RS BE w B m ys) (hn : n ≤ 1099511627776) (hm : m ≤ 1099511627776) :
    Calls Try.prog 40 #[.slice A n c, .slice B m d] w fun e w' => e = .returned (.bool (decide (xs = ys))) ∧ w.heap = w'.heap ∧ Below w.heap.size w w' := by
  have hl := h.len
  have hl' := h'.len
  by_cases hnm : n = m
  · subst hnm
    replace hl := Lib.hid hl
    replace hl' := Lib.hid hl'
    go_enter Try.func40, Try.ntmps40
    go_wp2_with fail
    go_loopw [13] (fun i wr => ∃ k : Nat, k ≤ n ∧ i = .int .i64 k ∧ Hid (xs.take k = ys.take k) ∧ w.heap = wr.heap ∧ Below w.heap.size w wr) (fun i _ => n - (intOf i).toNat)
    case atStart => exact ⟨0, Nat.zero_le _, rfl, Lib.hid rfl, rfl, Below.refl _ _⟩
    case round =>
      obtain ⟨k, hk, rfl, hx, hh, hb⟩ := hrel
      by_cases hlt : k < n
      · obtain ⟨ad, x, rfl, hbl, hxk, hcx⟩ := (h.below hb (Nat.le_refl _)).byte hlt
        obtain ⟨bd, y, rfl, hbl', hyk, hcy⟩ := (h'.below hb (Nat.le_refl _)).byte hlt
        have hst := eq_take hx.out hxk.out hyk.out
        have i2 : (0 : Int) ≤ (k : Int) := Int.natCast_nonneg _
        have i3 : (k : Int) < (n : Int) := by omega
        clear hx hxk hyk
        by_cases he : x = y
        · subst he
          have hst1 := Lib.hid (hst.1 rfl)
          clear hst
          have e1 : ((x : Int) != (x : Int)) = false := by simp
          go_wp2_with fail
          go_quiet (fail)
          go_wp2_with fail
          go_roundw
          case rel => exact ⟨k + 1, by omega, by go_num, hst1, hh, below_drewN hb _⟩
          case measure => simp [intOf]; omega
        · have hst1 := Lib.hid (hst.2 he)
          have e1 : ((x : Int) != (y : Int)) = true := by simp; omega
          clear hst
          go_wp2_with fail
          go_quiet (fail)
          go_wp2_with fail
          go_ret
          exact ⟨by rw [decide_eq_false hst1.out]; rfl, hh, below_drewN hb _⟩
      · obtain rfl : k = n := by omega
        have hf : Hid (xs = ys) := Lib.hid (by have := hx.out; rw [← hl.out, List.take_length, hl.out, ← hl'.out, List.take_length] at this; exact this)
        clear hx
        go_wp2_with fail
        go_ret
        exact ⟨by rw [decide_eq_true hf.out]; rfl, hh, hb⟩
  · have hne : Hid (xs ≠ ys) := Lib.hid (fun e => by subst e; omega)
    have e1 : ((n : Int) != (m : Int)) = true := by simp; omega
    clear hl hl'
    go_enter Try.func40, Try.ntmps40
    go_wp2_with fail
    go_ret
    exact ⟨by rw [decide_eq_false hne.out]; rfl, rfl, Below.refl _ _⟩
end Go.Proofs.Ytbaebeackbciaaa
