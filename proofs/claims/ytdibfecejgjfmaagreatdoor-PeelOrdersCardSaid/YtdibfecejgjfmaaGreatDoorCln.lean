/- slices.Clone of a list of numbers. -/
import Derived.Test.YtdibfecejgjfmaaGreatDoorRCoB
import Derived.Laws.EntriesVeiled
set_option linter.unusedVariables false
set_option linter.unusedSimpArgs false
namespace Go.Proofs.YtdibfecejgjfmaaGreatDoor
open Go.RowKit CoBit

set_option maxRecDepth 100000 in
set_option maxHeartbeats 1000000 in
theorem clone_any (A : Option Addr) (n c : Nat) (xs : List Int) (w : World) (h : RI w A n xs) (hn : n ≤ 274877906944) :
    Calls Tryz.prog 40 #[.slice A n c] w (RetI w xs) := by
  have kq := fun (w : World) (a : Option Addr) (l c n' c' : Nat) => Lib.run_eql_slice_nil (P := Tryz.prog) w 25 3 a l c n' c' Tryz.underlying25
  cases A with
  | none =>
    have h0 : n = 0 := by
      rcases Nat.eq_zero_or_pos n with h0 | h0
      · exact h0
      · obtain ⟨ad, e, _⟩ := h.2 h0; cases e
    subst h0
    have hx : xs = [] := List.eq_nil_of_length_eq_zero h.len
    subst hx
    go_enter Tryz.func40, Tryz.ntmps40
    go_wp2_with fail
    go_ret
    exact RetI.mk_ (Nat.le_refl _) RI.none_ (Below.refl _ _) Fr.none_
  | some ad =>
    go_enter Tryz.func40, Tryz.ntmps40
    have ho : OI (w.alloc (.cells #[] 3)) w.heap.size (.slice (some ⟨w.heap.size, 0, none⟩) 0 0) [] :=
      ⟨rfl, .inr ⟨w.heap.size, 0, #[], rfl, Nat.le_refl _, heap_alloc_new w _, Nat.le_refl _, Nat.zero_le _, rfl, rfl⟩⟩
    have hr := h.alloc (.cells #[] 3)
    have hb0 : Below w.heap.size w (w.alloc (.cells #[] 3)) := (Below.refl _ _).alloc (Nat.le_refl _) _
    go_wp2_with (at_builtin; refine wpList_cat (B := w.heap.size) rfl _ _ rfl rfl rfl ho hr (by simp; omega) (by simp) ?_; intro v1 w1 ho1 hb1 hg1)
    go_ret
    exact ho1.ret (hb0.trans hb1) (Nat.le_refl _)
end Go.Proofs.YtdibfecejgjfmaaGreatDoor
