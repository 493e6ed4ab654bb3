/- The reader of a journal: take, and the deferred closure of batch. -/
import Derived.Test.YtbaebeackbciaaaJouC
import Derived.Defers
import Derived.Recover
import Derived.Laws.Pointers
set_option linter.unusedVariables false
set_option linter.unusedSimpArgs false
namespace Go.Proofs.Ytbaebeackbciaaa
open Go.RowKit CoEv

set_option maxHeartbeats 1000000 in
theorem take_ok (g : Nat) (A : Option Addr) (n c k : Nat) (w : World) (hg : Blk w g 59 #[.slice A n c]) (hk : k ≤ n) (hc : n ≤ c) :
    Calls Try.prog 39 #[.pointer (some ⟨g, 0, none⟩), .int .i64 k] w fun e w' => e = .returned (.slice A k c) ∧ w' = w.setCell ⟨g, 0, none⟩ (.slice (if c = k then A else A.map (·.add k)) (n - k) (c - k)) := by
  have c0 := Blk.cell hg 0
  have f0 := Blk.frozen hg 0
  simp at c0
  have i1 : ¬ (n : Int) < (k : Int) := by omega
  have i2 : (k : Int) ≤ (c : Int) := by omega
  have i3 : (k : Int) ≤ (n : Int) := by omega
  have i4 : (0 : Int) ≤ (k : Int) := Int.natCast_nonneg _
  go_enter Try.func39, Try.ntmps39
  go_wp2_with fail
  all_goals
    go_ret
    exact ⟨rfl, rfl⟩
/-- What a reader panics with. -/
def shortV : Value := .iface 76 (.agg #[])
set_option maxHeartbeats 1000000 in
theorem take_short (g : Nat) (A : Option Addr) (n c k : Nat) (w : World) (hg : Blk w g 59 #[.slice A n c]) (hk : n < k) :
    Calls Try.prog 39 #[.pointer (some ⟨g, 0, none⟩), .int .i64 k] w fun e w' => e = .panicked [{ v := shortV, recovered := false }] ∧ w' = w := by
  have c0 := Blk.cell hg 0
  simp at c0
  have i1 : (n : Int) < (k : Int) := by omega
  go_enter Try.func39, Try.ntmps39
  go_wp2_with fail
  simp [bodyPost, shortV]

theorem catch_idle (p q : Addr) (w : World) :
    CallsD Try.prog 38 #[.pointer (some p), .pointer (some q)] .returning w fun e u' w' => e = .returned (.tuple #[]) ∧ u' = .returning ∧ w' = w := by
  refine callsD_of_wpS Try.func38 rfl fun c₀ cs hu => ?_
  apply wpS_seq
  apply wpS_region
  simp [wpOpsS, go_sem, recoverD, hu, Try.ntmps38, Exit.thenS]
  apply wpS_seq
  apply wpS_region
  simp [wpOpsS, go_sem, recoverD, Exit.thenS]
  refine wpS_cond (t := false) (by simp [Act.eval, Array.replicate]) ?_
  simp only [Bool.false_eq_true, if_false]
  refine wpS_of_wp (wp_skip ?_)
  cases c₀
  simp_all [bodyPostS, results, Try.results38]

theorem catch_panicking (pb qb : Nat) (x y : Value) (older : List PanicEntry) (w : World) (hc : w.cell? ⟨pb, 0, none⟩ = some x) (hz : w.frozen? ⟨pb, 0, none⟩ = false) (hd : w.cell? ⟨qb, 0, none⟩ = some y) (hy : w.frozen? ⟨qb, 0, none⟩ = false) (hpq : pb ≠ qb) :
    CallsD Try.prog 38 #[.pointer (some ⟨pb, 0, none⟩), .pointer (some ⟨qb, 0, none⟩)] (.panicking ({ v := shortV, recovered := false } :: older)) w fun e u' w' =>
      e = .returned (.tuple #[]) ∧ u' = .panicking ({ v := shortV, recovered := true } :: older) ∧ w' = ((w.alloc (.cells #[] 76)).setCell ⟨pb, 0, none⟩ (.slice none 0 0)).setCell ⟨qb, 0, none⟩ (.bool false) := by
  refine callsD_of_wpS Try.func38 rfl fun c₀ cs hu => ?_
  apply wpS_seq
  apply wpS_region
  simp [wpOpsS, go_sem, recoverD, hu, Try.ntmps38, Exit.thenS]
  apply wpS_seq
  apply wpS_region
  simp [wpOpsS, go_sem, recoverD, Exit.thenS, shortV]
  refine wpS_cond (t := true) (by simp [Act.eval, Array.replicate]) ?_
  simp only [if_true]
  have hta : ∀ w, (Instr.typeAssert (.iface 76 (.agg #[])) 20 76 true).run Try.prog w = .ok (.tuple #[.agg #[], .bool true]) w := fun w => by
    simp [Instr.typeAssert, run_underlying Try.underlying76]
  refine wpS_of_wp ?_
  change Code.wp Try.prog _ _ ⟨#[.pointer (some ⟨pb, 0, none⟩), .pointer (some ⟨qb, 0, none⟩), .iface 76 (.agg #[]), undef, undef, .iface 76 (.agg #[]), .iface 76 (.agg #[]), .bool true, undef, undef, undef, undef, undef, undef, undef, undef], []⟩ w
  have lc := Lib.lt_of_cell hc
  have ld := Lib.lt_of_cell hd
  have hne : (⟨pb, 0, none⟩ : Addr) ≠ ⟨qb, 0, none⟩ := fun e => by injection e with e1; exact hpq e1
  have hpq' : ¬ qb = pb := fun e => hpq e.symm
  have hc' := (World.cell?_alloc_lt w (.cells #[] 76) _ lc).trans hc
  have hd' := (World.cell?_alloc_lt w (.cells #[] 76) _ ld).trans hd
  have hd'' := (World.cell?_setCell_other (w.alloc (.cells #[] 76)) _ _ (.slice none 0 0) hne).trans hd'
  go_wp2
  refine ⟨rfl, _, rfl, .tuple #[], ?_, rfl, rfl, rfl⟩
  simp [results, Try.results38]
end Go.Proofs.Ytbaebeackbciaaa
