/- slices.Chunk of events. -/
import Derived.Test.YtbaebeackbciaaaJouW
import Derived.RangeFuncFrom
import Derived.RangeFuncWrites
set_option linter.unusedVariables false
set_option linter.unusedSimpArgs false
namespace Go.Proofs.Ytbaebeackbciaaa
open Go.RowKit Go.Shelf CoEv

set_option maxRecDepth 100000 in
set_option maxHeartbeats 4000000 in
theorem chunk_any (A : Option Addr) (n c : Nat) (k : Nat) (w : World) (hk : 0 < k) :
    Calls Try.prog 37 #[.slice A n c, .int .i64 k] w fun e w' =>
      e = .returned (.func (.func 48) #[] #[.pointer (some ⟨w.heap.size, 0, none⟩), .pointer (some ⟨w.heap.size + 1, 0, none⟩)]) ∧
      w' = (w.alloc (.cells #[.slice A n c] 32)).alloc (.cells #[.int .i64 k] 3) := by
  have q1 : decide ((k : Int) < 1) = false := by simp; omega
  go_enter Try.func37, Try.ntmps37
  go_wp2
  go_ret
  exact ⟨rfl, rfl⟩

/-- The value of Chunk hands out the parts in order. -/
theorem chunk_stops (w0 : World) (A : Option Addr) (n c k : Nat) (xs : List Ev) (h : RS EE w0 A n xs) (hc : n ≤ c) (hn : n ≤ 1099511627776) (hk : 0 < k) (hk2 : k ≤ 255) (Bs : Nat) (w : World) (hw : Bs + 1 < w.heap.size)
    (hc1 : w.cell? ⟨Bs, 0, none⟩ = some (.slice A n c)) (hc2 : w.cell? ⟨Bs + 1, 0, none⟩ = some (.int .i64 k)) :
    SeqStopsK Fence.wide 5 Try.prog 48 #[.pointer (some ⟨Bs, 0, none⟩), .pointer (some ⟨Bs + 1, 0, none⟩)] (fun x : PrtW w0 => #[Value.slice x.1.A x.1.n x.1.n]) (KB Bs)
      (fun ys => ∃ m, n ≤ m * k ∧ (∀ j, j < m → j * k < n) ∧ ys = parts w0 A n k xs h hk2 m) (fun pre => ∃ m, (∀ j, j < m → j * k < n) ∧ pre = parts w0 A n k xs h hk2 m) n w := fun l J Jx W hW hJ _ hY h0 => by
  refine (chunk1_in w0 A n c k xs h hc hn hk hk2 l Bs J Jx (fun s W hs => hJ s W W.drew none hs ⟨rfl, rfl, rfl, Nat.le_refl _, fun _ _ _ => rfl⟩ (fun _ e => by cases e)) hY W ?_ ?_ h0).mono fun e W' hh => hh
  · exact (hW.cell (p := ⟨Bs, 0, none⟩) (by simp; omega)).trans hc1
  · exact (hW.cell (p := ⟨Bs + 1, 0, none⟩) (by simp; omega)).trans hc2
end Go.Proofs.Ytbaebeackbciaaa
