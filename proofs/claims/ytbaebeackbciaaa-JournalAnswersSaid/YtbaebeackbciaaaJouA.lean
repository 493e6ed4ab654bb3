/- journal.Sum, the reference's Sum, word. -/
import Derived.Test.YtbaebeackbciaaaGen
import Derived.Test.YtbaebeackbciaaaEveM
import Derived.Laws.BitsAllLaws
set_option linter.unusedVariables false
set_option linter.unusedSimpArgs false
namespace Go.Proofs.Ytbaebeackbciaaa
open Go.RowKit CoEv

theorem fold_take {f : Nat → Nat → Nat} {s : Nat} {xs : List Nat} {k x : Nat} (hx : xs[k]? = some x) : (xs.take (k + 1)).foldl f s = f ((xs.take k).foldl f s) x := by
  rw [List.take_add_one, hx, List.foldl_append]; rfl
theorem take_fold {xs : List Nat} {k x : Nat} (hx : xs[k]? = some x) : sum (xs.take (k + 1)) = stp (sum (xs.take k)) x := by
  unfold sum; exact fold_take hx
theorem stp_walk {s x : Nat} (hs : s < 4294967296) (hx : x < 256) : bits .xor .u32 (s : Int) (x : Int) * 16777619 % 4294967296 = (stp s x : Nat) := by
  rw [u32_xor_nat s x hs (by omega)]
  unfold stp
  generalize s ^^^ x = z
  show ((z : Nat) : Int) * ((16777619 : Nat) : Int) % ((4294967296 : Nat) : Int) = _
  rw [← Int.natCast_mul, ← Int.natCast_emod]

set_option maxRecDepth 100000 in
set_option maxHeartbeats 1000000 in
theorem jsum_any (A : Option Addr) (n c : Nat) (xs : List Nat) (w : World) (h : RS BE w A n xs) (hB : Byt xs) (hn : n ≤ 1099511627776) :
    Calls Try.prog 18 #[.slice A n c] w fun e w' => e = .returned (.int .u32 (sum xs : Nat)) ∧ w' = w := by
  have hl := Lib.hid h.len
  go_enter Try.func18, Try.ntmps18
  go_wp2_with fail
  go_loop [3, 8] (fun s i => ∃ (k : Nat), k ≤ n ∧ i = .int .i64 k ∧ s = .int .u32 (sum (xs.take k) : Nat)) (fun _ i => n - (intOf i).toNat)
  case atStart => exact ⟨0, Nat.zero_le _, rfl, rfl⟩
  case round =>
    obtain ⟨k, hk, rfl, rfl⟩ := hrel
    by_cases hlt : k < n
    · obtain ⟨ad, y, rfl, hbl, hy, hcy⟩ := h.byte hlt
      have hy2 := hB.at_ hy.out
      have e1 := Lib.hid (take_fold hy.out)
      have e2 := Lib.hid (stp_walk (sum_lt (xs.take k)) hy2)
      clear hy
      go_wp2_with fail
      go_round
      case rel =>
        refine ⟨k + 1, by omega, by go_num, ?_⟩
        rw [e1.out, ← e2.out]
      case measure => simp [intOf]; omega
    · obtain rfl : k = n := by omega
      have hf : Hid (sum (xs.take k) = sum xs) := Lib.hid (by rw [← hl.out, List.take_length])
      go_wp2_with fail
      go_ret
      exact ⟨by rw [hf.out]; rfl, rfl⟩
end Go.Proofs.Ytbaebeackbciaaa
