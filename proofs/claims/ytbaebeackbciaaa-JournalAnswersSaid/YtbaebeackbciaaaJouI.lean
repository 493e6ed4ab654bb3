/- Comparing lists of events, lists of batches; the made journal. -/
import Derived.Test.YtbaebeackbciaaaJouH
import Derived.Test.YtbaebeackbciaaaEveL
set_option linter.unusedVariables false
set_option linter.unusedSimpArgs false
namespace Go.Proofs.Ytbaebeackbciaaa
open Go.RowKit CoEv

set_option maxRecDepth 100000 in
set_option maxHeartbeats 4000000 in
theorem evsame_any (A B : Option Addr) (n m c d : Nat) (xs : List Ev) (w : World) (h : RS EE w A n xs) (h' : RS EE w B m xs) (hn : n ≤ 1099511627776) :
    Calls Try.prog 20 #[.slice A n c, .slice B m d] w fun e w' => e = .returned (.bool true) ∧ Below w.heap.size w w' := by
  have hl := h.len
  have hl' := h'.len
  obtain rfl : n = m := by omega
  clear hl hl'
  go_enter Try.func20, Try.ntmps20
  go_wp2_with fail
  go_loopw [13] (fun i wr => ∃ k : Nat, k ≤ n ∧ i = .int .i64 k ∧ Below w.heap.size w wr) (fun i _ => n - (intOf i).toNat)
  case atStart => exact ⟨0, Nat.zero_le _, rfl, Below.refl _ _⟩
  case round =>
    obtain ⟨k, hk, rfl, hb⟩ := hrel
    by_cases hlt : k < n
    · obtain ⟨ad, e, rfl, hbl, hy, c0, c1, c2, c3, c4, c5, c6⟩ := (RS.below h hb (Nat.le_refl _)).ev hlt
      obtain ⟨bd, e', rfl, hbl', hy', d0, d1, d2, d3, d4, d5, d6⟩ := (RS.below h' hb (Nat.le_refl _)).ev hlt
      have he : e' = e := by have := hy'.out; rw [hy.out] at this; injection this with this; exact this.symm
      subst he
      obtain ⟨a1, a2, a3, a4, a5, a6, a7⟩ := e'
      simp only at c0 c1 c2 c3 c4 c5 c6 d0 d1 d2 d3 d4 d5 d6
      have i2 : (0 : Int) ≤ (k : Int) := Int.natCast_nonneg _
      have i3 : (k : Int) < (n : Int) := by omega
      clear hy hy'
      go_wp2_with fail
      go_quiet (fail)
      go_wp2_with fail
      go_roundw
      case rel => exact ⟨k + 1, by omega, by go_num, below_drewN hb _⟩
      case measure => simp [intOf]; omega
    · obtain rfl : k = n := by omega
      go_wp2_with fail
      go_ret
      exact ⟨rfl, hb⟩

set_option maxRecDepth 100000 in
set_option maxHeartbeats 4000000 in
theorem lsame_any (A B : Option Addr) (n m c d : Nat) (L : List (List Ev)) (w : World) (h : RL EE w A n L) (h' : RL EE w B m L) (hn : n ≤ 1099511627776) (hL : ∀ l ∈ L, l.length ≤ 1099511627776) :
    Calls Try.prog 14 #[.slice A n c, .slice B m d] w fun e w' => e = .returned (.bool true) ∧ Below w.heap.size w w' := by
  have hl := h.len
  have hl' := h'.len
  obtain rfl : n = m := by omega
  clear hl hl'
  have ks := Lib.hid fun (A B : Option Addr) (n m c d : Nat) xs w h h' hn => evsame_any A B n m c d xs w h h' hn
  go_enter Try.func14, Try.ntmps14
  go_wp2_with fail
  go_loopw [13] (fun i wr => ∃ k : Nat, k ≤ n ∧ i = .int .i64 k ∧ Below w.heap.size w wr) (fun i _ => n - (intOf i).toNat)
  case atStart => exact ⟨0, Nat.zero_le _, rfl, Below.refl _ _⟩
  case round =>
    obtain ⟨k, hk, rfl, hb⟩ := hrel
    by_cases hlt : k < n
    · obtain ⟨ad, A1, n1, c1, ys, rfl, hc, hy, hnc, hr, _⟩ := (RL.below h hb (Nat.le_refl _)).get hlt
      obtain ⟨bd, A2, n2, c2, ys', rfl, hc', hy', hnc', hr', _⟩ := (RL.below h' hb (Nat.le_refl _)).get hlt
      have he : ys' = ys := by have := hy'.out; rw [hy.out] at this; injection this with this; exact this.symm
      subst he
      have hm := hL ys' (List.mem_of_getElem? hy.out)
      rw [hr.len] at hm
      have i2 : (0 : Int) ≤ (k : Int) := Int.natCast_nonneg _
      have i3 : (k : Int) < (n : Int) := by omega
      clear hy hy'
      go_upto_region 6 with fail
      have BN : Below wr.heap.size wr wr := Below.refl _ _
      go_region_held3 (fun w' => w'.cell? (ad.add k) = some (.slice A1 n1 c1) ∧ w'.cell? (bd.add k) = some (.slice A2 n2 c2)) (first | exact ⟨hc, hc'⟩ | exact ⟨hk1, hk2⟩)
        ((first
          | (go_at_call 20; (with_reducible refine (ks.out _ _ _ _ _ _ _ _ hr.drew hr'.drew hm).mono ?_); rintro e w2 ⟨rfl, hb2⟩; have hb2' := (Below.refl wr.heap.size wr).drew.trans hb2; have hk1 := (hb2'.cell (p := ad.add k) (by rw [block_of_add]; assumption)).trans hc; have hk2 := (hb2'.cell (p := bd.add k) (by rw [block_of_add]; assumption)).trans hc')))
      go_wp2_with fail
      go_roundw
      case rel => exact ⟨k + 1, by omega, by go_num, hb.trans (hb2'.mono hb.size)⟩
      case measure => simp [intOf]; omega
    · obtain rfl : k = n := by omega
      go_wp2_with fail
      go_ret
      exact ⟨rfl, hb⟩
end Go.Proofs.Ytbaebeackbciaaa
