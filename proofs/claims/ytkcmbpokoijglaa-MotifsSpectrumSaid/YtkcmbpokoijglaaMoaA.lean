/- Comparing lists of lists of numbers (the law's lists). -/
import Derived.Test.YtkcmbpokoijglaaMotO
import Derived.BigQuiet
set_option linter.unusedVariables false
set_option linter.unusedSimpArgs false
namespace Go.Proofs.Ytkcmbpokoijglaa
open Go.RowKit CoMot

theorem RS.nat {w : World} {A : Option Addr} {n : Nat} {xs : List Nat} {k : Nat} (h : RS NE w A n xs) (hk : k < n) : ∃ ad x, A = some ad ∧ ad.block < w.heap.size ∧ Hid (xs[k]? = some x) ∧ w.cell? (ad.add k) = some (.int .i64 (x : Int)) := by
  obtain ⟨ad, x, h1, h2, h3, h4⟩ := h.get hk
  refine ⟨ad, x, h1, h2, h3, ?_⟩
  have := h4 0 (.int .i64 (x : Int)) rfl
  rw [add_of_add] at this
  simpa [NE] using this
set_option maxRecDepth 100000 in
set_option maxHeartbeats 4000000 in
theorem lists_any (A B : Option Addr) (n m c d : Nat) (L : List (List Nat)) (w : World) (h : RL NE w A n L) (h' : RL NE w B m L) (hn : n ≤ 1099511627776) (hL : ∀ l ∈ L, l.length ≤ 1099511627776) :
    Calls Try.prog 19 #[.slice A n c, .slice B m d] w fun e w' => e = .returned (.bool true) ∧ Below w.heap.size w w' := by
  have hl := h.len
  have hl' := h'.len
  obtain rfl : n = m := by omega
  clear hl hl'
  go_enter Try.func19, Try.ntmps19
  go_wp2_with fail
  go_loopw [14, 33] (fun i j wr => ∃ (v : Value) (k : Nat), v = j ∧ k ≤ n ∧ i = .int .i64 k ∧ Below w.heap.size w wr) (fun i _ _ => n - (intOf i).toNat)
  case atStart => exact ⟨_, 0, rfl, Nat.zero_le _, rfl, Below.refl _ _⟩
  case round =>
    obtain ⟨v, k, rfl, hk, rfl, hb⟩ := hrel
    by_cases hlt : k < n
    · obtain ⟨ad, A1, n1, c1, ys, rfl, hc, hy, hnc, hr, hbl⟩ := (RL.below h hb (Nat.le_refl _)).get hlt
      obtain ⟨bd, A2, n2, c2, ys', rfl, hc', hy', hnc', hr', hbl'⟩ := (RL.below h' hb (Nat.le_refl _)).get hlt
      have he : ys' = ys := by have := hy'.out; rw [hy.out] at this; injection this with this; exact this.symm
      subst he
      have hm := hL ys' (List.mem_of_getElem? hy.out)
      rw [hr.len] at hm
      obtain rfl : n1 = n2 := by have h1 := hr.len; have h2 := hr'.len; omega
      have i2 : (0 : Int) ≤ (k : Int) := Int.natCast_nonneg _
      have i3 : (k : Int) < (n : Int) := by omega
      clear hy hy'
      go_wp2_with fail
      go_quiet (fail)
      go_wp2_with fail
      replace hr := hr.drewN nq
      replace hr' := hr'.drewN nq
      replace hc : (wr.drewN nq).cell? (ad.add k) = some (.slice A1 n1 c1) := hc
      replace hc' : (wr.drewN nq).cell? (bd.add k) = some (.slice A2 n1 c2) := hc'
      replace hb := below_drewN hb nq
      replace hbl : ad.block < (wr.drewN nq).heap.size := hbl
      replace hbl' : bd.block < (wr.drewN nq).heap.size := hbl'
      generalize wr.drewN nq = wq at *
      go_loopw [33] (fun j wi => ∃ q : Nat, q ≤ n1 ∧ j = .int .i64 q ∧ Below wq.heap.size wq wi) (fun j _ => n1 - (intOf j).toNat)
      case atStart => exact ⟨0, Nat.zero_le _, rfl, Below.refl _ _⟩
      case round =>
        obtain ⟨q, hq, rfl, hbq⟩ := hrel
        by_cases hltq : q < n1
        · obtain ⟨ed, x, rfl, hbe, hx, hcx⟩ := (hr.below hbq (Nat.le_refl _)).nat hltq
          obtain ⟨fd, x', rfl, hbf, hx', hcx'⟩ := (hr'.below hbq (Nat.le_refl _)).nat hltq
          have he : x' = x := by have := hx'.out; rw [hx.out] at this; injection this with this; exact this.symm
          subst he
          have j2 : (0 : Int) ≤ (q : Int) := Int.natCast_nonneg _
          have j3 : (q : Int) < (n1 : Int) := by omega
          replace hc := (hbq.cell (p := ad.add k) (by rw [block_of_add]; exact hbl)).trans hc
          replace hc' := (hbq.cell (p := bd.add k) (by rw [block_of_add]; exact hbl')).trans hc'
          clear hx hx'
          go_wp2_with fail
          go_quiet (fail)
          go_wp2_with fail
          go_roundw
          case rel => exact ⟨q + 1, by omega, by go_num, below_drewN hbq _⟩
          case measure => simp [intOf]; omega
        · obtain rfl : q = n1 := by omega
          go_wp2_with fail
          go_roundw
          case rel => exact ⟨_, k + 1, rfl, by omega, by go_num, hb.trans (hbq.mono hb.size)⟩
          case measure => simp [intOf]; omega
    · obtain rfl : k = n := by omega
      go_wp2_with fail
      go_ret
      exact ⟨rfl, hb⟩
end Go.Proofs.Ytkcmbpokoijglaa
