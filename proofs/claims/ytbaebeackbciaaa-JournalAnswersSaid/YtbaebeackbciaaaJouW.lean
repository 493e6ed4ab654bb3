/- slices.Chunk of events: the iterator's contract. -/
import Derived.RangeFuncNested
import Derived.RangeFuncBound
import Derived.RangeFuncCalls
import Derived.RangeFuncLeaves
import Derived.RangeFuncBox
import Derived.Shelf.Abstract
import Derived.Shelf.RegionOpen
import Derived.WalkKit
import Derived.OwnWalkIn
import Derived.TacticsInMore
import Derived.LoopNIn
import Derived.LoopIn
import Derived.Test.YtbaebeackbciaaaJouC
set_option linter.unusedVariables false
set_option linter.unusedSimpArgs false
namespace Go.Proofs.Ytbaebeackbciaaa
open Go.RowKit Go.Shelf CoEv
attribute [local go_sem] Oper.semAt_some

/-- What the iterator reads between two rounds stays. -/
def KB (Bs : Nat) (W W' : World) : Prop := (∀ v, W.cell? ⟨Bs, 0, none⟩ = some v → W'.cell? ⟨Bs, 0, none⟩ = some v) ∧ (∀ v, W.cell? ⟨Bs + 1, 0, none⟩ = some v → W'.cell? ⟨Bs + 1, 0, none⟩ = some v)
theorem KB.refl (Bs : Nat) (W : World) : KB Bs W W := ⟨fun _ h => h, fun _ h => h⟩
theorem KB.trans {Bs : Nat} {A B C : World} (h : KB Bs A B) (h' : KB Bs B C) : KB Bs A C := ⟨fun v hv => h'.1 v (h.1 v hv), fun v hv => h'.2 v (h.2 v hv)⟩
theorem KB.put {Bs : Nat} (W : World) (l : Nat) (o o' : Obj) (ho : W.heap[l]? = some o) (hc : o.isCells = false) : KB Bs W (W.putObj l o') :=
  ⟨fun _ h => cell_kept h (grownBy_putObj' W l o') (fun r e => by cases e; exact ⟨o, ho, hc⟩), fun _ h => cell_kept h (grownBy_putObj' W l o') (fun r e => by cases e; exact ⟨o, ho, hc⟩)⟩
/-- A part of a slice of events. -/
structure Prt where
  A : Option Addr
  n : Nat
  xs : List Ev
def PrtW (w : World) : Type := {p : Prt // RS EE w p.A p.n p.xs ∧ p.n ≤ 255}
theorem RS.zero {α : Type} {E : El α} {w : World} {A : Option Addr} : RS E w A 0 [] := ⟨by simp [El.all], fun h => absurd h (by omega)⟩
/-- Part j. -/
def prt (A : Option Addr) (n k : Nat) (xs : List Ev) (j : Nat) : Prt :=
  if j * k < n then ⟨A.map (·.add (j * k * 7)), min k (n - j * k), (xs.drop (j * k)).take (min k (n - j * k))⟩ else ⟨none, 0, []⟩
theorem prt_rs {w : World} {A : Option Addr} {n k : Nat} {xs : List Ev} (h : RS EE w A n xs) (j : Nat) : RS EE w (prt A n k xs j).A (prt A n k xs j).n (prt A n k xs j).xs := by
  unfold prt
  by_cases hlt : j * k < n
  · rw [if_pos hlt]
    have h1 := h.cut (k := j * k) (cap := n) (by omega) (Nat.le_refl _)
    rw [if_neg (by omega)] at h1
    exact h1.head (Nat.min_le_right _ _)
  · rw [if_neg hlt]; exact RS.zero
theorem prt_n {A : Option Addr} {n k : Nat} {xs : List Ev} (hk2 : k ≤ 255) (j : Nat) : (prt A n k xs j).n ≤ 255 := by
  unfold prt
  split
  · exact Nat.le_trans (Nat.min_le_left _ _) hk2
  · exact Nat.zero_le _
def part (w : World) (A : Option Addr) (n k : Nat) (xs : List Ev) (h : RS EE w A n xs) (hk2 : k ≤ 255) (j : Nat) : PrtW w := ⟨prt A n k xs j, prt_rs h j, prt_n hk2 j⟩
def parts (w : World) (A : Option Addr) (n k : Nat) (xs : List Ev) (h : RS EE w A n xs) (hk2 : k ≤ 255) (j : Nat) : List (PrtW w) := (List.range j).map (part w A n k xs h hk2)
theorem parts_succ (w : World) (A : Option Addr) (n k : Nat) (xs : List Ev) (h : RS EE w A n xs) (hk2 : k ≤ 255) (j : Nat) : parts w A n k xs h hk2 (j + 1) = parts w A n k xs h hk2 j ++ [part w A n k xs h hk2 j] := by simp [parts, List.range_succ]
theorem parts_length (w : World) (A : Option Addr) (n k : Nat) (xs : List Ev) (h : RS EE w A n xs) (hk2 : k ≤ 255) (j : Nat) : (parts w A n k xs h hk2 j).length = j := by simp [parts]

set_option maxRecDepth 100000 in
set_option maxHeartbeats 4000000 in
theorem chunk1_in (w : World) (A : Option Addr) (n c k : Nat) (xs : List Ev) (h : RS EE w A n xs) (hc : n ≤ c) (hn : n ≤ 1099511627776) (hk : 0 < k) (hk2 : k ≤ 255) (l Bs : Nat) (J Jx : List (PrtW w) → World → Prop) (hJd : ∀ s W, J s W → J s W.drew)
    (hY : ∀ pre (x : PrtW w) W, J pre W → pre.length < n → YieldAt Fence.wide (5 - 1) Try.prog l #[.slice x.1.A x.1.n x.1.n] W fun e W' =>
      (e = .returned (.bool true) ∧ J (pre ++ [x]) W' ∧ KB Bs W W') ∨ (e = .returned (.bool false) ∧ Jx (pre ++ [x]) W'))
    (W : World) (hc1 : W.cell? ⟨Bs, 0, none⟩ = some (.slice A n c)) (hc2 : W.cell? ⟨Bs + 1, 0, none⟩ = some (.int .i64 k)) (h0 : J [] W) :
    CallsIn Fence.wide 5 Try.prog 48 #[.func (.yield l) #[] #[], .pointer (some ⟨Bs, 0, none⟩), .pointer (some ⟨Bs + 1, 0, none⟩)] W fun e W' => (∃ v, e = .returned v) ∧
      ((∃ ys, (∃ m, n ≤ m * k ∧ (∀ j, j < m → j * k < n) ∧ ys = parts w A n k xs h hk2 m) ∧ J ys W') ∨ (∃ pre, (∃ m, (∀ j, j < m → j * k < n) ∧ pre = parts w A n k xs h hk2 m) ∧ Jx pre W')) := by
  refine callsIn_of_wp Try.func48 rfl trivial ?_ rfl
  simp only [Try.ntmps48, List.size_toArray, List.length_cons, List.length_nil, Nat.reduceAdd, Nat.reduceSub, Array.replicate_succ, Array.replicate_zero, List.push_toArray, List.append_toArray, List.nil_append, List.cons_append]
  gi_wp2
  gi_loopw [4] (fun i wr => ∃ j : Nat, (∀ j', j' < j → j' * k < n) ∧ i = .int .i64 (j * k : Nat) ∧ J (parts w A n k xs h hk2 j) wr ∧ KB Bs W wr)
    (fun i _ => n - (intOf i).toNat)
  case atStart => exact ⟨0, fun _ h => absurd h (by omega), by simp, h0, KB.refl _ _⟩
  case round =>
    obtain ⟨j, hj, rfl, hJs, hnx⟩ := hrel
    have d1 := hnx.1 _ hc1
    have d2 := hnx.2 _ hc2
    by_cases hlt : j * k < n
    · obtain ⟨ad, x0, rfl, _, _, _⟩ := h.get (k := 0) (by omega)
      have hpart : (part w (some ad) n k xs h hk2 j).1.A = some (ad.add (j * k * 7)) ∧ (part w (some ad) n k xs h hk2 j).1.n = min k (n - j * k) := by
        show (prt (some ad) n k xs j).A = _ ∧ (prt (some ad) n k xs j).n = _
        unfold prt
        rw [if_pos hlt]
        exact ⟨rfl, rfl⟩
      have hjk : j ≤ j * k := Nat.le_mul_of_pos_right j hk
      obtain ⟨fn, tmps, assign, body, hy, hR⟩ := hY (parts w (some ad) n k xs h hk2 j) (part w (some ad) n k xs h hk2 j) wr.drew (hJd _ _ hJs) (by rw [parts_length]; omega)
      rw [hpart.1, hpart.2] at hy
      have hnext : (j + 1) * k = j * k + k := by rw [Nat.succ_mul]
      have hj2 : ∀ j', j' < j + 1 → j' * k < n := fun j' hj' => by
        rcases Nat.lt_or_ge j' j with h1 | h1
        · exact hj j' h1
        · obtain rfl : j' = j := by omega
          exact hlt
      replace hj2 := Lib.hid hj2
      clear hpart
      generalize hI : j * k = I at *
      replace hI := Lib.hid hI
      replace hnext := Lib.hid hnext
      have i1 : (0 : Int) ≤ (I : Int) := Int.natCast_nonneg _
      have i2 : (I : Int) ≤ (n : Int) := by omega
      have i3 : (I : Int) < (n : Int) := by omega
      have i4 : (n : Int) ≤ (c : Int) := by omega
      have i5 : (0 : Int) ≤ (k : Int) := Int.natCast_nonneg _
      have i6 : (I : Int) ≤ (c : Int) := by omega
      have hmx : Try.prog.follows .mixedOrders = true := by kernel_rfl
      have j7 : ¬ c = I := by omega
      rcases Nat.lt_or_ge (n - I) k with hm | hm
      · rw [show min k (n - I) = n - I from Nat.min_eq_right (Nat.le_of_lt hm)] at hy
        have j9 : ((n - I : Nat) : Int) ≤ (k : Int) := by omega
        gi_wp2
        gi_region_with_o (fail)
        all_goals
          have he1 : n - I ≤ n - I := Nat.le_refl _
          have he2 : 0 < n - I := by omega
          have j1 : IntKind.i64.wrap ((I : Int) + ((n - I : Nat) : Int)) = (I : Int) + ((n - I : Nat) : Int) := by rw [IntKind.wrap_i64]; omega
          have j2 : (I : Int) + ((n - I : Nat) : Int) ≤ (c : Int) := by omega
          have j3 : (I : Int) ≤ (I : Int) + ((n - I : Nat) : Int) := by omega
          have j4 : (0 : Int) ≤ (I : Int) + ((n - I : Nat) : Int) := by omega
          have j5 : ¬ I + (n - I : Nat) = I := by omega
          have j6 : I + (n - I : Nat) - I = (n - I : Nat) := by omega
          have j8 : IntKind.i64.wrap ((I : Int) + (k : Int)) = (I : Int) + (k : Int) := by rw [IntKind.wrap_i64]; omega
          gi_wp2
          refine hR.mono ?_
          rintro e' W3 (⟨rfl, hJ3, hk3⟩ | ⟨rfl, hJx3⟩)
          · have hk3' : KB Bs wr W3 := hk3
            have e1 := hk3'.2 _ d2
            gi_wp2
            go_roundw
            case rel => exact ⟨j + 1, hj2.out, by rw [hnext.out]; go_num, by rw [parts_succ]; exact hJ3, hnx.trans hk3'⟩
            case measure => simp [intOf]; omega
          · gi_wp2
            refine bodyPost_ret (results_none rfl _ _ _) rfl ?_
            exact ⟨⟨_, rfl⟩, .inr ⟨_, ⟨j + 1, hj2.out, (parts_succ _ _ _ _ _ _ _ _).symm⟩, hJx3⟩⟩
      · rw [show min k (n - I) = k from Nat.min_eq_left hm] at hy
        have hm' : ¬ n - I < k := by omega
        gi_wp2
        gi_region_with_o (fail)
        all_goals
          have j1 : IntKind.i64.wrap ((I : Int) + (k : Int)) = (I : Int) + (k : Int) := by rw [IntKind.wrap_i64]; omega
          have j2 : (I : Int) + (k : Int) ≤ (c : Int) := by omega
          have j3 : (I : Int) ≤ (I : Int) + (k : Int) := by omega
          have j4 : (0 : Int) ≤ (I : Int) + (k : Int) := by omega
          have j5 : ¬ I + k = I := by omega
          have j6 : I + k - I = k := by omega
          have j8 : IntKind.i64.wrap ((I : Int) + (k : Int)) = (I : Int) + (k : Int) := by rw [IntKind.wrap_i64]; omega
          gi_wp2
          refine hR.mono ?_
          rintro e' W3 (⟨rfl, hJ3, hk3⟩ | ⟨rfl, hJx3⟩)
          · have hk3' : KB Bs wr W3 := hk3
            have e1 := hk3'.2 _ d2
            gi_wp2
            go_roundw
            case rel => exact ⟨j + 1, hj2.out, by rw [hnext.out]; go_num, by rw [parts_succ]; exact hJ3, hnx.trans hk3'⟩
            case measure => simp [intOf]; omega
          · gi_wp2
            refine bodyPost_ret (results_none rfl _ _ _) rfl ?_
            exact ⟨⟨_, rfl⟩, .inr ⟨_, ⟨j + 1, hj2.out, (parts_succ _ _ _ _ _ _ _ _).symm⟩, hJx3⟩⟩
    · gi_wp2
      go_end0
      exact ⟨⟨_, rfl⟩, .inl ⟨_, ⟨j, by omega, hj, rfl⟩, hJs⟩⟩
end Go.Proofs.Ytbaebeackbciaaa
