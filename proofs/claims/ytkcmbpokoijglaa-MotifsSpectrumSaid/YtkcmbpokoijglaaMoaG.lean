/- The reference's Same (lists of steps); plain facts of the law MotifsBeginnings. -/
import Derived.Test.YtkcmbpokoijglaaMotI
import Derived.Test.YtkcmbpokoijglaaMoaB
import Derived.Test.YtkcmbpokoijglaaMoaF
set_option linter.unusedVariables false
set_option linter.unusedSimpArgs false
namespace CoMot
/-- The sum of Ending over the beginnings shorter than k. -/
def pS (l : List Tick) (w : Int) (M : List Step) (k : Nat) : Nat := ((List.range k).map fun i => endc (l.take i) w M).sum
theorem pS_succ (l : List Tick) (w : Int) (M : List Step) (k : Nat) : pS l w M (k + 1) = pS l w M k + endc (l.take k) w M := by
  unfold pS
  rw [List.range_succ, List.map_append, List.sum_append]
  simp
theorem pS_mono (l : List Tick) (w : Int) (M : List Step) {k n : Nat} (h : k ≤ n) : pS l w M k ≤ pS l w M n := by
  induction h with
  | refl => exact Nat.le_refl _
  | step _ ih => rw [pS_succ]; omega
/-- The ticks of indices. -/
def tks (l : List Tick) (a : List Nat) : List Tick := a.map fun i => (l[i]?).getD ⟨0, 0, 0⟩
theorem tks_len (l : List Tick) (a : List Nat) : (tks l a).length = a.length := by simp [tks]
theorem tks_ends {l : List Tick} {a : List Nat} : (tks l a).map pr = ends l a := by
  unfold tks ends
  rw [List.map_map]
  refine List.map_congr_left fun i _ => ?_
  simp only [Function.comp_apply, pr]
  cases l[i]? <;> rfl
theorem tks_take {l : List Tick} {a : List Nat} {k i : Nat} {x : Tick} (hk : a[k]? = some i) (hx : l[i]? = some x) : tks l (a.take (k + 1)) = tks l (a.take k) ++ [x] := by
  unfold tks
  rw [List.take_add_one, hk, List.map_append]
  simp [hx]
theorem tks_at {l : List Tick} {a : List Nat} {k i : Nat} {z : Tick} (hk : a[k]? = some i) (hi : i < l.length) (hz : (tks l a)[k]? = some z) : z ∈ l ∧ z.t = tim l i := by
  unfold tks at hz
  rw [List.getElem?_map, hk] at hz
  simp only [Option.map_some, List.getElem?_eq_getElem hi, Option.getD_some] at hz
  injection hz with hz
  subst hz
  refine ⟨List.getElem_mem _, ?_⟩
  unfold tim
  rw [List.getElem?_eq_getElem hi]; rfl
/-- What the law says of one instance. -/
structure Fit (l : List Tick) (w : Int) (M : List Step) (a : List Nat) : Prop where
  len : 1 ≤ a.length ∧ a.length ≤ 4
  lt : ∀ (k i : Nat), a[k]? = some i → i < l.length
  asc : ∀ (k i j : Nat), a[k]? = some i → a[k + 1]? = some j → i < j ∧ tim l i < tim l j
  of : ofR (tks l a) = some M
  wide : ∀ (i j : Nat), a[0]? = some i → a[a.length - 1]? = some j → tim l j - tim l i ≤ w
theorem fit_of {l : List Tick} {w : Int} {M : List Step} {a : List Nat} (hw : 0 ≤ w) (hl : ∀ y ∈ l, 0 ≤ y.t) (hv : vld M = true) (h : a ∈ (inst l w M).map (·.1)) : Fit l w M a := by
  obtain ⟨p, hp, rfl⟩ := List.mem_map.1 h
  obtain ⟨h1, ⟨g1, g2, g3⟩, h3, h4⟩ := (mem_inst hw hl p).1 hp
  obtain ⟨v1, v2, v3⟩ := (vld_iff M).1 hv
  refine ⟨by omega, fun k i hk => g1 i (List.mem_of_getElem? hk), fun k i j hi hj => ?_, ?_, fun i j hi hj => ?_⟩
  · obtain ⟨hk1, rfl⟩ := List.getElem?_eq_some_iff.1 hi
    obtain ⟨hk2, rfl⟩ := List.getElem?_eq_some_iff.1 hj
    exact List.pairwise_iff_getElem.1 g2 k (k + 1) hk1 hk2 (by omega)
  · unfold ofR
    rw [tks_len, if_neg (by omega), tks_ends]
    exact h3
  · exact g3 i (by rw [List.head?_eq_getElem?]; exact hi) j (List.mem_of_getElem? hj)
/-- The law's numbers. -/
theorem beg_law {l : List Tick} {m : List Step} {w : Int} (h : Tame l) (hl : l.length ≤ 12) (hv : vld m = true) (hw : 0 ≤ w ∧ w ≤ 100) :
    chkA l m w = 0 ∧ cntR l m w = ((inst l w m).length : Int) ∧ insE l m w 4096 = 0 ∧ insL l m w 4096 = (inst l w m).map (·.1) ∧ (inst l w m).length ≤ 4096 ∧ pS l w m (l.length + 1) = (inst l w m).length ∧ (∀ k, chkA (l.take k) m w = 0 ∧ endR (l.take k) m w = (endc (l.take k) w m : Int)) ∧ ∀ a ∈ (inst l w m).map (·.1), Fit l w m a := by
  have c1 := chkA_ok (h.chk (by omega)) hv hw
  have hf := inst_4096 hl w m
  have e1 : insE l m w 4096 = 0 := by unfold insE; rw [if_pos c1, if_neg (by omega), if_neg (by omega)]
  obtain ⟨v1, v2, v3⟩ := (vld_iff m).1 hv
  refine ⟨c1, by unfold cntR; rw [if_pos c1], e1, by unfold insL; rw [if_pos e1], hf, endc_sum hw.1 (fun y hy => (h.time y hy).1) (by omega), fun k => ?_, fun a ha => fit_of hw.1 (fun y hy => (h.time y hy).1) hv ha⟩
  have c3 := chkA_ok ((h.take k).chk (by rw [List.length_take]; omega)) hv hw
  exact ⟨c3, by unfold endR; rw [if_pos c3]⟩
end CoMot
namespace Go.Proofs.Ytkcmbpokoijglaa
open Go.RowKit CoMot

set_option maxRecDepth 100000 in
set_option maxHeartbeats 4000000 in
theorem rsame_any (A B : Option Addr) (n m c d : Nat) (xs ys : List Step) (w : World) (h : RS SE w A n xs) (h' : RS SE w B m ys) (hn : n ≤ 1099511627776) :
    Calls Try.prog 24 #[.slice A n c, .slice B m d] w fun e w' => e = .returned (.bool (decide (xs = ys))) ∧ Below w.heap.size w w' := by
  have hl := h.len
  have hl' := h'.len
  have kq := neq_arr2
  by_cases hnm : n = m
  · subst hnm
    replace hl := Lib.hid hl
    replace hl' := Lib.hid hl'
    go_enter Try.func24, Try.ntmps24
    go_wp2_with fail
    go_loopw [5] (fun i wr => ∃ k : Nat, k ≤ n ∧ i = .int .i64 k ∧ Hid (xs.take k = ys.take k) ∧ Below w.heap.size w wr) (fun i _ => n - (intOf i).toNat)
    case atStart => exact ⟨0, Nat.zero_le _, rfl, Lib.hid rfl, Below.refl _ _⟩
    case round =>
      obtain ⟨k, hk, rfl, hx, hb⟩ := hrel
      by_cases hlt : k < n
      · obtain ⟨ad, a1, a2, rfl, hbl, hxk, hcx, hcx2⟩ := (h.below hb (Nat.le_refl _)).st hlt
        obtain ⟨bd, b1, b2, rfl, hbl', hyk, hcy, hcy2⟩ := (h'.below hb (Nat.le_refl _)).st hlt
        have hst := eq_takeS hx.out hxk.out hyk.out
        have i2 : (0 : Int) ≤ (k : Int) := Int.natCast_nonneg _
        have i3 : (k : Int) < (n : Int) := by omega
        clear hx hxk hyk
        by_cases he : a1 = b1
        · by_cases he2 : a2 = b2
          · subst he; subst he2
            have hst1 := Lib.hid (hst.1 rfl)
            clear hst
            have e1 : (a1 == a1) = true := by simp
            have e2 : (a2 == a2) = true := by simp
            go_wp2_with fail
            go_quiet (fail)
            go_wp2_with fail
            go_roundw
            case rel => exact ⟨k + 1, by omega, by go_num, hst1, below_drewN hb _⟩
            case measure => simp [intOf]; omega
          · subst he
            have hst1 := Lib.hid (hst.2 (fun e => he2 (by injection e)))
            have e1 : (a1 == a1) = true := by simp
            have e2 : (a2 == b2) = false := by simp [he2]
            replace he2 := Lib.hid he2
            clear hst
            go_wp2_with fail
            go_quiet (fail)
            go_wp2_with fail
            go_ret
            exact ⟨by rw [decide_eq_false hst1.out]; rfl, below_drewN hb _⟩
        · have hst1 := Lib.hid (hst.2 (fun e => he (by injection e)))
          have e1 : (a1 == b1) = false := by simp [he]
          replace he := Lib.hid he
          clear hst
          go_wp2_with fail
          go_quiet (fail)
          go_wp2_with fail
          go_ret
          exact ⟨by rw [decide_eq_false hst1.out]; rfl, below_drewN hb _⟩
      · obtain rfl : k = n := by omega
        have hf : Hid (xs = ys) := Lib.hid (by have := hx.out; rw [← hl.out, List.take_length, hl.out, ← hl'.out, List.take_length] at this; exact this)
        clear hx
        go_wp2_with fail
        go_ret
        exact ⟨by rw [decide_eq_true hf.out]; rfl, hb⟩
  · have hne : Hid (xs ≠ ys) := Lib.hid (fun e => by subst e; omega)
    have e1 : ((n : Int) != (m : Int)) = true := by simp; omega
    clear hl hl'
    go_enter Try.func24, Try.ntmps24
    go_wp2_with fail
    go_ret
    exact ⟨by rw [decide_eq_false hne.out]; rfl, Below.refl _ _⟩
end Go.Proofs.Ytkcmbpokoijglaa
