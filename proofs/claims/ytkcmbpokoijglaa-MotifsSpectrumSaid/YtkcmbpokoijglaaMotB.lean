/- Functions of package motifs that look at lists: Valid, Check, span, check; Index and Equal. -/
import Derived.Test.YtkcmbpokoijglaaMotA
import Derived.ChangeKeysEq
set_option linter.unusedVariables false
set_option linter.unusedSimpArgs false
namespace CoMot
def nd (v : Int) : Bool := decide (0 ≤ v) && decide (v < 64)
/-- The first error of ticks behind a time. -/
def chkT : Int → List Tick → Int
  | _, [] => 0
  | last, x :: r => if nd x.u = false ∨ nd x.v = false ∨ x.u = x.v then 6 else if x.t < last ∨ 1048576 < x.t then 9 else chkT x.t r
def chkL (l : List Tick) : Int := if 4096 < l.length then 3 else chkT 0 l
def spn (w : Int) : Int := if w < 0 ∨ 1048576 < w then 1 else 0
def chkA (l : List Tick) (m : List Step) (w : Int) : Int := if chkL l ≠ 0 then chkL l else if vld m = false then 4 else spn w
/-- What slices.Index answers. -/
def ixI (l : List Int) (v : Int) : Int := if idx l v < l.length then (idx l v : Int) else -1
/-- The steps behind the first one. -/
def vfr (n : Option Nat) (m : List Step) : Option Nat := m.foldl (fun o x => o.bind fun n => vs n x) n
theorem vfr_none : ∀ m, vfr none m = none := by
  intro m
  induction m with
  | nil => rfl
  | cons x m ih => exact ih
theorem vs_pos {n n' : Nat} {x : Step} (h : vs n x = some n') : n ≤ n' ∧ n' ≤ n + 2 ∧ 1 ≤ n' := by
  unfold vs at h
  split at h
  · split at h
    · injection h with h; omega
    · cases h
  · split at h
    · cases h
    · injection h with h
      split at h <;> omega
end CoMot
namespace Go.Proofs.Ytkcmbpokoijglaa
open Go.RowKit CoMot

theorem equal_arr2 (k : Nat) (a b c d : Int) (w : World) : (Op.equalIn (k + 2) 34 (.agg #[.int .i64 a, .int .i64 b]) (.agg #[.int .i64 c, .int .i64 d])).run Try.prog w = .ok (a == c && b == d) w := by
  obtain ⟨i0, hi0, hz0, hz1, hz2⟩ := info_parts int_info
  have hc : Try.prog.cellsOf 3 = 1 := by kernel_rfl
  have hp : ∀ (xs : Array Value) (j : Nat) (x : Int), xs[j]? = some (.int .i64 x) → (part 3 xs (j * 1)).run Try.prog w = .ok (.int .i64 x) w := fun xs j x h => by
    simp [part, isAgg, run_underlying Try.underlying3, h]
  have hq : ∀ x y : Int, (Op.equalIn (k + 1) 3 (.int .i64 x) (.int .i64 y)).run Try.prog w = .ok (x == y) w := fun x y => run_equalIn_int w k 3 .i64 .i64 x y Try.underlying3
  rw [run_equalIn_array w (k + 1) _ _ Try.underlying34 hi0, hc]
  show (Op.eqItems (k + 1) 3 1 _ _ [0, 1]).run Try.prog w = _
  simp only [Op.eqItems, Sem.run_bind, hp #[.int .i64 a, .int .i64 b] 0 a rfl, hp #[.int .i64 c, .int .i64 d] 0 c rfl, hp #[.int .i64 a, .int .i64 b] 1 b rfl, hp #[.int .i64 c, .int .i64 d] 1 d rfl, hq, Result.andThen_ok]
  have hp1 : ∀ x y : Int, (part 3 #[.int .i64 x, .int .i64 y] 1).run Try.prog w = .ok (.int .i64 y) w := fun x y => hp _ 1 y rfl
  cases h1 : (a == c)
  · simp
  · cases h2 : (b == d) <;> simp [h2, hp1, hq]
theorem neq_arr2 (a b c d : Int) (w : World) : (binOp .neq 34 (.agg #[.int .i64 a, .int .i64 b]) (.agg #[.int .i64 c, .int .i64 d])).run Try.prog w = .ok (.bool (!(a == c && b == d))) w := by
  rw [run_neq_struct, equal_arr2 9998]; rfl
theorem off_of_add (ad : Addr) (j : Nat) : (ad.add j).off = ad.off + j := by
  unfold Addr.add
  by_cases h : j = 0
  · rw [if_pos h]; omega
  · rw [if_neg h]
theorem addr_two (ad : Addr) (j : Nat) : (ad.add (1 * SE.size)).add j = ⟨ad.block, ad.off + 2 + j, none⟩ := by
  rw [add_of_add]
  show ad.add (2 + j) = _
  unfold Addr.add
  rw [if_neg (by omega), Nat.add_assoc]
theorem addr_add_zero (ad : Addr) : ad.add 0 = ad := by unfold Addr.add; simp
theorem RS.st {w : World} {A : Option Addr} {n k : Nat} {xs : List Step} (h : RS SE w A n xs) (hk : k < n) : ∃ ad a b, A = some ad ∧ ad.block < w.heap.size ∧ Hid (xs[k]? = some (a, b)) ∧
    w.cell? (ad.add (k * 2)) = some (.int .i64 a) ∧ w.cell? ⟨(ad.add (k * 2)).block, (ad.add (k * 2)).off + 1, none⟩ = some (.int .i64 b) := by
  obtain ⟨ad, ⟨a, b⟩, h1, h2, h3, h4⟩ := h.get hk
  exact ⟨ad, a, b, h1, h2, h3, h4 0 _ rfl, h4 1 _ rfl⟩
theorem RS.tk {w : World} {A : Option Addr} {n k : Nat} {xs : List Tick} (h : RS TE w A n xs) (hk : k < n) : ∃ ad x y t, A = some ad ∧ ad.block < w.heap.size ∧ Hid (xs[k]? = some ⟨x, y, t⟩) ∧
    w.cell? (ad.add (k * 3)) = some (.int .i64 x) ∧ w.cell? ⟨(ad.add (k * 3)).block, (ad.add (k * 3)).off + 1, none⟩ = some (.int .i64 y) ∧ w.cell? ⟨(ad.add (k * 3)).block, (ad.add (k * 3)).off + 2, none⟩ = some (.int .i64 t) := by
  obtain ⟨ad, ⟨x, y, t⟩, h1, h2, h3, h4⟩ := h.get hk
  exact ⟨ad, x, y, t, h1, h2, h3, h4 0 _ rfl, h4 1 _ rfl, h4 2 _ rfl⟩

set_option maxHeartbeats 1000000 in
theorem mnode_any (v : Int) (w : World) : Calls Try.prog 51 #[.int .i64 v] w fun e w' => e = .returned (.bool (nd v)) ∧ w' = w := by
  have hw : (decide (0 ≤ v) = false ∧ nd v = false) ∨ (decide (0 ≤ v) = true ∧ decide (v < 64) = false ∧ nd v = false) ∨ (decide (0 ≤ v) = true ∧ decide (v < 64) = true ∧ nd v = true) := by
    unfold nd
    simp only [Bool.and_eq_true, Bool.and_eq_false_imp, decide_eq_true_eq, decide_eq_false_iff_not]
    omega
  rcases hw with ⟨q1, h⟩ | ⟨q1, q2, h⟩ | ⟨q1, q2, h⟩
  all_goals
    rw [h]
    clear h
    go_enter Try.func51, Try.ntmps51
    go_wp2_with fail
    go_ret
    exact ⟨rfl, rfl⟩
set_option maxHeartbeats 1000000 in
theorem mspan_any (v : Int) (w : World) : Calls Try.prog 46 #[.int .i64 v] w fun e w' => e = .returned (.int .i64 (spn v)) ∧ w' = w := by
  have hw : (decide (v < 0) = true ∧ spn v = 1) ∨ (decide (v < 0) = false ∧ decide (1048576 < v) = true ∧ spn v = 1) ∨ (decide (v < 0) = false ∧ decide (1048576 < v) = false ∧ spn v = 0) := by
    unfold spn
    simp only [decide_eq_true_eq, decide_eq_false_iff_not]
    by_cases h1 : v < 0
    · exact .inl ⟨h1, if_pos (.inl h1)⟩
    · by_cases h2 : 1048576 < v
      · exact .inr (.inl ⟨h1, h2, if_pos (.inr h2)⟩)
      · exact .inr (.inr ⟨h1, h2, if_neg (by omega)⟩)
  rcases hw with ⟨q1, h⟩ | ⟨q1, q2, h⟩ | ⟨q1, q2, h⟩
  all_goals
    rw [h]
    clear h
    go_enter Try.func46, Try.ntmps46
    go_wp2_with fail
    go_ret
    exact ⟨rfl, rfl⟩
set_option maxHeartbeats 2000000 in
theorem index_any (A : Option Addr) (n c : Nat) (xs : List Int) (v : Int) (w : World) (h : RI w A n xs) (hn : n ≤ 1099511627776) :
    Calls Try.prog 71 #[.slice A n c, .int .i64 v] w fun e w' => e = .returned (.int .i64 (ixI xs v)) ∧ w' = w := by
  have hl := Lib.hid h.len
  go_enter Try.func71, Try.ntmps71
  go_wp2_with fail
  go_loopw [8] (fun i wr => ∃ k : Nat, k ≤ n ∧ i = .int .i64 k ∧ Hid (k ≤ idx xs v) ∧ w = wr) (fun i _ => n - (intOf i).toNat)
  case atStart => exact ⟨0, Nat.zero_le _, rfl, Lib.hid (Nat.zero_le _), rfl⟩
  case round =>
    obtain ⟨k, hk, rfl, hi, rfl⟩ := hrel
    by_cases hlt : k < n
    · obtain ⟨ad, y, rfl, hy, hc⟩ := h.get hlt
      have i2 : (0 : Int) ≤ (k : Int) := Int.natCast_nonneg _
      have i3 : (k : Int) < (n : Int) := by omega
      by_cases hv : v = y
      · have q1 : (v == y) = true := by simp [hv]
        have hfin : Hid (ixI xs v = k) := Lib.hid (by
         have hh : idx xs v = k := by
          have h1 := hi.out
          have h2 : ¬ k < idx xs v := fun h2 => by
            have h3 := List.not_of_lt_findIdx h2
            have h4 := hy.out
            rw [List.getElem?_eq_getElem (by have := hl.out; omega)] at h4
            injection h4 with h4
            rw [h4, hv] at h3; simp at h3
          omega
         unfold ixI; rw [hh, if_pos (by have := hl.out; omega)])
        replace hv := Lib.hid hv
        go_wp2_with fail
        go_ret
        exact ⟨by rw [hfin.out]; rfl, rfl⟩
      · have q1 : (v == y) = false := by simp [hv]
        have hi2 : Hid (k + 1 ≤ idx xs v) := Lib.hid (by
          have h1 := hi.out
          rcases Nat.lt_or_ge k (idx xs v) with h2 | h2
          · omega
          · exfalso
            have h3 : idx xs v = k := by omega
            have h4 := idx_at (l := xs) (x := v) (by have := hl.out; omega)
            rw [h3, hy.out] at h4
            injection h4 with h4; exact hv h4.symm)
        replace hv := Lib.hid hv
        go_wp2_with fail
        go_roundw
        case rel => exact ⟨k + 1, by omega, by go_num, hi2, trivial⟩
        case measure => simp [intOf]; omega
    · have i3 : ¬ (k : Int) < (n : Int) := by omega
      have hfin : Hid (ixI xs v = -1) := Lib.hid (by unfold ixI; rw [if_neg (by have := hi.out; have := hl.out; omega)])
      go_wp2_with fail
      go_ret
      exact ⟨by rw [hfin.out]; rfl, rfl⟩
set_option maxRecDepth 100000 in
set_option maxHeartbeats 4000000 in
theorem mvalid_any (A : Option Addr) (n c : Nat) (m : List Step) (w : World) (h : RS SE w A n m) (hc : n ≤ c) :
    Calls Try.prog 14 #[.slice A n c] w fun e w' => e = .returned (.bool (vld m)) ∧ Below w.heap.size w w' := by
  have hl := Lib.hid h.len
  have kq := neq_arr2
  by_cases h0 : n < 1
  · have hv : vld m = false := by unfold vld; rw [decide_eq_false (by have := hl.out; omega)]; rfl
    rw [hv]
    clear hv
    go_enter Try.func14, Try.ntmps14
    go_wp2_with fail
    go_ret
    exact ⟨rfl, Below.refl _ _⟩
  · by_cases h4 : 4 < n
    · have hv : vld m = false := by unfold vld; rw [decide_eq_false (p := m.length ≤ 4) (by have := hl.out; omega), Bool.and_false]; rfl
      rw [hv]
      clear hv
      go_enter Try.func14, Try.ntmps14
      go_wp2_with fail
      go_ret
      exact ⟨rfl, Below.refl _ _⟩
    · obtain ⟨ad, a, b, rfl, hbl, hx, c0, c1⟩ := h.st (k := 0) (by omega)
      rw [show 0 * 2 = 0 from rfl] at c0 c1
      have d0 : w.cell? ad = some (.int .i64 a) := by rwa [addr_add_zero] at c0
      have d1 : w.cell? ⟨ad.block, ad.off + 1, none⟩ = some (.int .i64 b) := by rwa [addr_add_zero] at c1
      obtain ⟨r, rfl⟩ : ∃ r, m = (a, b) :: r := by
        have := hx.out
        cases m with
        | nil => simp at this
        | cons y r => injection this with this; exact ⟨r, by rw [this]⟩
      have hvl : vld ((a, b) :: r) = (vfr (vs 0 (a, b)) r).isSome := by
        have := hl.out
        unfold vld vfr vf
        rw [decide_eq_true (by omega), decide_eq_true (by omega)]
        simp [List.foldl_cons]
      by_cases hab : a = 0 ∧ b = 1
      · obtain ⟨rfl, rfl⟩ := hab
        have hv2 : Hid (vld ((0, 1) :: r) = (vfr (some 2) r).isSome) := Lib.hid hvl
        have hr := h.cut (k := 1) (cap := c) (by omega) hc
        have hrl : r.length = n - 1 := by have := hl.out; rw [List.length_cons] at this; omega
        replace hrl := Lib.hid hrl
        rw [List.drop_one, List.tail_cons] at hr
        clear hvl
        have hways : c = 1 ∨ (¬ c = 1 ∧ ¬ c - 1 = 0) := by omega
        rcases hways with hc1 | ⟨hc1, hc2⟩
        case inl =>
          have hn1 : n = 1 := by omega
          have hr0 : r = [] := List.eq_nil_of_length_eq_zero (by have := hrl.out; omega)
          have hfin : Hid (vld ((0, 1) :: r) = true) := Lib.hid (by rw [hv2.out, hr0]; rfl)
          subst hc1
          clear hr hv2
          go_enter Try.func14, Try.ntmps14
          go_wp2_with fail
          go_loopw [26] (fun i wr => i = .int .i64 0 ∧ w = wr) (fun _ _ => 0)
          case atStart => exact ⟨rfl, rfl⟩
          case round =>
            obtain ⟨rfl, rfl⟩ := hrel
            go_wp2_with fail
            go_ret
            exact ⟨by rw [hfin.out]; rfl, Below.refl _ _⟩
        case inr =>
          rw [if_neg hc1] at hr
          go_enter Try.func14, Try.ntmps14
          go_wp2_with fail
          clear kq c0 c1 d0 d1
          go_loopw [3, 26] (fun t i wr => ∃ k nv : Nat, k ≤ n - 1 ∧ i = .int .i64 k ∧ t = .int .i64 nv ∧ 1 ≤ nv ∧ nv ≤ 2 + 2 * k ∧ Hid (vfr (some 2) (r.take k) = some nv) ∧ Below w.heap.size w wr) (fun _ i _ => (n - 1) - (intOf i).toNat)
          case atStart => exact ⟨0, 2, Nat.zero_le _, rfl, rfl, by omega, by omega, Lib.hid rfl, Below.refl _ _⟩
          case round =>
            obtain ⟨k, nv, hk, rfl, rfl, hn1', hn2', hvf, hb⟩ := hrel
            have hs := hb.size
            by_cases hlt : k < n - 1
            · obtain ⟨ad', a', b', hAe, hbl', hy, e0, e1⟩ := (hr.below hb (Nat.le_refl _)).st hlt
              injection hAe with hAe
              subst hAe
              have i2 : (0 : Int) ≤ (k : Int) := Int.natCast_nonneg _
              have i3 : (k : Int) < (n : Int) - 1 := by omega
              have e1' : wr.cell? ⟨ad.block, ad.off + 2 + k * 2 + 1, none⟩ = some (.int .i64 b') := by
                rw [addr_two] at e1; exact e1
              have e0' : wr.cell? ⟨ad.block, ad.off + 2 + k * 2, none⟩ = some (.int .i64 a') := by
                rw [addr_two] at e0; exact e0
              clear e0 e1
              have ks := fun w => step_any a' b' nv w hn1' (by omega)
              have hnext : vfr (some 2) (r.take (k + 1)) = vs nv (a', b') := by
                have h1 := (List.getElem?_eq_some_iff.1 hy.out).1
                rw [List.take_add_one, hy.out]
                show vfr (some 2) (r.take k ++ [(a', b')]) = _
                unfold vfr
                rw [List.foldl_append]
                have := hvf.out
                unfold vfr at this
                rw [this]; rfl
              cases hv : vs nv (a', b') with
              | none =>
                rw [hv] at ks hnext
                replace ks := Lib.hid ks
                have hfin : Hid (vld ((0, 1) :: r) = false) := Lib.hid (by
                  rw [hv2.out, ← List.take_append_drop (k + 1) r]
                  unfold vfr at hnext ⊢
                  rw [List.foldl_append, hnext]
                  have := vfr_none (r.drop (k + 1))
                  unfold vfr at this
                  rw [this]; rfl)
                clear hnext hv hv2 hy hvf
                go_wp2_with fail
                (with_reducible refine (ks.out _).mono ?_)
                rintro e w1 ⟨rfl, hb1⟩
                go_wp2_with fail
                go_ret
                exact ⟨by rw [hfin.out]; rfl, (hb.alloc hs _).trans (hb1.mono (by simp; omega))⟩
              | some nv' =>
                obtain ⟨p1, p2, p3⟩ := vs_pos hv
                rw [hv] at ks hnext
                replace ks := Lib.hid ks
                replace hnext := Lib.hid hnext
                clear hv hy hvf
                go_wp2_with fail
                (with_reducible refine (ks.out _).mono ?_)
                rintro e w1 ⟨rfl, hb1⟩
                go_wp2_with fail
                go_roundw
                case rel => exact ⟨k + 1, nv', by omega, by go_num, rfl, p3, by omega, hnext, (hb.alloc hs _).trans (hb1.mono (by simp; omega))⟩
                case measure => simp [intOf]; omega
            · have i3 : ¬ (k : Int) < (n : Int) - 1 := by omega
              have hfin : Hid (vld ((0, 1) :: r) = true) := Lib.hid (by
                have h1 := hvf.out
                rw [List.take_of_length_le (by rw [hrl.out]; omega)] at h1
                rw [hv2.out, h1]; rfl)
              go_wp2_with fail
              go_ret
              exact ⟨by rw [hfin.out]; rfl, hb⟩
      · have hv : vld ((a, b) :: r) = false := by
          rw [hvl]
          have : vs 0 (a, b) = none := by unfold vs; rw [if_pos rfl, if_neg (fun e => by injection e with e1 e2; exact hab ⟨e1, e2⟩)]
          rw [this, vfr_none]; rfl
        rw [hv]
        clear hv hvl
        have hq : (a == 0) = false ∨ ((a == 0) = true ∧ (b == 1) = false) := by
          by_cases h1 : a = 0
          · exact .inr ⟨by simp [h1], by simp; exact fun h2 => hab ⟨h1, h2⟩⟩
          · exact .inl (by simp [h1])
        rcases hq with q1 | ⟨q1, q2⟩
        all_goals
          go_enter Try.func14, Try.ntmps14
          go_wp2_with fail
          go_ret
          exact ⟨rfl, Below.refl _ _⟩
end Go.Proofs.Ytkcmbpokoijglaa
