/- The reference's sets of nodes (cohesionref02), second part: sets of lists, what two sets have in common, comparison. -/
import Derived.Test.YtknlmgcbdcepnaaDoorSetA
set_option linter.unusedVariables false
namespace Go.Proofs.YtknlmgcbdcepnaaDoor
open Go.RowKit

/-- The set of a list. -/
def ofL (xs : List Int) : List Int := xs.foldl putL []
theorem of_take {xs : List Int} {k : Nat} {y : Int} (h : xs[k]? = some y) : ofL (xs.take (k + 1)) = putL (ofL (xs.take k)) y := by
  unfold ofL; rw [take_at h, List.foldl_append]; rfl
theorem put_length (xs : List Int) (x : Int) : (putL xs x).length ≤ xs.length + 1 := by
  induction xs with
  | nil => simp [putL]
  | cons y ys ih => unfold putL; split <;> (try split) <;> simp <;> omega
theorem foldl_put_length (xs acc : List Int) : (xs.foldl putL acc).length ≤ acc.length + xs.length := by
  induction xs generalizing acc with
  | nil => simp
  | cons x xs ih => have := ih (putL acc x); have := put_length acc x; simp; omega
theorem of_length (xs : List Int) : (ofL xs).length ≤ xs.length := by have := foldl_put_length xs []; simpa [ofL] using this
theorem of_take_length (xs : List Int) (k : Nat) : (ofL (xs.take k)).length ≤ k := Nat.le_trans (of_length _) (by rw [List.length_take]; omega)

set_option maxHeartbeats 400000 in
theorem of_any (A : Option Addr) (n c : Nat) (xs : List Int) (w : World) (h : RI w A n xs) (hn : n ≤ 1099511627776) :
    Calls Tryd.prog 63 #[.slice A n c] w (RetI w (ofL xs)) := by
  have hl := Lib.hid h.len
  go_enter Tryd.func63, Tryd.ntmps63
  go_wp2
  go_loopw [3, 8] (fun v i wr => ∃ k m cc : Nat, ∃ A' : Option Addr, k ≤ n ∧ i = .int .i64 k ∧ v = .slice A' m cc ∧ m ≤ cc ∧ m ≤ k ∧ RI wr A' m (ofL (xs.take k)) ∧ Below w.heap.size w wr ∧ Fr w.heap.size A') (fun _ i _ => n - (intOf i).toNat)
  case atStart => exact ⟨0, 0, 0, none, Nat.zero_le _, rfl, rfl, Nat.le_refl _, Nat.le_refl _, RI.none_, Below.refl _ _, Fr.none_⟩
  case round =>
    obtain ⟨k, m, cc, A', hk, rfl, rfl, hmc, hmk, hr, hb, hf⟩ := hrel
    by_cases hlt : k < n
    · obtain ⟨ad, y, rfl, hy, hc⟩ := (RI.below h hb (Nat.le_refl _)).get hlt
      go_wp2_with fail
      refine (put_any A' m cc _ y _ hr hmc (by omega)).mono ?_
      rintro e w' ⟨A2, n2, c2, rfl, h1, h2, h3, h4⟩
      replace hf : Fr w.heap.size A2 := by
        rcases h4 with rfl | h4
        · exact hf
        · exact h4.mono hb.size
      clear h4
      have hlen : n2 ≤ k + 1 := by
        rw [← h2.len, ← of_take hy.out]
        exact of_take_length _ _
      have hr2 : RI w' A2 n2 (ofL (xs.take (k + 1))) := by rw [of_take hy.out]; exact h2
      have hb2 := hb.trans (h3.mono hb.size)
      clear h2 h3 hr hb
      go_wp2
      go_roundw
      case rel => exact ⟨k + 1, n2, c2, A2, by omega, by go_num, rfl, h1, hlen, hr2, hb2, hf⟩
      case measure => simp [intOf]; omega
    · have hfin : RetI w (ofL xs) (.returned (.slice A' m cc)) wr := by
        refine RetI.mk_ hmc ?_ hb hf
        rwa [List.take_of_length_le (by rw [hl.out]; omega)] at hr
      replace hfin := Lib.hid hfin
      clear hr hb
      go_wp2
      go_ret
      exact hfin.out
theorem meet_take {xs ys : List Int} {k : Nat} {y : Int} (h : xs[k]? = some y) (hd : y ∈ ys) : (xs.take (k + 1)).filter (fun x => x ∈ ys) = (xs.take k).filter (fun x => x ∈ ys) ++ [y] := by
  rw [take_at h, List.filter_append]; simp [hd]
theorem meet_skip {xs ys : List Int} {k : Nat} {y : Int} (h : xs[k]? = some y) (hd : ¬ (y ∈ ys)) : (xs.take (k + 1)).filter (fun x => x ∈ ys) = (xs.take k).filter (fun x => x ∈ ys) := by
  rw [take_at h, List.filter_append]; simp [hd]
/-- What two sets have in common. -/
def meetL (xs ys : List Int) : List Int := (ofL xs).filter (fun x => x ∈ ys)
set_option maxHeartbeats 400000 in
theorem meet_any (A A' : Option Addr) (n c n' c' : Nat) (xs ys : List Int) (w : World) (h : RI w A n xs) (hn : n ≤ 1099511627776) (h' : RI w A' n' ys) (hn' : n' ≤ 1099511627776) :
    Calls Tryd.prog 51 #[.slice A n c, .slice A' n' c'] w (RetI w (meetL xs ys)) := by
  have hol : (ofL xs).length ≤ n := by rw [← h.len]; exact of_length xs
  go_enter Tryd.func51, Tryd.ntmps51
  go_wp2_with fail
  refine (of_any A n c xs _ h hn).mono ?_
  rintro e w1 ⟨B, m, cc, rfl, hmc, hr, hb, _⟩
  have hmn : m ≤ n := by rw [← hr.len]; exact hol
  have hml := Lib.hid hr.len
  have hs1 := hb.size
  replace h' := RI.below h' hb (Nat.le_refl _)
  have hdef : meetL xs ys = (ofL xs).filter (fun x => x ∈ ys) := rfl
  generalize ofL xs = zs at *
  replace hdef := Lib.hid hdef
  go_wp2
  go_loopw [5, 11] (fun v i wr => ∃ k : Nat, k ≤ m ∧ i = .int .i64 k ∧ OI wr w1.heap.size v ((zs.take k).filter (fun x => x ∈ ys)) ∧ Below w1.heap.size w1 wr) (fun _ i _ => m - (intOf i).toNat)
  case atStart => exact ⟨0, Nat.zero_le _, rfl, OI.nil_, Below.refl _ _⟩
  case round =>
    obtain ⟨k, hk, rfl, ho, hb1⟩ := hrel
    by_cases hlt : k < m
    · obtain ⟨ad, y, rfl, hy, hc⟩ := (RI.below hr hb1 (Nat.le_refl _)).get hlt
      have hs2 := hb1.size
      have hlen : ((zs.take k).filter (fun x => x ∈ ys)).length ≤ k := Nat.le_trans (List.length_filter_le _ _) (by rw [List.length_take]; omega)
      by_cases hin : y ∈ ys
      · have hin' := Lib.hid (meet_take (ys := ys) hy.out hin)
        have hbool : decide (y ∈ ys) = true := by simpa using hin
        clear hin
        generalize (zs.take k).filter (fun x => x ∈ ys) = us at *
        go_wp2_with fail
        refine (has_any A' n' c' ys y _ (RI.below h' hb1 (Nat.le_refl _)) (by omega)).mono ?_
        rintro e w2 ⟨rfl, rfl⟩
        rw [hbool]
        clear hbool
        go_wp2_with (at_builtin; refine wpList_push rfl _ _ rfl rfl rfl (by simp) ho (by omega) hs2 ?_; intro v' w' ho' hb' hg')
        have hb2 := hb1.trans (hb'.mono (by exact Nat.le_refl _))
        go_roundw
        case rel => exact ⟨k + 1, by omega, by go_num, by rw [hin'.out]; exact ho', hb2⟩
        case measure => simp [intOf]; omega
      · have hin' := Lib.hid (meet_skip (ys := ys) hy.out hin)
        have hbool : decide (y ∈ ys) = false := by simpa using hin
        clear hin
        generalize (zs.take k).filter (fun x => x ∈ ys) = us at *
        go_wp2_with fail
        refine (has_any A' n' c' ys y _ (RI.below h' hb1 (Nat.le_refl _)) (by omega)).mono ?_
        rintro e w2 ⟨rfl, rfl⟩
        rw [hbool]
        clear hbool
        go_wp2
        go_roundw
        case rel => exact ⟨k + 1, by omega, by go_num, by rw [hin'.out]; exact ho, hb1⟩
        case measure => simp [intOf]; omega
    · have hfin : RetI w (meetL xs ys) (.returned u5) wr := by
        rw [hdef.out]
        refine OI.ret (B := w1.heap.size) ?_ (hb.trans (hb1.mono hs1)) hs1
        rwa [List.take_of_length_le (by rw [hml.out]; omega)] at ho
      replace hfin := Lib.hid hfin
      clear ho hb1
      go_wp2
      go_ret
      exact hfin.out

theorem minus_take {xs ys : List Int} {k : Nat} {y : Int} (h : xs[k]? = some y) (hd : y ∉ ys) : (xs.take (k + 1)).filter (fun x => x ∉ ys) = (xs.take k).filter (fun x => x ∉ ys) ++ [y] := by
  rw [take_at h, List.filter_append]; simp [hd]
theorem minus_skip {xs ys : List Int} {k : Nat} {y : Int} (h : xs[k]? = some y) (hd : ¬ (y ∉ ys)) : (xs.take (k + 1)).filter (fun x => x ∉ ys) = (xs.take k).filter (fun x => x ∉ ys) := by
  rw [take_at h, List.filter_append]; simp [hd]
/-- A set without another one. -/
def minusL (xs ys : List Int) : List Int := (ofL xs).filter (fun x => x ∉ ys)
set_option maxHeartbeats 400000 in
theorem minus_any (A A' : Option Addr) (n c n' c' : Nat) (xs ys : List Int) (w : World) (h : RI w A n xs) (hn : n ≤ 1099511627776) (h' : RI w A' n' ys) (hn' : n' ≤ 1099511627776) :
    Calls Tryd.prog 69 #[.slice A n c, .slice A' n' c'] w (RetI w (minusL xs ys)) := by
  have hol : (ofL xs).length ≤ n := by rw [← h.len]; exact of_length xs
  go_enter Tryd.func69, Tryd.ntmps69
  go_wp2_with fail
  refine (of_any A n c xs _ h hn).mono ?_
  rintro e w1 ⟨B, m, cc, rfl, hmc, hr, hb, _⟩
  have hmn : m ≤ n := by rw [← hr.len]; exact hol
  have hml := Lib.hid hr.len
  have hs1 := hb.size
  replace h' := RI.below h' hb (Nat.le_refl _)
  have hdef : minusL xs ys = (ofL xs).filter (fun x => x ∉ ys) := rfl
  generalize ofL xs = zs at *
  replace hdef := Lib.hid hdef
  go_wp2
  go_loopw [5, 11] (fun v i wr => ∃ k : Nat, k ≤ m ∧ i = .int .i64 k ∧ OI wr w1.heap.size v ((zs.take k).filter (fun x => x ∉ ys)) ∧ Below w1.heap.size w1 wr) (fun _ i _ => m - (intOf i).toNat)
  case atStart => exact ⟨0, Nat.zero_le _, rfl, OI.nil_, Below.refl _ _⟩
  case round =>
    obtain ⟨k, hk, rfl, ho, hb1⟩ := hrel
    by_cases hlt : k < m
    · obtain ⟨ad, y, rfl, hy, hc⟩ := (RI.below hr hb1 (Nat.le_refl _)).get hlt
      have hs2 := hb1.size
      have hlen : ((zs.take k).filter (fun x => x ∉ ys)).length ≤ k := Nat.le_trans (List.length_filter_le _ _) (by rw [List.length_take]; omega)
      by_cases hin : y ∉ ys
      · have hin' := Lib.hid (minus_take (ys := ys) hy.out hin)
        have hbool : decide (y ∈ ys) = false := by simpa using hin
        clear hin
        generalize (zs.take k).filter (fun x => x ∉ ys) = us at *
        go_wp2_with fail
        refine (has_any A' n' c' ys y _ (RI.below h' hb1 (Nat.le_refl _)) (by omega)).mono ?_
        rintro e w2 ⟨rfl, rfl⟩
        rw [hbool]
        clear hbool
        go_wp2_with (at_builtin; refine wpList_push rfl _ _ rfl rfl rfl (by simp) ho (by omega) hs2 ?_; intro v' w' ho' hb' hg')
        have hb2 := hb1.trans (hb'.mono (by exact Nat.le_refl _))
        go_roundw
        case rel => exact ⟨k + 1, by omega, by go_num, by rw [hin'.out]; exact ho', hb2⟩
        case measure => simp [intOf]; omega
      · have hin' := Lib.hid (minus_skip (ys := ys) hy.out hin)
        have hbool : decide (y ∈ ys) = true := by simpa using hin
        clear hin
        generalize (zs.take k).filter (fun x => x ∉ ys) = us at *
        go_wp2_with fail
        refine (has_any A' n' c' ys y _ (RI.below h' hb1 (Nat.le_refl _)) (by omega)).mono ?_
        rintro e w2 ⟨rfl, rfl⟩
        rw [hbool]
        clear hbool
        go_wp2
        go_roundw
        case rel => exact ⟨k + 1, by omega, by go_num, by rw [hin'.out]; exact ho, hb1⟩
        case measure => simp [intOf]; omega
    · have hfin : RetI w (minusL xs ys) (.returned u5) wr := by
        rw [hdef.out]
        refine OI.ret (B := w1.heap.size) ?_ (hb.trans (hb1.mono hs1)) hs1
        rwa [List.take_of_length_le (by rw [hml.out]; omega)] at ho
      replace hfin := Lib.hid hfin
      clear ho hb1
      go_wp2
      go_ret
      exact hfin.out

theorem in_step {xs ys : List Int} {k : Nat} {y : Int} (h : xs[k]? = some y) (ha : ∀ x ∈ xs.take k, x ∈ ys) (hy : y ∈ ys) : ∀ x ∈ xs.take (k + 1), x ∈ ys := by
  rw [take_at h]; intro x hx
  rcases List.mem_append.1 hx with hx | hx
  · exact ha x hx
  · rw [List.mem_singleton.1 hx]; exact hy
/-- Lists in order. -/
def cmpL : List Int → List Int → Int
  | [], [] => 0
  | [], _ :: _ => -1
  | _ :: _, [] => 1
  | x :: xs, y :: ys => if y < x then 1 else if x < y then -1 else cmpL xs ys
theorem cmp_zero (xs ys : List Int) : cmpL xs ys = 0 ↔ xs = ys := by
  induction xs generalizing ys with
  | nil => cases ys <;> simp [cmpL]
  | cons x xs ih =>
    cases ys with
    | nil => simp [cmpL]
    | cons y ys =>
      unfold cmpL
      split
      · simp; intro; omega
      · split
        · simp; intro; omega
        · rw [ih, List.cons.injEq]
          constructor
          · intro h; exact ⟨by omega, h⟩
          · intro h; exact h.2
theorem cmp_step {xs ys : List Int} {k : Nat} {x y : Int} (hx : xs[k]? = some x) (hy : ys[k]? = some y) : cmpL (xs.drop k) (ys.drop k) = if y < x then 1 else if x < y then -1 else cmpL (xs.drop (k + 1)) (ys.drop (k + 1)) := by
  rw [drop_at hx, drop_at hy]; rfl
theorem cmp_long {xs ys : List Int} {k : Nat} {x : Int} (hx : xs[k]? = some x) (hy : ys.length ≤ k) : cmpL (xs.drop k) (ys.drop k) = 1 := by
  rw [drop_at hx, List.drop_of_length_le hy]; rfl
theorem cmp_short {xs ys : List Int} {k : Nat} (hx : xs.length ≤ k) : cmpL (xs.drop k) (ys.drop k) = if k < ys.length then -1 else 0 := by
  rw [List.drop_of_length_le hx]
  split
  · rename_i h; rw [List.drop_eq_getElem_cons h]; rfl
  · rename_i h; rw [List.drop_of_length_le (by omega)]; rfl
set_option maxHeartbeats 2000000 in
theorem cmp2_any (A A' : Option Addr) (n c n' c' : Nat) (xs ys : List Int) (w : World) (h : RI w A n xs) (hn : n ≤ 1099511627776) (h' : RI w A' n' ys) (hn' : n' ≤ 1099511627776) :
    Calls Tryd.prog 23 #[.slice A n c, .slice A' n' c'] w fun e w' => e = .returned (.int .i64 (cmpL xs ys)) ∧ ∃ q, w' = w.drewN q := by
  have hl := Lib.hid h.len
  have hl' := Lib.hid h'.len
  go_enter Tryd.func23, Tryd.ntmps23
  go_wp2
  go_loopw [8] (fun i wr => ∃ k q : Nat, k ≤ n ∧ k ≤ n' ∧ i = .int .i64 k ∧ wr = w.drewN q ∧ Hid (cmpL xs ys = cmpL (xs.drop k) (ys.drop k))) (fun i _ => n - (intOf i).toNat)
  case atStart => exact ⟨0, 0, Nat.zero_le _, Nat.zero_le _, rfl, rfl, Lib.hid rfl⟩
  case round =>
    obtain ⟨k, q, hk, hk', rfl, rfl, hd⟩ := hrel
    by_cases hlt : k < n
    · obtain ⟨ad, x, rfl, hx, hc⟩ := h.get hlt
      by_cases hlt' : k < n'
      · obtain ⟨ad', y, rfl, hy, hc'⟩ := h'.get hlt'
        have hd' := Lib.hid (hd.out.trans (cmp_step hx.out hy.out))
        have i0 : (0 : Int) ≤ (k : Int) := Int.natCast_nonneg _
        have i1 : (k : Int) < (n : Int) := by omega
        have i2 : (k : Int) < (n' : Int) := by omega
        have g1 : decide ((n' : Int) ≤ (k : Int)) = false := by simp; omega
        rcases Int.lt_trichotomy y x with hh | rfl | hh
        · have hf : cmpL xs ys = 1 := by rw [hd'.out, if_pos hh]
          replace hf := Lib.hid hf
          go_wp2
          go_quiet (fail)
          go_wp2
          go_ret
          exact ⟨retInt hf.out.symm, _, by first | rfl | rw [World.drewN_drewN, World.drewN_drewN] | rw [World.drewN_drewN]⟩
        · have hf : cmpL xs ys = cmpL (xs.drop (k + 1)) (ys.drop (k + 1)) := by rw [hd'.out, if_neg (by omega), if_neg (by omega)]
          replace hf := Lib.hid hf
          go_wp2
          go_quiet (fail)
          go_wp2
          go_quiet (fail)
          go_wp2
          go_roundw
          case rel => exact ⟨k + 1, _, by omega, by omega, by go_num, rfl, hf⟩
          case measure => simp [intOf]; omega
        · have hf : cmpL xs ys = -1 := by rw [hd'.out, if_neg (by omega), if_pos hh]
          replace hf := Lib.hid hf
          go_wp2
          go_quiet (fail)
          go_wp2
          go_quiet (fail)
          go_wp2
          go_ret
          exact ⟨retInt hf.out.symm, _, by first | rfl | rw [World.drewN_drewN, World.drewN_drewN] | rw [World.drewN_drewN]⟩
      · have g1 : decide ((n' : Int) ≤ (k : Int)) = true := by simp; omega
        have hf : cmpL xs ys = 1 := hd.out.trans (cmp_long hx.out (by rw [hl'.out]; omega))
        replace hf := Lib.hid hf
        go_wp2
        go_quiet (fail)
        go_wp2
        go_ret
        exact ⟨retInt hf.out.symm, _, by first | rfl | rw [World.drewN_drewN, World.drewN_drewN] | rw [World.drewN_drewN]⟩
    · have hf : cmpL xs ys = if k < n' then -1 else 0 := by rw [hd.out, cmp_short (by rw [hl.out]; omega), hl'.out]
      obtain rfl : k = n := by omega
      by_cases hlt' : k < n'
      · rw [if_pos hlt'] at hf
        replace hf := Lib.hid hf
        go_wp2
        go_ret
        exact ⟨retInt hf.out.symm, _, by first | rfl | rw [World.drewN_drewN, World.drewN_drewN] | rw [World.drewN_drewN]⟩
      · rw [if_neg hlt'] at hf
        replace hf := Lib.hid hf
        go_wp2
        go_ret
        exact ⟨retInt hf.out.symm, _, by first | rfl | rw [World.drewN_drewN, World.drewN_drewN] | rw [World.drewN_drewN]⟩

set_option maxHeartbeats 400000 in
theorem same_any (A A' : Option Addr) (n c n' c' : Nat) (xs ys : List Int) (w : World) (h : RI w A n xs) (hn : n ≤ 1099511627776) (h' : RI w A' n' ys) (hn' : n' ≤ 1099511627776) :
    Calls Tryd.prog 60 #[.slice A n c, .slice A' n' c'] w fun e w' => e = .returned (.bool (decide (xs = ys))) ∧ ∃ q, w' = w.drewN q := by
  have hl := h.len
  have hl' := h'.len
  by_cases hq : n = n'
  · subst hq
    clear hl hl'
    go_enter Tryd.func60, Tryd.ntmps60
    go_wp2_with fail
    refine (cmp2_any A A' n c n c' xs ys _ h hn h' hn').mono ?_
    rintro e w' ⟨rfl, q, rfl⟩
    have hz := Lib.hid (cmp_zero xs ys)
    generalize cmpL xs ys = z at *
    go_wp2
    go_ret
    exact ⟨retBool (by rw [Bool.eq_iff_iff]; simp [hz.out]), q, rfl⟩
  · have hne : decide (xs = ys) = false := decide_eq_false (fun e => hq (by rw [← hl, ← hl', e]))
    replace hne := Lib.hid hne
    have hq' : ((n : Int) == (n' : Int)) = false := by simp; omega
    clear hl hl' hq
    go_enter Tryd.func60, Tryd.ntmps60
    go_wp2
    go_ret
    exact ⟨retBool hne.out.symm, 0, rfl⟩
end Go.Proofs.YtknlmgcbdcepnaaDoor
