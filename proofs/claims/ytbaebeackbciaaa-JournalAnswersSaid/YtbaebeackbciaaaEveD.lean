/- Events: the checks of lists. -/
import Derived.Test.YtbaebeackbciaaaEveC
set_option linter.unusedVariables false
set_option linter.unusedSimpArgs false
namespace Go.Proofs.Ytbaebeackbciaaa
open Go.RowKit CoEv

theorem RS.ev {w : World} {A : Option Addr} {n k : Nat} {xs : List Ev} (h : RS EE w A n xs) (hk : k < n) : ∃ ad e, A = some ad ∧ ad.block < w.heap.size ∧ Hid (xs[k]? = some e) ∧
    w.cell? (ad.add (k * 7)) = some (.int .i64 e.k) ∧ w.cell? ⟨(ad.add (k * 7)).block, (ad.add (k * 7)).off + 1, none⟩ = some (.int .i64 e.t) ∧ w.cell? ⟨(ad.add (k * 7)).block, (ad.add (k * 7)).off + 2, none⟩ = some (.int .i64 e.u) ∧
    w.cell? ⟨(ad.add (k * 7)).block, (ad.add (k * 7)).off + 3, none⟩ = some (.int .i64 e.v) ∧ w.cell? ⟨(ad.add (k * 7)).block, (ad.add (k * 7)).off + 4, none⟩ = some (.int .i64 e.w) ∧ w.cell? ⟨(ad.add (k * 7)).block, (ad.add (k * 7)).off + 5, none⟩ = some (.int .i64 e.l) ∧
    w.cell? ⟨(ad.add (k * 7)).block, (ad.add (k * 7)).off + 6, none⟩ = some (.int .i64 e.s) := by
  obtain ⟨ad, e, h1, h2, h3, h4⟩ := h.get hk
  exact ⟨ad, e, h1, h2, h3, h4 0 _ rfl, h4 1 _ rfl, h4 2 _ rfl, h4 3 _ rfl, h4 4 _ rfl, h4 5 _ rfl, h4 6 _ rfl⟩

set_option maxRecDepth 100000 in
set_option maxHeartbeats 2000000 in
theorem echecked_any (A : Option Addr) (n c : Nat) (xs : List Ev) (w : World) (h : RS EE w A n xs) (hn : n ≤ 1099511627776) :
    Calls Try.prog 50 #[.slice A n c] w fun e w' => e = .returned (.int .i64 (chks xs)) ∧ Below w.heap.size w w' := by
  have hl := Lib.hid h.len
  by_cases hbig : 65536 < n
  · have hr : Hid (chks xs = 3) := Lib.hid (by unfold chks; rw [if_pos (by rw [hl.out]; exact hbig)])
    go_enter Try.func50, Try.ntmps50
    go_wp2_with fail
    go_ret
    exact ⟨by rw [hr.out]; rfl, by go_grown⟩
  have hr : Hid (chks xs = first xs) := Lib.hid (by unfold chks; rw [if_neg (by rw [hl.out]; exact hbig)])
  have hb1 : ¬ (65536 : Int) < (n : Int) := by omega
  go_enter Try.func50, Try.ntmps50
  go_wp2_with fail
  go_loopw [11] (fun i wr => ∃ k : Nat, k ≤ n ∧ i = .int .i64 k ∧ Hid (first (xs.take k) = 0) ∧ Below w.heap.size w wr) (fun i _ => n - (intOf i).toNat)
  case atStart => exact ⟨0, Nat.zero_le _, rfl, Lib.hid rfl, Below.refl _ _⟩
  case round =>
    obtain ⟨k, hk, rfl, hx, hb⟩ := hrel
    by_cases hlt : k < n
    · obtain ⟨ad, e, rfl, hbl, hy, c0, c1, c2, c3, c4, c5, c6⟩ := (RS.below h hb (Nat.le_refl _)).ev hlt
      have ke := fun w => echeck_any e w
      have h1 := first_take hx.out hy.out
      have h2 := first_stop hx.out hy.out
      have hs := hb.size
      obtain ⟨k', t, u, v, ww, l, s⟩ := e
      simp only at c0 c1 c2 c3 c4 c5 c6
      rw [show evV ⟨k', t, u, v, ww, l, s⟩ = .agg #[.int .i64 k', .int .i64 t, .int .i64 u, .int .i64 v, .int .i64 ww, .int .i64 l, .int .i64 s] from rfl] at ke
      generalize chk ⟨k', t, u, v, ww, l, s⟩ = C at *
      by_cases hC : C = 0
      · subst hC
        replace ke := Lib.hid ke
        replace h1 := Lib.hid h1
        clear h2 hy hx
        go_wp2_with fail
        (with_reducible refine (ke.out _).mono ?_)
        rintro r w1 ⟨rfl, hb2⟩
        go_wp2_with fail
        go_round
        case rel => exact ⟨k + 1, by omega, by go_num, h1, (hb.alloc (by first | exact hs | simp) _).trans (hb2.mono (by simp; omega))⟩
        case measure => simp [intOf]; omega
      · have h2' := Lib.hid (h2 hC)
        have hCb : (C != 0) = true := by simpa using hC
        replace hC := Lib.hid hC
        replace ke := Lib.hid ke
        clear h1 h2 hy hx
        go_wp2_with fail
        (with_reducible refine (ke.out _).mono ?_)
        rintro r w1 ⟨rfl, hb2⟩
        go_wp2_with fail
        go_ret
        exact ⟨by rw [hr.out, h2'.out]; rfl, (hb.alloc (by first | exact hs | simp) _).trans (hb2.mono (by simp; omega))⟩
    · obtain rfl : k = n := by omega
      have hf : Hid (first xs = 0) := Lib.hid (by have := hx.out; rwa [← hl.out, List.take_length] at this)
      go_wp2_with fail
      go_ret
      exact ⟨by rw [hr.out, hf.out]; rfl, hb⟩

set_option maxRecDepth 100000 in
set_option maxHeartbeats 2000000 in
theorem rcheckall_any (A : Option Addr) (n c : Nat) (xs : List Ev) (w : World) (h : RS EE w A n xs) (hn : n ≤ 1099511627776) :
    Calls Try.prog 52 #[.slice A n c] w fun e w' => e = .returned (.int .i64 (chks xs)) ∧ Below w.heap.size w w' := by
  have hl := Lib.hid h.len
  by_cases hbig : 65536 < n
  · have hr : Hid (chks xs = 3) := Lib.hid (by unfold chks; rw [if_pos (by rw [hl.out]; exact hbig)])
    go_enter Try.func52, Try.ntmps52
    go_wp2_with fail
    go_ret
    exact ⟨by rw [hr.out]; rfl, by go_grown⟩
  have hr : Hid (chks xs = first xs) := Lib.hid (by unfold chks; rw [if_neg (by rw [hl.out]; exact hbig)])
  have hb1 : ¬ (65536 : Int) < (n : Int) := by omega
  go_enter Try.func52, Try.ntmps52
  go_wp2_with fail
  go_loopw [11] (fun i wr => ∃ k : Nat, k ≤ n ∧ i = .int .i64 k ∧ Hid (first (xs.take k) = 0) ∧ Below w.heap.size w wr) (fun i _ => n - (intOf i).toNat)
  case atStart => exact ⟨0, Nat.zero_le _, rfl, Lib.hid rfl, Below.refl _ _⟩
  case round =>
    obtain ⟨k, hk, rfl, hx, hb⟩ := hrel
    by_cases hlt : k < n
    · obtain ⟨ad, e, rfl, hbl, hy, c0, c1, c2, c3, c4, c5, c6⟩ := (RS.below h hb (Nat.le_refl _)).ev hlt
      have ke := fun w => rcheck4_any e w
      have h1 := first_take hx.out hy.out
      have h2 := first_stop hx.out hy.out
      have hs := hb.size
      obtain ⟨k', t, u, v, ww, l, s⟩ := e
      simp only at c0 c1 c2 c3 c4 c5 c6
      rw [show evV ⟨k', t, u, v, ww, l, s⟩ = .agg #[.int .i64 k', .int .i64 t, .int .i64 u, .int .i64 v, .int .i64 ww, .int .i64 l, .int .i64 s] from rfl] at ke
      generalize chk ⟨k', t, u, v, ww, l, s⟩ = C at *
      by_cases hC : C = 0
      · subst hC
        replace ke := Lib.hid ke
        replace h1 := Lib.hid h1
        clear h2 hy hx
        go_wp2_with fail
        (with_reducible refine (ke.out _).mono ?_)
        rintro r w1 ⟨rfl, hb2⟩
        go_wp2_with fail
        go_round
        case rel => exact ⟨k + 1, by omega, by go_num, h1, (hb.alloc (by first | exact hs | simp) _).trans (hb2.mono (by simp; omega))⟩
        case measure => simp [intOf]; omega
      · have h2' := Lib.hid (h2 hC)
        have hCb : (C != 0) = true := by simpa using hC
        replace hC := Lib.hid hC
        replace ke := Lib.hid ke
        clear h1 h2 hy hx
        go_wp2_with fail
        (with_reducible refine (ke.out _).mono ?_)
        rintro r w1 ⟨rfl, hb2⟩
        go_wp2_with fail
        go_ret
        exact ⟨by rw [hr.out, h2'.out]; rfl, (hb.alloc (by first | exact hs | simp) _).trans (hb2.mono (by simp; omega))⟩
    · obtain rfl : k = n := by omega
      have hf : Hid (first xs = 0) := Lib.hid (by have := hx.out; rwa [← hl.out, List.take_length] at this)
      go_wp2_with fail
      go_ret
      exact ⟨by rw [hr.out, hf.out]; rfl, hb⟩
end Go.Proofs.Ytbaebeackbciaaa
