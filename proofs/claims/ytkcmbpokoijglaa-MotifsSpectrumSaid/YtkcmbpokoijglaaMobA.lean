/- The reference's Check of ticks. -/
import Derived.Test.YtkcmbpokoijglaaMotD
import Derived.BigQuiet
set_option linter.unusedVariables false
set_option linter.unusedSimpArgs false
namespace CoMot
/-- The time of the tick before. -/
def lastT (l : List Tick) (k : Nat) : Int := if k = 0 then 0 else ((l[k - 1]?.map (·.t)).getD 0)
end CoMot
namespace Go.Proofs.Ytkcmbpokoijglaa
open Go.RowKit CoMot

attribute [local irreducible] wpQuiet
theorem wrap_near {a : Int} (h : -1000000 ≤ a) (h2 : a ≤ 1000000) : IntKind.i64.wrap a = a := IntWalk.i64_in _ ⟨by omega, by omega⟩
set_option maxRecDepth 100000 in
set_option maxHeartbeats 8000000 in
theorem rcheck31_any (A : Option Addr) (n c : Nat) (l : List Tick) (w : World) (h : RS TE w A n l) (hn : n ≤ 1099511627776) :
    Calls Try.prog 23 #[.slice A n c] w fun e w' => e = .returned (.int .i64 (chkL l)) ∧ Below w.heap.size w w' := by
  have hl := Lib.hid h.len
  by_cases hbig : 4096 < n
  · have hr : Hid (chkL l = 3) := Lib.hid (by unfold chkL; rw [if_pos (by rw [hl.out]; exact hbig)])
    go_enter Try.func23, Try.ntmps23
    go_wp2_with fail
    go_ret
    exact ⟨by rw [hr.out]; rfl, Below.refl _ _⟩
  have hr : Hid (chkL l = chkT (lastT l 0) (l.drop 0)) := Lib.hid (by unfold chkL; rw [if_neg (by rw [hl.out]; exact hbig)]; rfl)
  have hb1 : ¬ (4096 : Int) < (n : Int) := by omega
  go_enter Try.func23, Try.ntmps23
  go_wp2_with fail
  go_loopw [3] (fun i wr => ∃ k : Nat, k ≤ n ∧ i = .int .i64 k ∧ Hid (chkL l = chkT (lastT l k) (l.drop k)) ∧ Hid (0 ≤ lastT l k) ∧ Below w.heap.size w wr) (fun i _ => n - (intOf i).toNat)
  case atStart => exact ⟨0, Nat.zero_le _, rfl, hr, Lib.hid (Int.le_refl _), Below.refl _ _⟩
  case round =>
    obtain ⟨k, hk, rfl, hx, hx0, hb⟩ := hrel
    have hs := hb.size
    by_cases hlt : k < n
    · obtain ⟨ad, x, y, t, rfl, hbl, hy, hdr, c0, c1, c2⟩ := (h.below hb (Nat.le_refl _)).tk' hlt
      have h1 := hx.out
      have h10 := hx0.out
      rw [hdr] at h1
      unfold chkT at h1
      simp only at h1
      have hnd : ∀ z : Int, nd z = false ↔ ¬ (0 ≤ z ∧ z < 64) := fun z => by unfold nd; simp
      have hA : (¬ (0 ≤ x ∧ x < 64) ∨ ¬ (0 ≤ y ∧ y < 64) ∨ x = y) → chkL l = 6 := fun hh => by
        rw [if_pos (by rw [hnd, hnd]; exact hh)] at h1; exact h1
      have hB : ¬ (¬ (0 ≤ x ∧ x < 64) ∨ ¬ (0 ≤ y ∧ y < 64) ∨ x = y) → chkL l = if t < lastT l k ∨ 1048576 < t then 9 else chkT t (l.drop (k + 1)) := fun hh => by
        rw [if_neg (by rw [hnd, hnd]; exact hh)] at h1; exact h1
      have hnext : lastT l (k + 1) = t := by unfold lastT; rw [if_neg (by omega), Nat.add_sub_cancel, hy]; rfl
      have i2 : (0 : Int) ≤ (k : Int) := Int.natCast_nonneg _
      have i3 : (k : Int) < (n : Int) := by omega
      have bA := hb.alloc hs (.cells #[.int .i64 x, .int .i64 y, .int .i64 t] 33)
      have hways : (decide (x < 0) = true ∧ chkL l = 6) ∨ (decide (x < 0) = false ∧ decide (64 ≤ x) = true ∧ chkL l = 6) ∨ (decide (x < 0) = false ∧ decide (64 ≤ x) = false ∧ decide (y < 0) = true ∧ chkL l = 6) ∨ (decide (x < 0) = false ∧ decide (64 ≤ x) = false ∧ decide (y < 0) = false ∧ decide (64 ≤ y) = true ∧ chkL l = 6) ∨ (decide (x < 0) = false ∧ decide (64 ≤ x) = false ∧ decide (y < 0) = false ∧ decide (64 ≤ y) = false ∧ x = y ∧ chkL l = 6) ∨
          (decide (x < 0) = false ∧ decide (64 ≤ x) = false ∧ decide (y < 0) = false ∧ decide (64 ≤ y) = false ∧ x ≠ y ∧ chkL l = if t < lastT l k ∨ 1048576 < t then 9 else chkT t (l.drop (k + 1))) := by
        simp only [decide_eq_true_eq, decide_eq_false_iff_not]
        by_cases e1 : x < 0
        · exact .inl ⟨e1, hA (by omega)⟩
        by_cases e2 : 64 ≤ x
        · exact .inr (.inl ⟨e1, e2, hA (by omega)⟩)
        by_cases e3 : y < 0
        · exact .inr (.inr (.inl ⟨e1, e2, e3, hA (by omega)⟩))
        by_cases e4 : 64 ≤ y
        · exact .inr (.inr (.inr (.inl ⟨e1, e2, e3, e4, hA (by omega)⟩)))
        by_cases e5 : x = y
        · exact .inr (.inr (.inr (.inr (.inl ⟨e1, e2, e3, e4, e5, hA (by omega)⟩))))
        · exact .inr (.inr (.inr (.inr (.inr ⟨e1, e2, e3, e4, e5, hB (by omega)⟩))))
      clear h1 hx hdr hr hnd hA hB
      rcases hways with ⟨q1, hR⟩ | ⟨q1, q2, hR⟩ | ⟨q1, q2, q3, hR⟩ | ⟨q1, q2, q3, q4, hR⟩ | ⟨q1, q2, q3, q4, q5, hR⟩ | ⟨q1, q2, q3, q4, q5, hR⟩
      · replace hR := Lib.hid hR
        replace hnext := Lib.hid hnext
        replace h10 := Lib.hid h10
        clear hy
        go_wp2_with fail
        go_ret
        exact ⟨by rw [hR.out]; rfl, bA⟩
      · replace hR := Lib.hid hR
        replace hnext := Lib.hid hnext
        replace h10 := Lib.hid h10
        clear hy
        go_wp2_with fail
        go_ret
        exact ⟨by rw [hR.out]; rfl, bA⟩
      · replace hR := Lib.hid hR
        replace hnext := Lib.hid hnext
        replace h10 := Lib.hid h10
        clear hy
        go_wp2_with fail
        go_ret
        exact ⟨by rw [hR.out]; rfl, bA⟩
      · replace hR := Lib.hid hR
        replace hnext := Lib.hid hnext
        replace h10 := Lib.hid h10
        clear hy
        go_wp2_with fail
        go_ret
        exact ⟨by rw [hR.out]; rfl, bA⟩
      · replace hR := Lib.hid hR
        have q6 : (x == y) = true := by rw [q5]; simp
        replace q5 := Lib.hid q5
        replace hnext := Lib.hid hnext
        replace h10 := Lib.hid h10
        clear hy
        go_wp2_with fail
        go_ret
        exact ⟨by rw [hR.out]; rfl, bA⟩
      · have q6 : (x == y) = false := by simp [q5]
        replace q5 := Lib.hid q5
        have B0 := Blk.new wr 33 #[.int .i64 x, .int .i64 y, .int .i64 t]
        have hways2 : (decide (t < 0) = true ∧ chkL l = 9) ∨ (decide (t < 0) = false ∧ decide (1048576 < t) = true ∧ chkL l = 9) ∨ (decide (t < 0) = false ∧ decide (1048576 < t) = false ∧ ¬ t < 0 ∧ ((k = 0 ∧ chkL l = chkT t (l.drop (k + 1))) ∨ (0 < k ∧ decide (t < lastT l k) = true ∧ chkL l = 9) ∨ (0 < k ∧ decide (t < lastT l k) = false ∧ chkL l = chkT t (l.drop (k + 1))))) := by
          simp only [decide_eq_true_eq, decide_eq_false_iff_not]
          by_cases e1 : t < 0
          · rw [if_pos (by omega)] at hR; exact .inl ⟨e1, hR⟩
          by_cases e2 : 1048576 < t
          · rw [if_pos (by omega)] at hR; exact .inr (.inl ⟨e1, e2, hR⟩)
          by_cases e3 : k = 0
          · have : lastT l k = 0 := by unfold lastT; rw [if_pos e3]
            rw [if_neg (by omega)] at hR; exact .inr (.inr ⟨e1, e2, e1, .inl ⟨e3, hR⟩⟩)
          by_cases e4 : t < lastT l k
          · rw [if_pos (by omega)] at hR; exact .inr (.inr ⟨e1, e2, e1, .inr (.inl ⟨by omega, e4, hR⟩)⟩)
          · rw [if_neg (by omega)] at hR; exact .inr (.inr ⟨e1, e2, e1, .inr (.inr ⟨by omega, e4, hR⟩)⟩)
        clear hR hy
        replace h10 := Lib.hid h10
        have hfar : ∀ (p : Addr) (v : Value), p.block < wr.heap.size → wr.cell? p = some v → (wr.alloc (.cells #[.int .i64 x, .int .i64 y, .int .i64 t] 33)).cell? p = some v := fun p v hp hv => (((Below.refl wr.heap.size wr).alloc (Nat.le_refl _) (.cells #[.int .i64 x, .int .i64 y, .int .i64 t] 33)).cell hp).trans hv
        have hr' := (h.below hb (Nat.le_refl _))
        go_upto_region 9 with fail
        have hfar' := hfar
        obtain ⟨hz2, hz3⟩ : (wr.alloc (.cells #[.int .i64 x, .int .i64 y, .int .i64 t] 33)).cell? ⟨wr.heap.size, 2, none⟩ = some (.int .i64 t) ∧ True := ⟨Blk.cell B0 2, trivial⟩
        generalize wr.alloc (.cells #[.int .i64 x, .int .i64 y, .int .i64 t] 33) = wz at *
        generalize wr.heap.size = H at *
        clear hz3 hfar B0 c0 c1 c2 q1 q2 q3 q4 q6
        rcases hways2 with ⟨q1, hR⟩ | ⟨q1, q2, hR⟩ | ⟨q1, q2, q3, hR⟩
        · replace hR := Lib.hid hR
          replace hnext := Lib.hid hnext
          clear hfar' hr'
          go_quiet (fail)
          go_wp2_with fail
          go_ret
          exact ⟨by rw [hR.out]; rfl, below_drewN bA _⟩
        · replace hR := Lib.hid hR
          replace hnext := Lib.hid hnext
          clear hfar' hr'
          go_quiet (fail)
          go_wp2_with fail
          go_ret
          exact ⟨by rw [hR.out]; rfl, below_drewN bA _⟩
        · rcases hR with ⟨e3, hR⟩ | ⟨e3, q5, hR⟩ | ⟨e3, q5, hR⟩
          · subst e3
            have q4 : decide ((0 : Int) < ((0 : Nat) : Int)) = false := rfl
            replace hR := Lib.hid hR
            replace hnext := Lib.hid hnext
            clear hfar' hr'
            go_quiet (fail)
            go_wp2_with fail
            go_roundw
            case rel => exact ⟨0 + 1, by omega, by go_num, by rw [hnext.out]; exact hR, by rw [hnext.out]; exact Lib.hid (by omega), below_drewN bA _⟩
            case measure => simp [intOf]; omega
          · obtain ⟨j, rfl⟩ : ∃ j, k = j + 1 := ⟨k - 1, by omega⟩
            obtain ⟨ad', x', y', t', had, hbl', hy', -, c0', c1', c2'⟩ := hr'.tk' (show j < n by omega)
            injection had with had; subst had
            have elt : lastT l (j + 1) = t' := by unfold lastT; rw [if_neg (by omega), Nat.add_sub_cancel, hy']; rfl
            rw [elt] at q5
            have d2 := hfar' _ _ (by show (ad.add (j * 3)).block < _; rw [block_of_add]; exact hbl) c2'
            have q4 : decide ((0 : Int) < (j : Int) + 1) = true := decide_eq_true (by omega)
            have w1 : IntKind.i64.wrap ((j : Int) + 1 - 1) = (j : Int) := by rw [wrap_near (by omega) (by omega)]; omega
            have w2 : IntKind.i64.wrap (j : Int) = (j : Int) := wrap_near (by omega) (by omega)
            have j2 : (0 : Int) ≤ (j : Int) := Int.natCast_nonneg _
            have j3 : (j : Int) < (n : Int) := by omega
            replace hR := Lib.hid hR
            replace hnext := Lib.hid hnext
            clear hfar' hr' hy' c0' c1' c2' elt
            go_quiet (fail)
            go_wp2_with fail
            go_ret
            exact ⟨by rw [hR.out]; rfl, below_drewN bA _⟩
          · obtain ⟨j, rfl⟩ : ∃ j, k = j + 1 := ⟨k - 1, by omega⟩
            obtain ⟨ad', x', y', t', had, hbl', hy', -, c0', c1', c2'⟩ := hr'.tk' (show j < n by omega)
            injection had with had; subst had
            have elt : lastT l (j + 1) = t' := by unfold lastT; rw [if_neg (by omega), Nat.add_sub_cancel, hy']; rfl
            rw [elt] at q5
            have d2 := hfar' _ _ (by show (ad.add (j * 3)).block < _; rw [block_of_add]; exact hbl) c2'
            have q4 : decide ((0 : Int) < (j : Int) + 1) = true := decide_eq_true (by omega)
            have w1 : IntKind.i64.wrap ((j : Int) + 1 - 1) = (j : Int) := by rw [wrap_near (by omega) (by omega)]; omega
            have w2 : IntKind.i64.wrap (j : Int) = (j : Int) := wrap_near (by omega) (by omega)
            have j2 : (0 : Int) ≤ (j : Int) := Int.natCast_nonneg _
            have j3 : (j : Int) < (n : Int) := by omega
            replace hR := Lib.hid hR
            replace hnext := Lib.hid hnext
            clear hfar' hr' hy' c0' c1' c2' elt
            go_quiet (fail)
            go_wp2_with fail
            go_roundw
            case rel => exact ⟨j + 1 + 1, by omega, by go_num, by rw [hnext.out]; exact hR, by rw [hnext.out]; exact Lib.hid (by omega), below_drewN bA _⟩
            case measure => simp [intOf]; omega
    · obtain rfl : k = n := by omega
      have hR : Hid (chkL l = 0) := Lib.hid (by rw [hx.out, List.drop_of_length_le (by rw [hl.out]; exact Nat.le_refl _)]; rfl)
      clear hx hx0
      go_wp2_with fail
      go_ret
      exact ⟨by rw [hR.out]; rfl, hb⟩
end Go.Proofs.Ytkcmbpokoijglaa
