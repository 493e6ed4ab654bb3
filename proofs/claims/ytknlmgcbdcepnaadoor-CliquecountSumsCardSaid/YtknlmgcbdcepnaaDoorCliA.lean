/- Package cliquecount: the sets of neighbours, what lies behind a node, and the count of cliques. -/
import Derived.Test.YtknlmgcbdcepnaaDoorCliM
import Derived.Test.YtknlmgcbdcepnaaDoorRowM
import Derived.Laws.BitsAllLaws
set_option linter.unusedVariables false
set_option linter.unusedSimpArgs false
namespace Go.Proofs.YtknlmgcbdcepnaaDoor
open Go.RowKit CoBit CoCli

/-- The nodes of a set behind a node. -/
def beh (x v : Nat) : Nat := x &&& (18446744073709551615 - (2 ^ (v + 1) - 1))
theorem beh_lt {x v : Nat} (h : x < 18446744073709551616) : beh x v < 18446744073709551616 := and_lt' h
theorem beh_bit {x v : Nat} (hx : x < 18446744073709551616) (hv : v < 64) (i : Nat) : (beh x v).testBit i = (x.testBit i && decide (v < i)) := by
  unfold beh
  have h1 : (2 : Nat) ^ (v + 1) ≤ 2 ^ 64 := Nat.pow_le_pow_right (by omega) (by omega)
  have h0 : 0 < (2 : Nat) ^ (v + 1) := Nat.two_pow_pos _
  have e64 : (2 : Nat) ^ 64 = 18446744073709551616 := by decide +kernel
  have h2 : 18446744073709551615 - (2 ^ (v + 1) - 1) = 2 ^ 64 - (2 ^ (v + 1) - 1 + 1) := by rw [e64]; omega
  rw [Nat.testBit_and, h2, Nat.testBit_two_pow_sub_succ (by omega), Nat.testBit_two_pow_sub_one]
  by_cases hi : i < 64
  · have e : decide (i < v + 1) = !decide (v < i) := by rw [Bool.eq_iff_iff]; simp; omega
    rw [e]
    simp [hi]
  · have : x.testBit i = false := Nat.testBit_lt_two_pow (Nat.lt_of_lt_of_le (show x < 2 ^ 64 by rw [e64]; exact hx) (Nat.pow_le_pow_right (by omega) (by omega)))
    simp [this]
theorem wrap_two {v : Nat} (h : v < 64) : IntKind.u64.wrap (IntKind.u64.wrap (2 * (2 : Int) ^ v) - 1) = ((2 ^ (v + 1) - 1 : Nat) : Int) := by
  have hp : (2 : Nat) ^ (v + 1) = 2 * 2 ^ v := by rw [Nat.pow_succ]; omega
  have h1 : (2 : Nat) ^ v ≤ 2 ^ 63 := Nat.pow_le_pow_right (by omega) (by omega)
  have h0 : 0 < (2 : Nat) ^ v := Nat.two_pow_pos _
  have e63 : (2 : Nat) ^ 63 = 9223372036854775808 := by decide +kernel
  have e : 2 * (2 : Int) ^ v = ((2 ^ (v + 1) : Nat) : Int) := by rw [hp]; simp
  rw [e]
  generalize 2 ^ (v + 1) = p at *
  generalize 2 ^ v = q at *
  rw [IntKind.wrap_u64, IntKind.wrap_u64]
  omega
set_option maxHeartbeats 400000 in
theorem behind_any (x v : Nat) (hx : x < 18446744073709551616) (hv : v < 64) (w : World) :
    Calls Tryd.prog 45 #[.int .u64 x, .int .i64 v] w fun e w' => e = .returned (.int .u64 (beh x v : Nat)) ∧ w = w' := by
  have h1 := wrap_two hv
  have h3 : 2 ^ (v + 1) - 1 < 18446744073709551616 := by
    have : (2 : Nat) ^ (v + 1) ≤ 2 ^ 64 := Nat.pow_le_pow_right (by omega) (by omega)
    have e64 : (2 : Nat) ^ 64 = 18446744073709551616 := by decide +kernel
    have h0 : 0 < (2 : Nat) ^ (v + 1) := Nat.two_pow_pos _
    omega
  have h2 := u64_andNot_nat x (2 ^ (v + 1) - 1) hx h3
  have h4 : x &&& (18446744073709551615 - (2 ^ (v + 1) - 1)) = beh x v := rfl
  rw [h4] at h2
  rw [← h1] at h2
  clear h4 h3 h1
  go_enter Tryd.func45, Tryd.ntmps45
  go_wp2
  go_ret
  exact ⟨rfl, rfl⟩

/-- Two nodes are neighbours. -/
def ad (rows : List Nat) (u v : Nat) : Bool := (rows.getD u 0).testBit v
theorem filter_behind {L l t : List Nat} {v : Nat} (h : L.Pairwise (· < ·)) (he : L = l ++ v :: t) : (L.filter fun i => decide (v < i)) = t := by
  subst he
  rw [List.pairwise_append] at h
  obtain ⟨h1, h2, h3⟩ := h
  rw [List.pairwise_cons] at h2
  rw [List.filter_append, List.filter_eq_nil_iff.2 (fun x hx => by have := h3 x hx v (by simp); simp; omega), List.nil_append, List.filter_cons, if_neg (by simp)]
  exact List.filter_eq_self.2 fun x hx => by simpa using h2.1 x hx
theorem bl_beh {x v : Nat} (hx : x < 18446744073709551616) (hv : v < 64) : bl (beh x v) = (bl x).filter fun i => decide (v < i) := by
  unfold bl bitsIn
  rw [List.filter_filter]
  exact List.filter_congr fun i _ => by rw [beh_bit hx hv, Bool.and_comm]
theorem bl_next {x v r : Nat} {l t : List Nat} (hx : x < 18446744073709551616) (he : bl x = l ++ v :: t) : bl (beh x v &&& r) = t.filter fun i => r.testBit i := by
  have hv : v < 64 := (mem_bl.1 (show v ∈ bl x by rw [he]; simp)).1
  rw [bl_and, bl_beh hx hv, filter_behind (bl_sorted x) he]
theorem ch_le (n k : Nat) : ch n k ≤ (n + 1) ^ k := by
  induction n generalizing k with
  | zero => cases k with
    | zero => rw [ch_zero]; simp
    | succ k => exact Nat.zero_le _
  | succ n ih => cases k with
    | zero => rw [ch_zero]; simp
    | succ k =>
      rw [ch_succ]
      have h1 := ih k
      have h2 := ih (k + 1)
      have h3 : (n + 1) ^ k ≤ (n + 1 + 1) ^ k := Nat.pow_le_pow_left (by omega) k
      rw [Nat.pow_succ] at h2 ⊢
      have h4 : (n + 1) ^ k * (n + 1) ≤ (n + 1 + 1) ^ k * (n + 1) := Nat.mul_le_mul_right _ h3
      have h5 : (n + 1 + 1) ^ k * (n + 1 + 1) = (n + 1 + 1) ^ k * (n + 1) + (n + 1 + 1) ^ k := Nat.mul_succ _ _
      rw [h5]
      generalize (n + 1 + 1) ^ k * (n + 1) = p at *
      generalize (n + 1) ^ k * (n + 1) = q at *
      omega
theorem cl_bd (a : Nat → Nat → Bool) (k : Nat) (hk : k ≤ 6) (x : Nat) : cl a k (bl x) ≤ 281474976710656 := by
  have h1 := cl_le_ch a k (bl x)
  have h2 := ch_mono k (bl_length x)
  have h3 := ch_le 64 k
  have h4 : (64 + 1) ^ k ≤ 65 ^ 6 := Nat.pow_le_pow_right (by omega) hk
  have h5 : 65 ^ 6 ≤ 281474976710656 := by decide +kernel
  omega

theorem behind_q (x v : Nat) (hx : x < 18446744073709551616) (hv : v < 64) (w : World) :
    Calls Tryd.prog 45 #[.int .u64 x, .int .i64 v] w fun e w' => e = .returned (.int .u64 (beh x v : Nat)) ∧ w' = w := (behind_any x v hx hv w).mono fun _ _ ⟨h1, h2⟩ => ⟨h1, h2.symm⟩
set_option maxRecDepth 100000 in
set_option maxHeartbeats 1000000 in
theorem cnt_any (gr n : Nat) (rows : List Nat) (hl : rows.length = n) (hrl : ∀ x ∈ rows, x < 18446744073709551616) (k : Nat) : k ≤ 6 → ∀ (x : Nat) (w : World), x < 18446744073709551616 → (∀ i, x.testBit i = true → i < n) → Tab w → AU w gr rows →
    Calls Tryd.prog 53 #[.slice (some ⟨gr, 0, none⟩) n n, .int .u64 x, .int .i64 k] w fun e w' => e = .returned (.int .i64 (cl (ad rows) k (bl x) : Nat)) ∧ ∃ q, w' = w.drewN q := by
  induction k with
  | zero =>
    intro hk x w hx hxn hT hA
    go_enter Tryd.func53, Tryd.ntmps53
    go_wp2_with fail
    go_ret
    exact ⟨rfl, 0, rfl⟩
  | succ k ih =>
    intro hk x w hx hxn hT hA
    by_cases hk0 : k = 0
    · subst hk0
      have h1 : cl (ad rows) 1 (bl x) = pop x := by rw [cl_one, pop_bl]
      replace h1 := Lib.hid h1
      go_enter Tryd.func53, Tryd.ntmps53
      go_wp2_with (go_at_call 43; refine (ones_any x hx _).mono ?_; rintro e w' ⟨rfl, rfl⟩)
      go_ret
      exact ⟨retInt (by rw [h1.out]), 0, rfl⟩
    · have ih' := ih (by omega)
      clear ih
      have q1 : (((k + 1 : Nat) : Int) == 0) = false := by rw [beq_eq_false_iff_ne]; omega
      have q2 : (((k + 1 : Nat) : Int) == 1) = false := by rw [beq_eq_false_iff_ne]; omega
      have hbd := cl_bd (ad rows) (k + 1) hk x
      have i3 : IntKind.i64.wrap (((k + 1 : Nat) : Int) - 1) = (k : Int) := by rw [show ((k + 1 : Nat) : Int) - 1 = (k : Int) by omega]; exact IntWalk.i64_in _ ⟨by omega, by omega⟩
      obtain ⟨K, hK⟩ : ∃ K : Int, K = ((k + 1 : Nat) : Int) := ⟨_, rfl⟩
      have hKn : K ≤ 6 := by omega
      have hKp : 2 ≤ K := by omega
      rw [← hK] at q1 q2 i3 ⊢
      replace hK := Lib.hid hK
      go_enter Tryd.func53, Tryd.ntmps53
      go_wp2_with fail
      go_loopw [7, 8] (fun s v wr => ∃ (y m : Nat) (l : List Nat), s = .int .i64 y ∧ v = .int .u64 m ∧ m < 18446744073709551616 ∧ Hid (bl x = l ++ bl m) ∧ Hid (y + cl (ad rows) (k + 1) (bl m) = cl (ad rows) (k + 1) (bl x)) ∧ Hid (∃ q, wr = w.drewN q)) (fun _ v _ => (intOf v).toNat)
      case atStart => exact ⟨0, x, [], rfl, rfl, hx, Lib.hid rfl, Lib.hid (by omega), Lib.hid ⟨0, rfl⟩⟩
      case round =>
        obtain ⟨y, m, l, rfl, rfl, hm, hl1, hy, hw⟩ := hrel
        have hAr : AU wr gr rows := by obtain ⟨q, rfl⟩ := hw.out; exact hA
        have hTr : Tab wr := by obtain ⟨q, rfl⟩ := hw.out; exact hT
        by_cases h0 : 0 < m
        · have hz : ((m : Int) != 0) = true := by simp; omega
          have hst := bl_step h0 hm
          have hl2 : bl x = l ++ Lib.ctz 64 m :: bl (m &&& (m - 1)) := by rw [hl1.out, hst]
          have hin : Lib.ctz 64 m ∈ bl x := by rw [hl2]; simp
          rw [mem_bl] at hin
          have hlt := and_pred_lt h0
          have hlt2 := and_lt' (y := m - 1) hm
          have hand := bits_and_u64_nat m (m - 1) hm (by omega)
          have hsub : IntKind.u64.wrap ((m : Int) - 1) = ((m - 1 : Nat) : Int) := by rw [show (m : Int) - 1 = ((m - 1 : Nat) : Int) by omega]; exact u64_in _ (by omega)
          have hl3 : bl x = (l ++ [Lib.ctz 64 m]) ++ bl (m &&& (m - 1)) := by rw [hl2]; simp
          have hzn := hxn _ hin.2
          have hz64 := hin.1
          have hcm : cl (ad rows) (k + 1) (bl m) = cl (ad rows) k ((bl (m &&& (m - 1))).filter (ad rows (Lib.ctz 64 m))) + cl (ad rows) (k + 1) (bl (m &&& (m - 1))) := by rw [hst, cl_cons]
          have htz := fun w hT => tz_any m h0 hm w hT
          clear hin hst
          generalize Lib.ctz 64 m = z at *
          generalize m &&& (m - 1) = m' at *
          have hnx := bl_next (r := rows.getD z 0) hx hl2
          have hr64 := getD_lt hrl z
          have hbz := beh_lt (v := z) hx
          have hand2 := bits_and_u64_nat (beh x z) (rows.getD z 0) hbz hr64
          have hbr := and_lt (x := beh x z) hr64
          have hcz := hAr.cell (i := z) (by omega)
          have hsubn : ∀ i, (beh x z &&& rows.getD z 0).testBit i = true → i < n := fun i hi => by
            rw [Nat.testBit_and, beh_bit hx hz64] at hi
            simp at hi
            exact hxn i hi.1.1
          have hic := fun w hT hA => ih' (beh x z &&& rows.getD z 0) w hbr hsubn hT hA
          have hbe := behind_q x z hx hz64
          have hnx' : bl (beh x z &&& rows.getD z 0) = (bl m').filter (ad rows z) := hnx
          rw [hnx'] at hic
          have hyb := hy.out
          have hcb : y + cl (ad rows) k ((bl m').filter (ad rows z)) ≤ 281474976710656 := by omega
          have hyy : y + cl (ad rows) k ((bl m').filter (ad rows z)) + cl (ad rows) (k + 1) (bl m') = cl (ad rows) (k + 1) (bl x) := by omega
          clear hl1 hl2 hy hyb hcm hnx hnx' ih'
          generalize beh x z &&& rows.getD z 0 = X at *
          generalize beh x z = bz at *
          generalize rows.getD z 0 = rz at *
          generalize cl (ad rows) k ((bl m').filter (ad rows z)) = C at *
          replace hyy := Lib.hid hyy
          replace hl3 := Lib.hid hl3
          replace hic := Lib.hid hic
          replace hbe := Lib.hid hbe
          replace htz := Lib.hid htz
          have i0 : (0 : Int) ≤ (z : Int) := Int.natCast_nonneg _
          have i1 : (z : Int) < (n : Int) := by omega
          go_wp2_with fail
          refine (htz.out _ hTr).mono ?_
          rintro e w1 ⟨rfl, rfl⟩
          go_wp2_with fail
          go_quiet ((first | (go_at_call 45; exact Calls.quiet_of_same (hbe.out _)) | (go_at_call 53; exact Calls.quiet_of (hic.out _ (Tab.drewN hTr _) (AU.drewN hAr _)))))
          go_wp2_with fail
          go_roundw
          case rel => exact ⟨y + C, m', _, by go_num, rfl, hlt2, hl3, hyy, Lib.hid (by obtain ⟨q, rfl⟩ := hw.out; exact ⟨_, World.drewN_drewN ..⟩)⟩
          case measure => simp [intOf]; omega
        · have hz : ((m : Int) != 0) = false := by simp; omega
          have hfin : ((y : Nat) : Int) = ((cl (ad rows) (k + 1) (bl x) : Nat) : Int) := by
            have := hy.out
            rw [show m = 0 by omega, bl_zero, cl_nil] at this
            omega
          replace hfin := Lib.hid hfin
          go_wp2_with fail
          go_ret
          exact ⟨retInt hfin.out, hw.out⟩
end Go.Proofs.YtknlmgcbdcepnaaDoor
