/- The reference's Read. -/
import Derived.Test.YtbaebeackbciaaaJoaA
import Derived.Test.YtbaebeackbciaaaJouG
set_option linter.unusedVariables false
set_option linter.unusedSimpArgs false
namespace Go.Proofs.Ytbaebeackbciaaa
open Go.RowKit CoEv

set_option maxRecDepth 100000 in
set_option maxHeartbeats 4000000 in
theorem rread_any (A : Option Addr) (n c : Nat) (bs : List Nat) (w : World) (h : RS BE w A n bs) (hB : Byt bs) (hc : n ≤ c) (hn : n ≤ 1099511627776) :
    Calls Try.prog 21 #[.slice A n c] w (RetRd w bs) := by
  have hl := Lib.hid h.len
  go_enter Try.func21, Try.ntmps21
  go_wp2_with fail
  go_loopw [4, 5] (fun o at' wr => ∃ (i k : Nat) (L : List (List Ev)) (v : Value), v = o ∧ at' = .int .i64 (k : Nat) ∧ Hid (rdk bs i = some (L, k)) ∧ OL EE 32 wr w.heap.size v L ∧ Below w.heap.size w wr) (fun _ at' _ => n - (intOf at').toNat)
  case atStart => exact ⟨0, 0, [], _, rfl, rfl, Lib.hid rfl, OL.nil_, Below.refl _ _⟩
  case round =>
    obtain ⟨i, k, L, v, rfl, rfl, hrd, ho, hb⟩ := hrel
    have hbd := rdk_bd hrd.out
    rw [hl.out] at hbd
    have hcut := (h.below hb (Nat.le_refl _)).cut (k := k) (cap := c) hbd.1 hc
    rw [show A.map (·.add (k * BE.size)) = A.map (·.add k) by rw [show BE.size = 1 from rfl, Nat.mul_one]] at hcut
    have kb := fun A' w' h => rone_any A' (n - k) (c - k) (bs.drop k) w' h (hB.drop k) (by omega) (by omega)
    have hone : one (bs.drop k) = none ∨ ∃ l m, one (bs.drop k) = some (l, m) := by
      cases one (bs.drop k) with
      | none => exact .inl rfl
      | some p => exact .inr ⟨p.1, p.2, rfl⟩
    have i1 : (0 : Int) ≤ (k : Int) := Int.natCast_nonneg _
    have i2 : (k : Int) ≤ (n : Int) := by omega
    have holt := ho.lt
    by_cases hck : c = k
    case pos =>
      rw [if_pos hck] at hcut
      have hkk := kb A
      rw [show c - k = 0 by omega] at hkk
      clear kb
      have hno : one (bs.drop k) = none := by rw [List.drop_eq_nil_of_le (by rw [hl.out]; omega)]; rfl
      clear hone
      replace hck := Lib.hid hck
      replace hkk := Lib.hid hkk
      go_wp2_with fail
      (with_reducible refine (hkk.out _ hcut).mono ?_)
      rintro e w1 hP
      unfold RetOne at hP
      obtain ⟨hb1, hP⟩ := hP
      have hb' := hb.trans (hb1.mono hb.size)
      have ho1 := ho.below hb1 (Nat.le_refl _)
      rw [hno] at hP
      obtain ⟨v1, m1, rfl⟩ := hP
      have hrd' : Hid (IsRead bs L k) := Lib.hid ⟨i, hrd.out, hno⟩
      clear hrd hno hkk hbd hcut ho hb
      obtain ⟨A1, c1, rfl, hc1, hr1, hf1⟩ := ho1.read
      go_wp2_with fail
      refine bodyPost_ret (v := .tuple #[.slice A1 L.length c1, .int .i64 k]) (by simp [results, Try.results21, go_sem]) rfl ?_
      exact ⟨A1, _, c1, L, k, rfl, hc1, hr1, hrd'.out, hb', hf1⟩
    case neg =>
      rw [if_neg hck] at hcut
      have hkk := kb (A.map (·.add k))
      clear kb
      replace hkk := Lib.hid hkk
      go_wp2_with fail
      (with_reducible refine (hkk.out _ hcut).mono ?_)
      rintro e w1 hP
      unfold RetOne at hP
      obtain ⟨hb1, hP⟩ := hP
      have hb' := hb.trans (hb1.mono hb.size)
      have ho1 := ho.below hb1 (Nat.le_refl _)
      rcases hone with hno | ⟨l, m, hso⟩
      · rw [hno] at hP
        obtain ⟨v1, m1, rfl⟩ := hP
        have hrd' : Hid (IsRead bs L k) := Lib.hid ⟨i, hrd.out, hno⟩
        clear hrd hno hkk hbd hcut ho hb
        obtain ⟨A1, c1, rfl, hc1, hr1, hf1⟩ := ho1.read
        go_wp2_with fail
        refine bodyPost_ret (v := .tuple #[.slice A1 L.length c1, .int .i64 k]) (by simp [results, Try.results21, go_sem]) rfl ?_
        exact ⟨A1, _, c1, L, k, rfl, hc1, hr1, hrd'.out, hb', hf1⟩
      · rw [hso] at hP
        obtain ⟨A1, n1, c1, rfl, hc1, hr1, hf1⟩ := hP
        have hrd' := Lib.hid (rdk_step hrd.out hso)
        have hle := one_le hso
        rw [List.length_drop, hl.out] at hle
        clear hrd hso hkk hcut ho
        have hs1 := hb1.size
        have hsb := hb.size
        have hol : ∀ ad, A1 = some ad → 0 < n1 → some ad.block ≠ v.ownBlock ∧ w.heap.size ≤ ad.block ∧ ad.block < w1.heap.size := fun ad had h0 => by
          have e1 := hf1 ad had
          obtain ⟨ad', e2, e3⟩ := hr1.block_lt h0
          rw [had] at e2; injection e2 with e2; subst e2
          exact ⟨fun e => by have := (holt _ e.symm).2; omega, by omega, e3⟩
        go_wp2_with (at_builtin; (refine wpList_pushLG Try.underlying27 sli_info rfl _ _ rfl rfl rfl rfl ho1 (by omega) (by omega) hc1 hr1 hol ?_); intro v2 w2 ho2 hb2 hg2 _)
        have hb3 := hb'.trans hb2
        clear hg2 ho1 hr1 hf1 hol holt hb1
        go_roundw
        case rel => exact ⟨i + 1, k + m, _, _, rfl, by go_num, hrd', ho2, hb3⟩
        case measure => simp [intOf]; omega
end Go.Proofs.Ytbaebeackbciaaa
