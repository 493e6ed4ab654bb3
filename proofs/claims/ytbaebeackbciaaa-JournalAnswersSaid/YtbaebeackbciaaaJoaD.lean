/- The reference's Batches. -/
import Derived.Test.YtbaebeackbciaaaJouQ
import Derived.Test.YtbaebeackbciaaaJoaC
set_option linter.unusedVariables false
set_option linter.unusedSimpArgs false
namespace Go.Proofs.Ytbaebeackbciaaa
open Go.RowKit CoEv

set_option maxRecDepth 100000 in
set_option maxHeartbeats 4000000 in
theorem rbatches_any (A : Option Addr) (n c k : Nat) (xs : List Ev) (w : World) (h : RS EE w A n xs) (hc : n ≤ c) (hn : n ≤ 60000) (hk : 0 < k) (hk2 : k ≤ 255) :
    Calls Try.prog 27 #[.slice A n c, .int .i64 k] w fun e W' => ∃ m, (∀ j, j < m → j * k < n) ∧ (n ≤ m * k ∨ (st (cks A n k xs m)).2 ≠ 0) ∧ RetGE BE w (btr (cks A n k xs m)) (st (cks A n k xs m)).2 e W' := by
  have q1 : decide ((k : Int) < 1) = false := by simp; omega
  have q2 : decide (255 < (k : Int)) = false := by simp; omega
  have hl := Lib.hid h.len
  go_enter Try.func27, Try.ntmps27
  go_wp2_with fail
  go_loopw [6, 7] (fun o i wr => ∃ (j : Nat) (B : Option Addr) (nb cb : Nat), o = .slice B nb cb ∧ i = .int .i64 (j * k : Nat) ∧ Hid (∀ j', j' < j → j' * k < n) ∧ Hid ((st (cks A n k xs j)).2 = 0) ∧ nb ≤ cb ∧ RS BE wr B nb (joi (cks A n k xs j)) ∧ Fr w.heap.size B ∧ Below w.heap.size w wr) (fun _ i _ => n - (intOf i).toNat)
  case atStart => exact ⟨0, none, 0, 0, rfl, by simp, Lib.hid (fun _ h => absurd h (by omega)), Lib.hid rfl, Nat.le_refl _, RS.none_, Fr.none_, Below.refl _ _⟩
  case round =>
    obtain ⟨j, B, nb, cb, rfl, rfl, hj, hst, hcb, hr, hf, hb⟩ := hrel
    obtain ⟨hj1, hj2⟩ := st_len _ hst.out
    have hnb := hr.len
    by_cases hlt : j * k < n
    · have hfl := congrArg List.length (cks_flat (A := A) (k := k) hl.out j hj.out)
      rw [List.length_take] at hfl
      have hjk : j ≤ j * k := Nat.le_mul_of_pos_right j hk
      have hjf := joi_flat (cks A n k xs j)
      rw [cks_len, hfl, hl.out] at hjf
      have hp := prt_xs (A := A) hl.out hlt
      have hgood := st_good (l := (prt A n k xs j).xs) hst.out
      have hsn := cks_succ A n k xs j
      have hcut := ((h.below hb (Nat.le_refl _)).cut (k := j * k) (cap := c) (by omega) hc)
      rw [if_neg (by omega)] at hcut
      have hnext : (j + 1) * k = j * k + k := by rw [Nat.succ_mul]
      have hj3 : Hid (∀ j', j' < j + 1 → j' * k < n) := Lib.hid fun j' hj' => by
        rcases Nat.lt_or_ge j' j with h1 | h1
        · exact hj.out j' h1
        · obtain rfl : j' = j := by omega
          exact hlt
      obtain ⟨ad, x0, rfl, _, _, _⟩ := h.get (k := 0) (by omega)
      rw [Option.map_some] at hcut
      have hgo : ∃ m', m' = (if n < j * k + k then n else j * k + k) ∧ m' = j * k + (if n < j * k + k then n - j * k else k) := ⟨_, rfl, by split <;> omega⟩
      have hpart : RS EE wr (some (ad.add (j * k * 7))) (if n < j * k + k then n - j * k else k) ((prt (some ad) n k xs j).xs) := by
        rw [hp]
        by_cases hle : n < j * k + k
        · rw [if_pos hle]
          have h2 := hcut.head (k := n - j * k) (Nat.le_refl _)
          rw [List.take_of_length_le (by rw [List.length_drop, hl.out]; omega)] at h2
          rw [List.take_of_length_le (by rw [List.length_drop, hl.out]; omega)]
          exact h2
        · rw [if_neg hle]
          exact hcut.head (k := k) (by omega)
      have hrw : rwE (joi (cks (some ad) n k xs j)).length (prt (some ad) n k xs j).xs = (st (cks (some ad) n k xs (j + 1))).2 := by
        rw [hsn, hgood]
        exact rwE_eq (by rw [hjf]; omega)
      have hapl : rapL (joi (cks (some ad) n k xs j)) (prt (some ad) n k xs j).xs = btr (cks (some ad) n k xs (j + 1)) := by
        unfold rapL btr
        rw [hrw]
        split
        · rw [hsn, joi_append, joi_one]
        · rfl
      have hm1 : (if n < j * k + k then n - j * k else k) ≤ 1099511627776 := by split <;> omega
      have hm2 : nb ≤ 1099511627776 := by rw [← hnb, hjf]; omega
      have hcall := rappend_any B nb cb _ (some (ad.add (j * k * 7))) _ (c - j * k) _ wr hr hpart hm1 hm2
      rw [hapl, hrw] at hcall
      have hbt : (st (cks (some ad) n k xs (j + 1))).2 = 0 → btr (cks (some ad) n k xs (j + 1)) = joi (cks (some ad) n k xs (j + 1)) := fun e => by unfold btr; rw [if_pos e]
      have hbe : (st (cks (some ad) n k xs (j + 1))).2 ≠ 0 → btr (cks (some ad) n k xs (j + 1)) = [] := fun e => by unfold btr; rw [if_neg e]
      clear hapl hrw hm1 hm2 hpart hcut hgood hsn hp hjf hfl hjk hgo
      replace hnb := Lib.hid hnb
      replace hnext := Lib.hid hnext
      replace hcall := Lib.hid hcall
      generalize hst2 : (st (cks (some ad) n k xs (j + 1))).2 = er at hcall hbt hbe
      replace hst2 := Lib.hid hst2
      generalize hI : j * k = I at *
      replace hI := Lib.hid hI
      have i3 : (I : Int) < (n : Int) := by omega
      have i4 : (n : Int) ≤ (c : Int) := by omega
      have i6 : (I : Int) ≤ (c : Int) := by omega
      have j7 : ¬ c = I := by omega
      by_cases hle : n < I + k
      · rw [if_pos hle] at hcall
        go_wp2_with fail
        (with_reducible refine (hcall.out).mono ?_)
        rintro e w3 ⟨A', n', c', rfl, hc', hr', hb', hf'⟩
        have BW := hb.trans (hb'.mono hb.size)
        have hs := hb.size
        have hf2 := hf'.mono hs
        by_cases her : er = 0
        · have q5 : (er != 0) = false := by simp [her]
          rw [hbt her] at hr'
          have hsc' : Hid ((st (cks (some ad) n k xs (j + 1))).2 = 0) := Lib.hid (hst2.out.trans her)
          replace her := Lib.hid her
          clear hbt hbe hcall hr hb hb' hf hf'
          go_wp2_with fail
          go_roundw
          case rel => exact ⟨j + 1, A', n', c', rfl, by rw [hnext.out]; go_num, hj3, hsc', hc', hr', hf2, BW⟩
          case measure => simp [intOf]; omega
        · have q5 : (er != 0) = true := by simp [her]
          have hsc' : (st (cks (some ad) n k xs (j + 1))).2 ≠ 0 := fun e => her (hst2.out.symm.trans e)
          have hres : Hid (∀ W', Below w.heap.size w W' → ∃ m, (∀ j, j < m → j * k < n) ∧ (n ≤ m * k ∨ (st (cks (some ad) n k xs m)).2 ≠ 0) ∧ RetGE BE w (btr (cks (some ad) n k xs m)) (st (cks (some ad) n k xs m)).2 (.returned (.tuple #[.slice none 0 0, .int .i64 er])) W') := Lib.hid fun W' hW => ⟨j + 1, hj3.out, .inr hsc', by rw [hbe her, hst2.out]; exact ⟨none, 0, 0, rfl, Nat.le_refl _, RS.none_, hW, Fr.none_⟩⟩
          replace her := Lib.hid her
          clear hbt hbe hcall hr hb hb' hf hf' hr' hsc'
          go_wp2_with fail
          refine bodyPost_ret (v := .tuple #[.slice none 0 0, .int .i64 er]) (by simp [results, Try.results27, go_sem]) rfl ?_
          exact hres.out _ BW
      · rw [if_neg hle] at hcall
        go_wp2_with fail
        all_goals try rw [show ((I : Int) + (k : Int)).toNat - I = k from by omega]
        all_goals (with_reducible refine (hcall.out).mono ?_)
        all_goals
          rintro e w3 ⟨A', n', c', rfl, hc', hr', hb', hf'⟩
          have BW := hb.trans (hb'.mono hb.size)
          have hs := hb.size
          have hf2 := hf'.mono hs
          by_cases her : er = 0
          · have q5 : (er != 0) = false := by simp [her]
            rw [hbt her] at hr'
            have hsc' : Hid ((st (cks (some ad) n k xs (j + 1))).2 = 0) := Lib.hid (hst2.out.trans her)
            replace her := Lib.hid her
            clear hbt hbe hcall hr hb hb' hf hf'
            go_wp2_with fail
            go_roundw
            case rel => exact ⟨j + 1, A', n', c', rfl, by rw [hnext.out]; go_num, hj3, hsc', hc', hr', hf2, BW⟩
            case measure => simp [intOf]; omega
          · have q5 : (er != 0) = true := by simp [her]
            have hsc' : (st (cks (some ad) n k xs (j + 1))).2 ≠ 0 := fun e => her (hst2.out.symm.trans e)
            have hres : Hid (∀ W', Below w.heap.size w W' → ∃ m, (∀ j, j < m → j * k < n) ∧ (n ≤ m * k ∨ (st (cks (some ad) n k xs m)).2 ≠ 0) ∧ RetGE BE w (btr (cks (some ad) n k xs m)) (st (cks (some ad) n k xs m)).2 (.returned (.tuple #[.slice none 0 0, .int .i64 er])) W') := Lib.hid fun W' hW => ⟨j + 1, hj3.out, .inr hsc', by rw [hbe her, hst2.out]; exact ⟨none, 0, 0, rfl, Nat.le_refl _, RS.none_, hW, Fr.none_⟩⟩
            replace her := Lib.hid her
            clear hbt hbe hcall hr hb hb' hf hf' hr' hsc'
            go_wp2_with fail
            refine bodyPost_ret (v := .tuple #[.slice none 0 0, .int .i64 er]) (by simp [results, Try.results27, go_sem]) rfl ?_
            exact hres.out _ BW
    · have hbt : btr (cks A n k xs j) = joi (cks A n k xs j) := by unfold btr; rw [if_pos hst.out]
      replace hnb := Lib.hid hnb
      have hge : n ≤ j * k := by omega
      have hres : Hid (∀ e W', RetGE BE w (joi (cks A n k xs j)) 0 e W' → ∃ m, (∀ j, j < m → j * k < n) ∧ (n ≤ m * k ∨ (st (cks A n k xs m)).2 ≠ 0) ∧ RetGE BE w (btr (cks A n k xs m)) (st (cks A n k xs m)).2 e W') := Lib.hid fun e W' hh => ⟨j, hj.out, .inl hge, by rw [hbt, hst.out]; exact hh⟩
      clear hbt hge
      generalize j * k = I at *
      go_wp2_with fail
      refine bodyPost_ret (v := .tuple #[.slice B nb cb, .int .i64 0]) (by simp [results, Try.results27, go_sem]) rfl ?_
      exact hres.out _ _ ⟨B, nb, cb, rfl, hcb, hr, hb, hf⟩
end Go.Proofs.Ytbaebeackbciaaa
