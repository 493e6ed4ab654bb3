/- journal.Read. -/
import Derived.Test.YtbaebeackbciaaaJouF
set_option linter.unusedVariables false
set_option linter.unusedSimpArgs false
namespace Go.Proofs.Ytbaebeackbciaaa
open Go.RowKit CoEv

theorem sli_info : (Try.prog.info? 32).map (fun i => (i.zero, i.size, i.bytes)) = some (some (.slice none 0 0), 1, 24) := by kernel_rfl
/-- What Read returns. -/
def RetRd (w : World) (bs : List Nat) (e : Ending) (w' : World) : Prop := ∃ A n c L k, e = .returned (.tuple #[.slice A n c, .int .i64 (k : Nat)]) ∧ n ≤ c ∧ RL EE w' A n L ∧ IsRead bs L k ∧ Below w.heap.size w w' ∧ Fr w.heap.size A
theorem below_of_grown {w W : World} {g : Nat} (h : w.grownBy W (some g)) {b : Nat} (hb : b ≤ g) (hb2 : b ≤ w.heap.size) : Below b w W :=
  ⟨h.os, h.tape, h.output, h.size, fun k hk => h.block k (by omega) (by intro e; injection e with e; omega)⟩

set_option maxRecDepth 100000 in
set_option maxHeartbeats 4000000 in
theorem jread_any (A : Option Addr) (n c : Nat) (bs : List Nat) (w : World) (h : RS BE w A n bs) (hB : Byt bs) (hc : n ≤ c) (hn : n ≤ 1099511627776) :
    Calls Try.prog 13 #[.slice A n c] w (RetRd w bs) := by
  have hl := h.len
  have hAw : ∀ ad, A = some ad → 0 < n → ad.block < w.heap.size := fun ad hA hn0 => by
    obtain ⟨ad', e, hlt⟩ := h.block_lt hn0
    rw [hA] at e; injection e with e; subst e; exact hlt
  have hb0 : Below w.heap.size w (w.alloc (.cells #[.slice A n c] 59)) := (Below.refl _ _).alloc (Nat.le_refl _) _
  have hG0 : Blk (w.alloc (.cells #[.slice A n c] 59)) w.heap.size 59 #[.slice A n c] := Blk.new _ _ _
  replace hl := Lib.hid hl
  go_enter Try.func13, Try.ntmps13
  go_wp2_with fail
  go_loopw [4, 6] (fun o at' wr => ∃ (i k : Nat) (L : List (List Ev)) (v : Value) (A' : Option Addr) (c' : Nat), v = o ∧ at' = .int .i64 (k : Nat) ∧ Hid (rdk bs i = some (L, k)) ∧ OL EE 32 wr (w.heap.size + 1) v L ∧ Blk wr w.heap.size 59 #[.slice A' (n - k) c'] ∧ n - k ≤ c' ∧ RS BE w A' (n - k) (bs.drop k) ∧ Below w.heap.size w wr ∧ (0 < n - k → ∀ ad, A' = some ad → ad.block ≠ w.heap.size)) (fun _ a _ => n - (intOf a).toNat)
  case atStart =>
    refine ⟨0, 0, [], _, A, c, rfl, rfl, Lib.hid rfl, OL.nil_, hG0, hc, h, hb0, fun h0 ad had => Nat.ne_of_lt (hAw ad had h0)⟩
  case round =>
    obtain ⟨i, k, L, v, A', c', rfl, rfl, hrd, ho, hG, hc', hr, hb, hA'⟩ := hrel
    have hbd := rdk_bd hrd.out
    rw [hl.out] at hbd
    have kb := Lib.hid fun w' hg h => rdbatch_any w.heap.size A' (n - k) c' (bs.drop k) w' hg h hA' (hB.drop k) hc' (by omega)
    have hone : one (bs.drop k) = none ∨ ∃ l m, one (bs.drop k) = some (l, m) := by
      cases one (bs.drop k) with
      | none => exact .inl rfl
      | some p => exact .inr ⟨p.1, p.2, rfl⟩
    have hs := hb.size
    have hGl := hG.lt
    have holt := ho.lt
    go_wp2_with fail
    (with_reducible refine (kb.out _ hG (hr.below hb (Nat.le_refl _))).mono ?_)
    rintro e w1 ⟨hg1, hP⟩
    unfold RdP at hP
    have hb1 := hb.trans (below_of_grown hg1 (Nat.le_refl _) hs)
    have ho1 := ho.grown hg1 (Nat.lt_succ_self _)
    rcases hone with hno | ⟨l, m, hso⟩
    · rw [hno] at hP
      obtain ⟨v1, rfl⟩ := hP
      have hrd' : Hid (IsRead bs L k) := Lib.hid ⟨i, hrd.out, hno⟩
      clear hrd hno kb hbd hc' hr hA' hG hg1 ho hb
      obtain ⟨A1, c1, rfl, hc1, hr1, hf1⟩ := ho1.read
      go_wp2_with fail
      refine bodyPost_ret (v := .tuple #[.slice A1 L.length c1, .int .i64 k]) (by simp [results, Try.results13, go_sem]) rfl ?_
      exact ⟨A1, _, c1, L, k, rfl, hc1, hr1, hrd'.out, hb1, hf1.mono (by omega)⟩
    · rw [hso] at hP
      obtain ⟨A1, n1, c1, A2, c2, rfl, hc1, hr1, hf1, hG1, hc2, hr2, hA2⟩ := hP
      have hrd' := Lib.hid (rdk_step hrd.out hso)
      have hle := one_le hso
      rw [List.length_drop, hl.out] at hle
      replace hr2 := hr2 _ hr
      rw [List.drop_drop] at hr2
      clear hrd hso kb hr hA' hG ho hb
      have d0 := (Blk.cell hG1 0).trans rfl
      have hs1 := hg1.size
      have hol : ∀ ad, A1 = some ad → 0 < n1 → some ad.block ≠ v.ownBlock ∧ w.heap.size + 1 ≤ ad.block ∧ ad.block < w1.heap.size := fun ad had h0 => by
        have e1 := hf1 ad had
        obtain ⟨ad', e2, e3⟩ := hr1.block_lt h0
        rw [had] at e2; injection e2 with e2; subst e2
        exact ⟨fun e => by have := (holt _ e.symm).2; omega, by omega, e3⟩
      have hnk : n - k - m = n - (k + m) := by omega
      have hkm : (n : Int) - ((n - k - m : Nat) : Int) = ((k + m : Nat) : Int) := by omega
      go_wp2_with (at_builtin; (refine wpList_pushLG Try.underlying27 sli_info rfl _ _ rfl rfl rfl rfl ho1 (by omega) (by omega) hc1 hr1 hol ?_); intro v2 w2 ho2 hb2 hg2 _; have hG2 := hG1.below hb2 (Nat.lt_succ_self _); have d2 := (Blk.cell hG2 0).trans rfl)
      have hb3 := hb1.trans (hb2.mono (by omega))
      clear hg1 hg2 ho1 hr1 hf1 hol holt hb1 d0 hG1
      go_roundw
      case rel =>
        refine ⟨i + 1, k + m, _, _, A2, c2, rfl, ?_, hrd', ho2, by rw [← hnk]; exact hG2, by omega, by rw [← hnk]; exact hr2, hb3, by rw [← hnk]; exact hA2⟩
        rw [← hnk, hkm]
      case measure => simp [intOf]; omega
end Go.Proofs.Ytbaebeackbciaaa
