/- The made journal. -/
import Derived.Test.YtbaebeackbciaaaJouI
set_option linter.unusedVariables false
set_option linter.unusedSimpArgs false
namespace Go.Proofs.Ytbaebeackbciaaa
open Go.RowKit CoEv

/-- What made returns: a journal, and its batches. -/
def RetMd (w : World) (g : Nat) (e : Ending) (w' : World) : Prop := ∃ A n c B m d L, e = .returned (.tuple #[.slice A n c, .slice B m d]) ∧ n ≤ c ∧ RS BE w' A n (joi L) ∧ m ≤ d ∧ RL EE w' B m L ∧ Rts L ∧ L.length ≤ 3 ∧ (∀ l ∈ L, l.length ≤ 5) ∧ Dk w' g ∧ w.grownBy w' (some g) ∧ Fr w.heap.size A ∧ Fr w.heap.size B
theorem joi_len {L : List (List Ev)} (h : ∀ l ∈ L, l.length ≤ 5) : (joi L).length ≤ 56 * L.length := by
  induction L with
  | nil => simp [joi]
  | cons l L ih =>
    rw [joi_cons, List.length_append, btc_len, List.length_cons]
    have := h l (by simp)
    have := ih fun x hx => h x (by simp [hx])
    omega

set_option maxRecDepth 100000 in
set_option maxHeartbeats 4000000 in
theorem made35_any (g : Nat) (w : World) (h : Dk w g) : Calls Try.prog 11 #[.pointer (some ⟨g, 0, none⟩)] w (RetMd w g) := by
  have k4 := Lib.hid fun w h => next_any g 4 w h (by omega)
  have km : Hid (∀ w, Dk w g → Calls Try.prog 24 #[.pointer (some ⟨g, 0, none⟩), .int .i64 5, .int .i64 5] w (RetDE w g 5)) := Lib.hid fun w h => mkmixed_any g 5 5 w h (by omega) (by omega) (by omega)
  have ka := Lib.hid fun (J : Option Addr) (m d : Nat) js (A : Option Addr) (n c : Nat) xs w hj h hn hm => rappend_any J m d js A n c xs w hj h hn hm
  have hgl := h.lt
  go_enter Try.func11, Try.ntmps11
  go_wp2_with fail
  (with_reducible refine (k4.out _ h).mono ?_)
  rintro e w1 ⟨k0, rfl, hk0, hk1, _, hD1, hg1⟩
  replace hk1 := hk1 (by omega)
  go_wp2_with fail
  go_loopw [4, 5, 6] (fun o l k wr => ∃ (A : Option Addr) (n c : Nat) (v : Value) (kk : Int) (L : List (List Ev)), o = .slice A n c ∧ n ≤ c ∧ RS BE wr A n (joi L) ∧ Fr w.heap.size A ∧ v = l ∧ OL EE 32 wr w.heap.size v L ∧ k = .int .i64 kk ∧ 0 ≤ kk ∧ (L.length : Int) + kk ≤ 3 ∧ Hid (Rts L) ∧ Hid (∀ l ∈ L, l.length ≤ 5) ∧ Dk wr g ∧ w.grownBy wr (some g)) (fun _ _ k _ => (intOf k).toNat)
  case atStart => exact ⟨none, 0, 0, _, k0, [], rfl, Nat.le_refl _, RS.none_, Fr.none_, rfl, OL.nil_, rfl, hk0, by simp; omega, Lib.hid Rts.nil_, Lib.hid (fun _ h => by cases h), hD1, hg1⟩
  case round =>
    clear hD1 hg1
    obtain ⟨A, n, c, v, kk, L, rfl, hnc, hr, hf, rfl, ho, rfl, hkk0, hlen, hrt, hl5, hD, hg⟩ := hrel
    have hs := hg.size
    have holt := ho.lt
    by_cases hlt : 0 < kk
    · have q1 : decide (0 < kk) = true := by simpa using hlt
      go_wp2_with fail
      (with_reducible refine (km.out _ hD).mono ?_)
      rintro e w2 ⟨A2, n2, c2, xs, rfl, hc2, hr2, hx5, hxs, hD2, hg2, hf2⟩
      have hrj := hr.kept hg2 (fun ad had e => by injection e with e; have := hf ad had; omega)
      have ho2 := ho.grown hg2 hgl
      have hg2' := grown_trans hg hg2
      have hs2 := hg2.size
      have hn2l := hr2.len
      have hjl := joi_len hl5.out
      have hnl := hr.len
      have hn2b : n ≤ 168 := by omega
      replace hjl := Lib.hid hjl
      replace hnl := Lib.hid hnl
      clear hr ho hD hg hg2
      go_wp2_with fail
      (with_reducible refine (ka.out _ _ _ _ _ _ _ _ _ hrj hr2 (by omega) (by omega)).mono ?_)
      rintro e w3 ⟨A3, n3, c3, rfl, hc3, hr3, hb3, hf3⟩
      have ho3 := ho2.below hb3 (Nat.le_refl _)
      have hr23 := hr2.below hb3 (Nat.le_refl _)
      have hrj3 := hrj.below hb3 (Nat.le_refl _)
      have hD3 := hD2.below hb3 (by omega)
      have hg3 := grown_below hg2' hb3 (by omega)
      by_cases hz : rwE (joi L).length xs = 0
      · have hw0 : wrE (joi L).length xs = 0 := by rw [← rwE_eq (by have := hnl.out; omega)]; exact hz
        have hrtx := rt_of_wrE hw0
        have hap : rapL (joi L) xs = joi (L ++ [xs]) := by unfold rapL; rw [if_pos hz, joi_append, joi_one]
        rw [hap] at hr3
        rw [hz]
        have hrt' := Lib.hid (hrt.out.snoc hrtx)
        have hl5' : Hid (∀ l ∈ L ++ [xs], l.length ≤ 5) := Lib.hid fun l hl => by
          rcases List.mem_append.1 hl with h1 | h1
          · exact hl5.out l h1
          · rw [List.mem_singleton] at h1; rw [h1]; exact hx5
        have hin : ∀ ad, A2 = some ad → 0 < n2 → some ad.block ≠ v.ownBlock ∧ w.heap.size ≤ ad.block ∧ ad.block < w3.heap.size := fun ad had h0 => by
          have e1 := hf2 ad had
          obtain ⟨ad', e2, e3⟩ := hr23.block_lt h0
          rw [had] at e2; injection e2 with e2; subst e2
          exact ⟨fun e => by have := (holt _ e.symm).2; omega, by omega, e3⟩
        have hs3 := hg3.size
        clear hz hw0 hrtx hap hrj hrj3 ho2 hr2 hD2 hg2' hb3 hl5 hrt
        go_wp2_with (at_builtin; (refine wpList_pushLG Try.underlying27 sli_info rfl _ _ rfl rfl rfl rfl ho3 (by omega) hs3 hc2 hr23 hin ?_); intro v4 w4 ho4 hb4 hg4 _)
        have hD4 := hD3.below hb4 hgl
        have hg4' := grown_below hg3 hb4 (Nat.le_refl _)
        have hr4 := hr3.kept hg4 (fun ad had e => by have := (holt _ e.symm).2; have := hf3 ad had; omega)
        clear ho3 hD3 hg3 hb4 hg4 hr3 hr23 hin
        go_wp2_with fail
        go_roundw
        case rel => exact ⟨A3, n3, c3, _, kk - 1, _, rfl, hc3, hr4, hf3.mono (by omega), rfl, ho4, by go_num, by omega, by simp; omega, hrt', hl5', hD4, hg4'⟩
        case measure => simp [intOf]; omega
      · have hzb : (rwE (joi L).length xs == 0) = false := by simpa using hz
        replace hz := Lib.hid hz
        generalize rwE (joi L).length xs = C at *
        clear ho2 hr2 hD2 hg2' hb3 hr3 hr23 hrj
        go_wp2_with fail
        go_roundw
        case rel => exact ⟨A, n, c, _, kk - 1, L, rfl, hnc, hrj3, hf, rfl, ho3, by go_num, by omega, by omega, hrt, hl5, hD3, hg3⟩
        case measure => simp [intOf]; omega
    · obtain ⟨A1, c1, hv1, hc1, hr1, hf1⟩ := ho.read
      subst hv1
      have q1 : decide (0 < kk) = false := by simpa using hlt
      go_wp2_with fail
      refine bodyPost_ret (v := .tuple #[.slice A n c, .slice A1 L.length c1]) (by simp [results, Try.results11, go_sem]) rfl ?_
      exact ⟨A, n, c, A1, L.length, c1, L, rfl, hnc, hr, hc1, hr1, hrt.out, by omega, hl5.out, hD, hg, hf, hf1⟩
end Go.Proofs.Ytbaebeackbciaaa
