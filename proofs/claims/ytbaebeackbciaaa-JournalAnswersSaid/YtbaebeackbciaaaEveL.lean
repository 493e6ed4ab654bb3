/- Made lists of events (cohesionmake): Mixed, Events. -/
import Derived.Test.YtbaebeackbciaaaEveK
import Derived.Test.YtbaebeackbciaaaEveG
set_option linter.unusedVariables false
set_option linter.unusedSimpArgs false
namespace Go.Proofs.Ytbaebeackbciaaa
open Go.RowKit CoEv

/-- The call returns new events, all right, and turns the deck alone. -/
def RetDE (w : World) (g : Nat) (most : Nat) (e : Ending) (w' : World) : Prop := ∃ A n c xs, e = .returned (.slice A n c) ∧ n ≤ c ∧ RS EE w' A n xs ∧ xs.length ≤ most ∧ (∀ ev ∈ xs, chk ev = 0) ∧ Dk w' g ∧ w.grownBy w' (some g) ∧ Fr w.heap.size A
theorem OS.own_ne {α : Type} {E : El α} {t : TypeId} {w : World} {B g : Nat} {v : Value} {xs : List α} (h : OS E t w B v xs) (hg : g < B) : v.ownBlock = none ∨ v.ownBlock ≠ some g := by
  cases hv : v.ownBlock with
  | none => exact .inl rfl
  | some k => exact .inr (fun e => by injection e with e; have := (h.block_lt k hv).1; omega)
theorem all_snoc {xs : List Ev} {e : Ev} (h : ∀ ev ∈ xs, chk ev = 0) (he : chk e = 0) : ∀ ev ∈ xs ++ [e], chk ev = 0 := fun ev hv => by
  rcases List.mem_append.1 hv with h1 | h1
  · exact h ev h1
  · rw [List.mem_singleton] at h1; rw [h1]; exact he

set_option maxRecDepth 100000 in
set_option maxHeartbeats 4000000 in
theorem mkevents_any (g : Nat) (n : Int) (most : Nat) (w : World) (h : Dk w g) (hn : 2 ≤ n) (hn2 : n ≤ 64) (hm : most ≤ 1000) :
    Calls Try.prog 16 #[.pointer (some ⟨g, 0, none⟩), .int .i64 n, .int .i64 most] w (RetDE w g most) := by
  have k1 := Lib.hid fun w h => next_any g ((most : Int) + 1) w h (by omega)
  have k4 := Lib.hid fun w h => next_any g 4 w h (by omega)
  have k7 := Lib.hid fun w h => next_any g 7 w h (by omega)
  have k3 := Lib.hid fun w h => next_any g 3 w h (by omega)
  have ke : Hid (∀ (t : Int) w, Dk w g → 0 ≤ t → t ≤ 1048576 → Calls Try.prog 30 #[.pointer (some ⟨g, 0, none⟩), .int .i64 n, .int .i64 t] w fun e w' => ∃ a1 a2 a3 a4 a5 a6 a7 : Int, e = .returned (.agg #[.int .i64 a1, .int .i64 a2, .int .i64 a3, .int .i64 a4, .int .i64 a5, .int .i64 a6, .int .i64 a7]) ∧ chk ⟨a1, a2, a3, a4, a5, a6, a7⟩ = 0 ∧ Dk w' g ∧ w.grownBy w' (some g)) :=
    Lib.hid fun t w h ht ht2 => (mkevent_any g n t w h hn hn2 ht ht2).mono fun e w' ⟨ev, h1, h2, h3⟩ => ⟨ev.k, ev.t, ev.u, ev.v, ev.w, ev.l, ev.s, h1, h2, h3⟩
  have hgl := h.lt
  have p2 : decide (1 < n) = true := by simp; omega
  go_enter Try.func16, Try.ntmps16
  go_wp2_with fail
  (with_reducible refine (k4.out _ h).mono ?_)
  rintro e w0 ⟨t0, rfl, ht0, ht1, _, hD0, hg0⟩
  replace ht1 := ht1 (by omega)
  go_wp2_with fail
  (with_reducible refine (k1.out _ hD0).mono ?_)
  rintro e w1 ⟨k0, rfl, hk0, hk1, _, hD1, hg1⟩
  replace hk1 := hk1 (by omega)
  have hg1' := grown_trans hg0 hg1
  go_wp2_with fail
  go_loopw [7, 8, 9] (fun o t k wr => ∃ (v : Value) (tt kk : Int) (L : List Ev), v = o ∧ t = .int .i64 tt ∧ k = .int .i64 kk ∧ 0 ≤ tt ∧ tt ≤ 5 + 3 * (L.length : Int) ∧ 0 ≤ kk ∧ (L.length : Int) + kk ≤ (most : Int) ∧ OS EE 55 wr w.heap.size v L ∧ Hid (∀ ev ∈ L, chk ev = 0) ∧ Dk wr g ∧ w.grownBy wr (some g)) (fun _ _ k _ => (intOf k).toNat)
  case atStart => exact ⟨_, t0, k0, [], rfl, rfl, rfl, by omega, by simp; omega, hk0, by simp; omega, OS.nil_, Lib.hid (fun _ h => by cases h), hD1, hg1'⟩
  case round =>
    clear hD1 hg1'
    obtain ⟨v, tt, kk, L, rfl, rfl, rfl, ht0, ht1, hkk0, hlen, ho, hall, hD, hg⟩ := hrel
    have hs := hg.size
    by_cases hlt : 0 < kk
    · have q1 : decide (0 < kk) = true := by simpa using hlt
      go_wp2_with fail
      (with_reducible refine (ke.out tt _ hD ht0 (by omega)).mono ?_)
      rintro e w3 ⟨a1, a2, a3, a4, a5, a6, a7, rfl, hev, hD3, hg3⟩
      replace hev := Lib.hid hev
      have ho3 := ho.kept hg3 (ho.own_ne hgl)
      have hg3' := grown_trans hg hg3
      have hs3 := hg3'.size
      clear hD hg hg3 ho
      go_wp2_with (at_builtin; (refine wpList_push1G tyE (y := ⟨a1, a2, a3, a4, a5, a6, a7⟩) rfl rfl _ _ rfl rfl rfl rfl ho3 (by omega) (by omega) hs3 ?_); intro v4 w4 ho4 hb4 hg4x)
      have hD4 := hD3.below hb4 hgl
      have hg4 := grown_below hg3' hb4 (Nat.le_refl _)
      have hall4 := Lib.hid (all_snoc hall.out hev.out)
      clear hD3 hg3' hb4 hg4x ho3
      (with_reducible refine (k4.out _ hD4).mono ?_)
      rintro e w5 ⟨y, rfl, hy0, hy1, _, hD5, hg5⟩
      replace hy1 := hy1 (by omega)
      have ho5 := ho4.kept hg5 (ho4.own_ne hgl)
      have hg5' := grown_trans hg4 hg5
      clear hD4 hg4 hg5 ho4 hall
      go_wp2_with fail
      go_roundw
      case rel => exact ⟨_, tt + y, kk - 1, _, rfl, by go_num, by go_num, by omega, by simp; omega, by omega, by simp; omega, ho5, hall4, hD5, hg5'⟩
      case measure => simp [intOf]; omega
    · have hk0' : kk = 0 := by omega
      subst hk0'
      obtain ⟨A, n', c, rfl, hn', hc, _, hr, hf⟩ := ho.form
      replace hn' := Lib.hid hn'
      go_wp2_with fail
      go_ret
      exact ⟨A, n', c, L, rfl, hc, hr, by omega, hall.out, hD, hg, hf⟩

set_option maxRecDepth 100000 in
set_option maxHeartbeats 4000000 in
theorem mkmixed_any (g : Nat) (n : Int) (most : Nat) (w : World) (h : Dk w g) (hn : 2 ≤ n) (hn2 : n ≤ 64) (hm : most ≤ 1000) :
    Calls Try.prog 24 #[.pointer (some ⟨g, 0, none⟩), .int .i64 n, .int .i64 most] w (RetDE w g most) := by
  have k1 := Lib.hid fun w h => next_any g ((most : Int) + 1) w h (by omega)
  have k4 := Lib.hid fun w h => next_any g 4 w h (by omega)
  have k7 := Lib.hid fun w h => next_any g 7 w h (by omega)
  have k3 := Lib.hid fun w h => next_any g 3 w h (by omega)
  have ke : Hid (∀ (t : Int) w, Dk w g → 0 ≤ t → t ≤ 1048576 → Calls Try.prog 30 #[.pointer (some ⟨g, 0, none⟩), .int .i64 n, .int .i64 t] w fun e w' => ∃ a1 a2 a3 a4 a5 a6 a7 : Int, e = .returned (.agg #[.int .i64 a1, .int .i64 a2, .int .i64 a3, .int .i64 a4, .int .i64 a5, .int .i64 a6, .int .i64 a7]) ∧ chk ⟨a1, a2, a3, a4, a5, a6, a7⟩ = 0 ∧ Dk w' g ∧ w.grownBy w' (some g)) :=
    Lib.hid fun t w h ht ht2 => (mkevent_any g n t w h hn hn2 ht ht2).mono fun e w' ⟨ev, h1, h2, h3⟩ => ⟨ev.k, ev.t, ev.u, ev.v, ev.w, ev.l, ev.s, h1, h2, h3⟩
  have hgl := h.lt
  have p2 : decide (1 < n) = true := by simp; omega
  go_enter Try.func24, Try.ntmps24
  go_wp2_with fail
  (with_reducible refine (k1.out _ h).mono ?_)
  rintro e w1 ⟨k0, rfl, hk0, hk1, _, hD1, hg1'⟩
  replace hk1 := hk1 (by omega)
  go_wp2_with fail
  go_loopw [7, 8, 9] (fun o t k wr => ∃ (v : Value) (tt kk : Int) (L : List Ev), v = o ∧ t = .int .i64 tt ∧ k = .int .i64 kk ∧ 0 ≤ tt ∧ tt ≤ 5 + 3 * (L.length : Int) ∧ 0 ≤ kk ∧ (L.length : Int) + kk ≤ (most : Int) ∧ OS EE 55 wr w.heap.size v L ∧ Hid (∀ ev ∈ L, chk ev = 0) ∧ Dk wr g ∧ w.grownBy wr (some g)) (fun _ _ k _ => (intOf k).toNat)
  case atStart => exact ⟨_, 5, k0, [], rfl, rfl, rfl, by omega, by simp, hk0, by simp; omega, OS.nil_, Lib.hid (fun _ h => by cases h), hD1, hg1'⟩
  case round =>
    clear hD1 hg1'
    obtain ⟨v, tt, kk, L, rfl, rfl, rfl, ht0, ht1, hkk0, hlen, ho, hall, hD, hg⟩ := hrel
    have hs := hg.size
    by_cases hlt : 0 < kk
    · have q1 : decide (0 < kk) = true := by simpa using hlt
      go_wp2_with fail
      (with_reducible refine (k7.out _ hD).mono ?_)
      rintro e w2 ⟨x, rfl, hx0, hx1, _, hD2, hg2⟩
      replace hx1 := hx1 (by omega)
      have ho2 := ho.kept hg2 (ho.own_ne hgl)
      have hg2' := grown_trans hg hg2
      clear hD hg hg2 ho
      go_wp2_with fail
      all_goals
        (with_reducible refine (ke.out _ _ hD2 (by omega) (by omega)).mono ?_)
        rintro e w3 ⟨a1, a2, a3, a4, a5, a6, a7, rfl, hev, hD3, hg3⟩
        replace hev := Lib.hid hev
        have ho3 := ho2.kept hg3 (ho2.own_ne hgl)
        have hg3' := grown_trans hg2' hg3
        have hs3 := hg3'.size
        clear hD2 hg2' hg3 ho2
        go_wp2_with (at_builtin; (refine wpList_push1G tyE (y := ⟨a1, a2, a3, a4, a5, a6, a7⟩) rfl rfl _ _ rfl rfl rfl rfl ho3 (by omega) (by omega) hs3 ?_); intro v4 w4 ho4 hb4 hg4x)
        have hD4 := hD3.below hb4 hgl
        have hg4 := grown_below hg3' hb4 (Nat.le_refl _)
        have hall4 := Lib.hid (all_snoc hall.out hev.out)
        clear hD3 hg3' hb4 hg4x ho3
        (with_reducible refine (k3.out _ hD4).mono ?_)
        rintro e w5 ⟨y, rfl, hy0, hy1, _, hD5, hg5⟩
        replace hy1 := hy1 (by omega)
        have ho5 := ho4.kept hg5 (ho4.own_ne hgl)
        have hg5' := grown_trans hg4 hg5
        clear hD4 hg4 hg5 ho4 hall
        go_wp2_with fail
        go_roundw
        case rel => exact ⟨_, tt + y, kk - 1, _, rfl, by go_num, by go_num, by omega, by simp; omega, by omega, by simp; omega, ho5, hall4, hD5, hg5'⟩
        case measure => simp [intOf]; omega
    · have hk0' : kk = 0 := by omega
      subst hk0'
      obtain ⟨A, n', c, rfl, hn', hc, _, hr, hf⟩ := ho.form
      replace hn' := Lib.hid hn'
      go_wp2_with fail
      go_ret
      exact ⟨A, n', c, L, rfl, hc, hr, by omega, hall.out, hD, hg, hf⟩
end Go.Proofs.Ytbaebeackbciaaa
