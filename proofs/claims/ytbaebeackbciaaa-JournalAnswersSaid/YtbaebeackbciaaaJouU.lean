/- The law JournalGrows. -/
import Derived.Test.YtbaebeackbciaaaJouJ
import Derived.Test.YtbaebeackbciaaaJouS
set_option linter.unusedVariables false
set_option linter.unusedSimpArgs false
namespace CoEv
theorem chks_all {xs : List Ev} (h : ∀ ev ∈ xs, chk ev = 0) (hl : xs.length ≤ 65536) : chks xs = 0 := by
  unfold chks; rw [if_neg (by omega)]; exact first_zero h
theorem joi_len4 {L : List (List Ev)} (h : ∀ l ∈ L, l.length ≤ 4) : (joi L).length ≤ 46 * L.length := by
  induction L with
  | nil => simp [joi]
  | cons l L ih =>
    rw [joi_cons, List.length_append, btc_len, List.length_cons]
    have := h l (by simp)
    have := ih fun x hx => h x (by simp [hx])
    omega
theorem byt0 : Byt [0, 255] := fun z hz => by simp at hz; omega
theorem one_zero (raw : List Nat) : one ([0, 255] ++ raw) = none := by
  show one (0 :: 255 :: raw) = none
  unfold one; simp
end CoEv
namespace Go.Proofs.Ytbaebeackbciaaa
open Go.RowKit CoEv

set_option maxRecDepth 100000 in
set_option maxHeartbeats 8000000 in
theorem lawGrows_any (A0 : Option Addr) (n0 c0 : Nat) (xs0 : List Int) (R : Option Addr) (nr cr : Nat) (raw : List Nat) (w : World) (h0 : RI w A0 n0 xs0) (hc0 : n0 ≤ c0) (hn0 : n0 ≤ 17592186044416) (hr0 : RS BE w R nr raw) (hB : Byt raw) (hnr : nr ≤ 140737488355328) :
    Calls Try.prog 4 #[.slice A0 n0 c0, .slice R nr cr] w fun e w' => e = .returned (.bool true) ∧ Below w.heap.size w w' := by
  have kaw := Lib.hid fun w => awake35_any w
  have kf := fun w => few_any A0 n0 c0 w
  by_cases hfew : n0 ≤ 500
  · rw [decide_eq_true hfew] at kf
    replace kf := Lib.hid kf
    by_cases hbig : 300 < nr
    · go_enter Try.func4, Try.ntmps4
      go_wp2_with fail
      (with_reducible refine (kf.out _).mono ?_); rintro e wf ⟨rfl, hQ⟩; obtain rfl := hQ
      go_wp2_with fail
      (with_reducible refine (kaw.out _).mono ?_); rintro e w1 ⟨rfl, hb1⟩
      go_wp2_with fail
      go_ret
      exact ⟨rfl, hb1⟩
    · have hrl := hr0.len
      have kn := Lib.hid fun w h => new_any A0 n0 c0 xs0 w h hc0 (by omega)
      have k5 := Lib.hid fun g w h => next_any g 5 w h (by omega)
      have ke : Hid (∀ g w, Dk w g → Calls Try.prog 16 #[.pointer (some ⟨g, 0, none⟩), .int .i64 6, .int .i64 4] w (RetDE w g 4)) := Lib.hid fun g w h => mkevents_any g 6 4 w h (by omega) (by omega) (by omega)
      have ka := Lib.hid fun (J : Option Addr) (m d : Nat) js (A : Option Addr) (n c : Nat) xs w hj hmd h hn hm => jappend_any J m d js A n c xs w hj hmd h hn hm
      have kr := Lib.hid fun (A : Option Addr) (n c : Nat) bs w h hB hc hn => jread_any A n c bs w h hB hc hn
      have ks := Lib.hid fun (A B : Option Addr) (n m c d : Nat) L w h h' hn hL => lsame_any A B n m c d L w h h' hn hL
      go_enter Try.func4, Try.ntmps4
      go_wp2_with fail
      (with_reducible refine (kf.out _).mono ?_); rintro e wf ⟨rfl, hQ⟩; obtain rfl := hQ
      go_wp2_with fail
      (with_reducible refine (kn.out _ h0).mono ?_)
      rintro e w1 ⟨rfl, hD1, hb1, hs1⟩
      go_wp2_with fail
      (with_reducible refine (k5.out _ _ hD1).mono ?_)
      rintro e w2 ⟨k0, rfl, hk0, hk1, _, hD2, hg2⟩
      replace hk1 := hk1 (by omega)
      have BW2 : Below w.heap.size w w2 := hb1.trans (below_of_grown hg2 (Nat.le_refl _) (by omega))
      have hs2 := hg2.size
      clear hb1 hD1 kn k5 h0 hg2
      go_wp2_with fail
      go_loopw [6, 7, 8] (fun o l k wr => ∃ (A : Option Addr) (n c : Nat) (v : Value) (kk : Int) (L : List (List Ev)), o = .slice A n c ∧ n ≤ c ∧ RS BE wr A n (joi L) ∧ Fr (w.heap.size + 1) A ∧ v = l ∧ OL EE 32 wr (w.heap.size + 1) v L ∧ k = .int .i64 kk ∧ 0 ≤ kk ∧ (L.length : Int) + kk ≤ 4 ∧ Hid (Rts L) ∧ Hid (∀ l ∈ L, l.length ≤ 4) ∧ Dk wr w.heap.size ∧ Below w.heap.size w wr ∧ w.heap.size + 1 ≤ wr.heap.size) (fun _ _ k _ => (intOf k).toNat)
      case atStart => exact ⟨none, 0, 0, _, k0, [], rfl, Nat.le_refl _, RS.none_, Fr.none_, rfl, OL.nil_, rfl, hk0, by simp; omega, Lib.hid Rts.nil_, Lib.hid (fun _ h => by cases h), hD2, BW2, by omega⟩
      case round =>
        clear hD2 BW2
        obtain ⟨A, n, c, v, kk, L, rfl, hnc, hr, hf, rfl, ho, rfl, hkk0, hlen, hrt, hl4, hD, hb, hsz⟩ := hrel
        have holt := ho.lt
        have hjl := joi_len4 hl4.out
        have hnl := hr.len
        have hn2b : n ≤ 184 := by omega
        replace hjl := Lib.hid hjl
        replace hnl := Lib.hid hnl
        by_cases hlt : 0 < kk
        · have q1 : decide (0 < kk) = true := by simpa using hlt
          go_wp2_with fail
          (with_reducible refine (ke.out _ _ hD).mono ?_)
          rintro e w3 ⟨A2, n2, c2, xs, rfl, hc2, hr2, hx4, hxs, hD3, hg3, hf2⟩
          have hrj := hr.kept hg3 (fun ad had e => by injection e with e; have := hf ad had; omega)
          have ho3 := ho.grown hg3 (Nat.lt_succ_self _)
          have hb3 := hb.trans (below_of_grown hg3 (Nat.le_refl _) (by omega))
          have hs3 := hg3.size
          have hn2l := hr2.len
          clear hr ho hD hb hg3
          go_wp2_with fail
          (with_reducible refine (ka.out _ _ _ _ _ _ _ _ _ hrj hnc hr2 (by omega) (by omega)).mono ?_)
          rintro e w4 ⟨A3, n3, c3, rfl, hc3, hr3, hb4, hf3⟩
          have ho4 := ho3.below hb4 (Nat.le_refl _)
          have hr24 := hr2.below hb4 (Nat.le_refl _)
          have hrj4 := hrj.below hb4 (Nat.le_refl _)
          have hD4 := hD3.below hb4 (by omega)
          have hb4' := hb3.trans (hb4.mono (by omega))
          have hs4 := hb4.size
          have hck := chks_all hxs (by omega)
          clear ho3 hr2 hrj hD3 hb3 hb4
          by_cases hz : n2 = 0
          · have hx0 : xs = [] := List.eq_nil_of_length_eq_zero (by omega)
            have hw13 : wrE (joi L).length xs = 13 := by
              unfold wrE
              rw [hx0, if_neg (by have := hnl.out; simp; omega)]; rfl
            rw [hw13]
            have q2 : ((n2 : Int) == 0) = true := by simp; omega
            replace hz := Lib.hid hz
            clear hw13 hx0 hck hr3 hr24 hx4 hxs
            go_wp2_with fail
            go_roundw
            case rel => exact ⟨A, n, c, _, kk - 1, L, rfl, hnc, hrj4, hf, rfl, ho4, by go_num, by omega, by omega, hrt, hl4, hD4, hb4', by omega⟩
            case measure => simp [intOf]; omega
          · have q2 : ((n2 : Int) == 0) = false := by simp; omega
            have hw0 : wrE (joi L).length xs = 0 := by
              unfold wrE
              rw [if_neg (by have := hnl.out; omega), if_neg (by omega)]; exact hck
            have hap : apL (joi L) xs = joi (L ++ [xs]) := by unfold apL; rw [if_pos hw0, joi_append, joi_one]
            have hrt' := Lib.hid (hrt.out.snoc (rt_of_wrE hw0))
            have hl4' : Hid (∀ l ∈ L ++ [xs], l.length ≤ 4) := Lib.hid fun l hl => by
              rcases List.mem_append.1 hl with h1 | h1
              · exact hl4.out l h1
              · rw [List.mem_singleton] at h1; rw [h1]; exact hx4
            rw [hap] at hr3
            rw [hw0]
            have hn3 : n3 = n + 6 + 10 * n2 := by rw [← hr3.len, joi_append, joi_one, List.length_append, btc_len, hnl.out, hn2l]; omega
            have q3 : ((n3 : Int) != (n : Int) + 6 + 10 * (n2 : Int)) = false := by simp; omega
            replace hn3 := Lib.hid hn3
            have hin : ∀ ad, A2 = some ad → 0 < n2 → some ad.block ≠ v.ownBlock ∧ w.heap.size + 1 ≤ ad.block ∧ ad.block < w4.heap.size := fun ad had h0 => by
              have e1 := hf2 ad had
              obtain ⟨ad', e2, e3⟩ := hr24.block_lt h0
              rw [had] at e2; injection e2 with e2; subst e2
              exact ⟨fun e => by have := (holt _ e.symm).2; omega, by omega, e3⟩
            clear hw0 hap hck hl4 hrt hxs hrj4 hz
            go_wp2_with (at_builtin; (refine wpList_pushLG Try.underlying27 sli_info rfl _ _ rfl rfl rfl rfl ho4 (by omega) (by omega) hc2 hr24 hin ?_); intro v5 w5 ho5 hb5 hg5 _)
            have hD5 := hD4.below hb5 (Nat.lt_succ_self _)
            have hb5' := hb4'.trans (hb5.mono (Nat.le_succ _))
            have hr5 := hr3.kept hg5 (fun ad had e => by have := (holt _ e.symm).2; have := hf3 ad had; omega)
            have hs5 := hb5.size
            clear ho4 hD4 hb4' hb5 hg5 hr3 hr24 hin
            go_roundw
            case rel => exact ⟨A3, n3, c3, _, kk - 1, _, rfl, hc3, hr5, hf3.mono (by omega), rfl, ho5, by go_num, by omega, by simp; omega, hrt', hl4', hD5, hb5', by omega⟩
            case measure => simp [intOf]; omega
        · have q1 : decide (0 < kk) = false := by simpa using hlt
          have hLb : ∀ l ∈ L, l.length ≤ 1099511627776 := fun l hl => by have := hl4.out l hl; omega
          replace hLb := Lib.hid hLb
          obtain ⟨Al, cl, hv1, hcl, hrl1, hfl⟩ := ho.read
          subst hv1
          have hall := Lib.hid (read_all hrt.out)
          have hjunk := Lib.hid (read_joi hrt.out (one_zero raw))
          clear ho hD
          go_wp2_with fail
          (with_reducible refine (kr.out _ _ _ _ _ hr (joi_byt L) hnc (by omega)).mono ?_)
          rintro e w3 ⟨A3, n3, c3, L3, k3, rfl, hc3, hr3, hrd3, hb3, hf3⟩
          obtain ⟨rfl, rfl⟩ := hrd3.unique hall.out
          rw [hnl.out]
          have hr' := hr.below hb3 (Nat.le_refl _)
          have hrl3 := hrl1.below hb3 (Nat.le_refl _)
          have BW3 := hb.trans (hb3.mono (by omega))
          have hs3 := hb3.size
          clear hb3 hb hr hrl1 hrd3
          go_wp2_with (at_builtin; first
            | (refine wpList_catG tyB rfl _ _ rfl rfl rfl (OS.nil_ (E := BE) (B := w3.heap.size)) hr' (by unfold maxLen; simp; omega) (by simp; omega) (Nat.le_refl _) ?_; intro v4 w4 ho4 hb4 hg4; rw [List.nil_append] at ho4; have hs4 := hb4.size)
            | (refine wpList_pushG tyB (zs := [0, 255]) rfl rfl rfl _ _ rfl rfl rfl rfl ho4 (by unfold maxLen; rw [hnl.out]; simp; omega) (by rw [hnl.out]; simp; omega) hs4 ?_; intro v5 w5 ho5 hb5 hg5; have hs5 := hb5.size; have hlen5 : (joi L3 ++ [0, 255]).length = n + 2 := (by rw [List.length_append, hnl.out]; rfl); replace hlen5 := Lib.hid hlen5)
            | (refine wpList_catG tyB rfl _ _ rfl rfl rfl ho5 (hr0.below (BW3.trans ((hb4.trans hb5).mono BW3.size)) (Nat.le_refl _)) (by unfold maxLen; rw [hlen5.out]; omega) (by rw [hlen5.out]; omega) (by omega) ?_; intro v6 w6 ho6 hb6 hg6; have hb36 := (hb4.trans hb5).trans hb6; obtain ⟨A6, n6, c6, hv6, hn6, hc6, _, hr6, _⟩ := ho6.form; subst hv6; rw [List.length_append, hlen5.out] at hn6; replace hn6 := Lib.hid hn6))
          have hr7 : RS BE w6 A6 n6 (joi L3 ++ ([0, 255] ++ raw)) := by rw [← List.append_assoc]; exact hr6
          have hbyt : Byt (joi L3 ++ ([0, 255] ++ raw)) := (joi_byt L3).append (byt0.append hB)
          have BW6 := BW3.trans (hb36.mono BW3.size)
          have hs36 := hb36.size
          have hra := hr3.below hb36 (Nat.le_refl _)
          have hrw := hrl3.below hb36 (Nat.le_refl _)
          have hn6b : n6 ≤ 1099511627776 := by have := hn6.out; omega
          clear ho4 ho5 ho6 hb4 hb5 hb6 hg4 hg5 hg6 hr6 hb36 hr3 hrl3 hr'
          (with_reducible refine (kr.out _ _ _ _ _ hr7 hbyt hc6 hn6b).mono ?_)
          rintro e w7 ⟨A7, n7, c7, L7, k7, rfl, hc7, hr8, hrd7, hb7, hf7⟩
          obtain ⟨rfl, rfl⟩ := hrd7.unique hjunk.out
          rw [hnl.out]
          have BW7 := BW6.trans (hb7.mono BW6.size)
          have hra7 := hra.below hb7 (Nat.le_refl _)
          have hrw7 := hrw.below hb7 (Nat.le_refl _)
          have hn3l := Lib.hid hra.len
          have hn7l := Lib.hid hr8.len
          have qn : ((n : Int) == (n : Int)) = true := by simp
          go_wp2_with fail
          (with_reducible refine (ks.out _ _ _ _ _ _ _ _ hra7 hrw7 (by have := hn3l.out; omega) hLb.out).mono ?_)
          rintro e w8 ⟨rfl, hb8⟩
          have BW8 := BW7.trans (hb8.mono BW7.size)
          have hr88 := hr8.below hb8 (Nat.le_refl _)
          have hrw8 := hrw7.below hb8 (Nat.le_refl _)
          go_wp2_with fail
          (with_reducible refine (ks.out _ _ _ _ _ _ _ _ hr88 hrw8 (by have := hn7l.out; omega) hLb.out).mono ?_)
          rintro e w9 ⟨rfl, hb9⟩
          have BW9 := BW8.trans (hb9.mono BW8.size)
          go_wp2_with fail
          (with_reducible refine (kaw.out _).mono ?_); rintro e w10 ⟨rfl, hb10⟩
          go_wp2_with fail
          go_ret
          exact ⟨rfl, BW9.trans (hb10.mono BW9.size)⟩
  · rw [decide_eq_false hfew] at kf
    replace kf := Lib.hid kf
    go_enter Try.func4, Try.ntmps4
    go_wp2_with fail
    (with_reducible refine (kf.out _).mono ?_); rintro e wf ⟨rfl, hQ⟩; obtain rfl := hQ
    go_wp2_with fail
    (with_reducible refine (kaw.out _).mono ?_); rintro e w1 ⟨rfl, hb1⟩
    go_wp2_with fail
    go_ret
    exact ⟨rfl, hb1⟩
end Go.Proofs.Ytbaebeackbciaaa
