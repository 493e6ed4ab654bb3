/- The law JournalBatches. -/
import Derived.Test.YtbaebeackbciaaaJouP
import Derived.Test.YtbaebeackbciaaaJouV
set_option linter.unusedVariables false
set_option linter.unusedSimpArgs false
namespace Go.Proofs.Ytbaebeackbciaaa
open Go.RowKit CoEv

theorem jbatches_any (A : Option Addr) (n c k : Nat) (xs : List Ev) (w : World) (h : RS EE w A n xs) (hc : n ≤ c) (hn : n ≤ 1099511627776) (hk : 0 < k) (hk2 : k ≤ 255) :
    Calls Try.prog 26 #[.slice A n c, .int .i64 k] w fun e W' => ∃ m, (∀ j, j < m → j * k < n) ∧ (n ≤ m * k ∨ (st (cks A n k xs m)).2 ≠ 0) ∧ RetGE BE w (btr (cks A n k xs m)) (st (cks A n k xs m)).2 e W' :=
  callsIn_wide.1 (batches_in A n c k xs w h hc hn hk hk2)

set_option maxRecDepth 100000 in
set_option maxHeartbeats 8000000 in
theorem lawBatches_any (A0 : Option Addr) (n0 c0 : Nat) (xs0 : List Int) (size : Nat) (w : World) (h0 : RI w A0 n0 xs0) (hc0 : n0 ≤ c0) (hn0 : n0 ≤ 17592186044416) (hsz : size < 256) :
    Calls Try.prog 8 #[.slice A0 n0 c0, .int .u8 size] w fun e w' => e = .returned (.bool true) ∧ Below w.heap.size w w' := by
  have kaw := Lib.hid fun w => awake35_any w
  have kf := fun w => few_any A0 n0 c0 w
  by_cases hfew : n0 ≤ 500
  · rw [decide_eq_true hfew] at kf
    replace kf := Lib.hid kf
    have kn := Lib.hid fun w h => new_any A0 n0 c0 xs0 w h hc0 (by omega)
    have km : Hid (∀ g w, Dk w g → Calls Try.prog 24 #[.pointer (some ⟨g, 0, none⟩), .int .i64 6, .int .i64 20] w (RetDE w g 20)) := Lib.hid fun g w h => mkmixed_any g 6 20 w h (by omega) (by omega) (by omega)
    have q3 : IntKind.i64.wrap (size : Int) = (size : Int) := by rw [IntKind.wrap_i64]; omega
    have q4 : IntKind.i64.wrap (1 + (size : Int) % 255) = 1 + (size : Int) % 255 := by rw [IntKind.wrap_i64]; omega
    have q5 : 0 ≤ (size : Int) % 255 := by omega
    have q6 : (size : Int) % 255 < 255 := by omega
    have hK : (1 : Int) + (size : Int) % 255 = ((1 + size % 255 : Nat) : Int) := by omega
    have hk : 0 < 1 + size % 255 := by omega
    have hk2 : 1 + size % 255 ≤ 255 := by omega
    replace hK := Lib.hid hK
    replace hk := Lib.hid hk
    replace hk2 := Lib.hid hk2
    go_enter Try.func8, Try.ntmps8
    go_wp2_with fail
    (with_reducible refine (kf.out _).mono ?_); rintro e wf ⟨rfl, hQ⟩; obtain rfl := hQ
    go_wp2_with fail
    (with_reducible refine (kn.out _ h0).mono ?_)
    rintro e w1 ⟨rfl, hD1, hb1, hs1⟩
    go_wp2_with fail
    (with_reducible refine (km.out _ _ hD1).mono ?_)
    rintro e w2 ⟨A, n, c, xs, rfl, hnc, hr, hx20, hx, _, hg2, hf2⟩
    have BW : Below w.heap.size w w2 := hb1.trans (below_of_grown hg2 (Nat.le_refl _) (by omega))
    have hxl := hr.len
    have hn20 : n ≤ 20 := by omega
    replace hx := Lib.hid hx
    replace hxl := Lib.hid hxl
    clear hb1 hD1 hg2 kn km h0
    go_upto_region 5 with fail
    rw [hK.out]
    replace hk := hk.out
    replace hk2 := hk2.out
    clear hK q3 q4 q5 q6
    generalize 1 + size % 255 = K at *
    have kb := Lib.hid fun w h => jbatches_any A n c K xs w h hnc (by omega) hk hk2
    go_wp2_with fail
    (with_reducible refine (kb.out _ hr).mono ?_)
    rintro e w3 ⟨m, hm2, hm1, A3, n3, c3, rfl, hc3, hr3, hb3, hf3⟩
    obtain ⟨g1, g2, g3, g4, g5⟩ := cks_all hxl.out hk hk2 (by omega) hx.out hm2 hm1
    rw [g1]
    rw [g2] at hr3
    have hn3 : n3 = 10 * n + 6 * ((n + K - 1) / K) := by rw [← hr3.len, g5]
    have hfin : ((n3 : Int) == 10 * (n : Int) + 6 * (((n : Int) + (K : Int) - 1) / (K : Int))) = true := by
      rw [beq_iff_eq, hn3]
      have : ((n : Int) + (K : Int) - 1) = ((n + K - 1 : Nat) : Int) := by omega
      rw [this, ← Int.natCast_ediv]; omega
    have hall := Lib.hid (read_all g3)
    have hdiv : (n + K - 1) / K ≤ n + K - 1 := Nat.div_le_self _ _
    have hT : ((n : Int) + (K : Int) - 1) / (K : Int) = (((n + K - 1) / K : Nat) : Int) := by
      have : ((n : Int) + (K : Int) - 1) = ((n + K - 1 : Nat) : Int) := by omega
      rw [this, ← Int.natCast_ediv]
    have j1 : wrap64 (6 * (((n : Int) + (K : Int) - 1) / (K : Int))) = 6 * (((n : Int) + (K : Int) - 1) / (K : Int)) := by
      rw [hT]; unfold wrap64; omega
    have j2 : wrap64 (10 * (n : Int) + 6 * (((n : Int) + (K : Int) - 1) / (K : Int))) = 10 * (n : Int) + 6 * (((n : Int) + (K : Int) - 1) / (K : Int)) := by
      rw [hT]; unfold wrap64; omega
    clear hT
    have hn3b : n3 ≤ 10000 := by omega
    generalize cks A n K xs m = L at *
    have krc := Lib.hid fun w h => jrecover_any A3 n3 c3 (joi L) w h (joi_byt L) hc3 (by omega)
    have BW3 := BW.trans (hb3.mono BW.size)
    have hrx := hr.below hb3 (Nat.le_refl _)
    have hn3l := Lib.hid hr3.len
    replace hn3 := Lib.hid hn3
    replace g4 := Lib.hid g4
    clear g1 g2 g5 hm1 hm2 hb3 hr kb hdiv
    go_wp2_with fail
    (with_reducible refine (krc.out _ hr3).mono ?_)
    rintro e w4 ⟨A7, n7, c7, A8, n8, c8, L7, k7, rfl, hc7, hr7, hc8, hr8, hrd7, hb4, hf7, hf8⟩
    obtain ⟨rfl, rfl⟩ := hrd7.unique hall.out
    rw [g4.out] at hr7
    rw [List.take_length] at hr8
    have hrx4 := hrx.below hb4 (Nat.le_refl _)
    have hr34 := hr3.below hb4 (Nat.le_refl _)
    have BW4 := BW3.trans (hb4.mono BW3.size)
    have kes := Lib.hid fun w h h' => evsame_any A7 A n7 n c7 c xs w h h' (by have := hr7.len; have := hxl.out; omega)
    clear hb4 hrx hr3 hrd7 krc BW3 BW
    go_wp2_with fail
    (with_reducible refine (kes.out _ hr7 hrx4).mono ?_)
    rintro e w5 ⟨rfl, hb5⟩
    have cv1 := conv_str A8 n8 c8 _ w5 (hr8.below hb5 (Nat.le_refl _))
    have cv2 := conv_str A3 n3 c3 _ w5 (hr34.below hb5 (Nat.le_refl _))
    have BW5 := BW4.trans (hb5.mono BW4.size)
    go_wp2_with fail
    all_goals first
      | (exfalso; rename_i hno; rw [j1, j2] at hno; exact hno (eq_of_beq hfin))
      | skip
    (with_reducible refine (kaw.out _).mono ?_); rintro e w9 ⟨rfl, hb9⟩
    go_wp2_with fail
    go_ret
    exact ⟨rfl, BW5.trans (hb9.mono BW5.size)⟩
  · rw [decide_eq_false hfew] at kf
    replace kf := Lib.hid kf
    go_enter Try.func8, Try.ntmps8
    go_wp2_with fail
    (with_reducible refine (kf.out _).mono ?_); rintro e wf ⟨rfl, hQ⟩; obtain rfl := hQ
    go_wp2_with fail
    (with_reducible refine (kaw.out _).mono ?_); rintro e w1 ⟨rfl, hb1⟩
    go_wp2_with fail
    go_ret
    exact ⟨rfl, hb1⟩
end Go.Proofs.Ytbaebeackbciaaa
