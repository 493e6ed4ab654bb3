/- The law JournalChanges. -/
import Derived.Test.YtbaebeackbciaaaJouJ
import Derived.Test.YtbaebeackbciaaaJouO
import Derived.Test.YtbaebeackbciaaaJouS
set_option linter.unusedVariables false
set_option linter.unusedSimpArgs false
namespace Go.Proofs.Ytbaebeackbciaaa
open Go.RowKit CoEv

theorem jend_lt {L : List (List Ev)} {k n : Nat} (hk : k ≤ L.length) (h1 : jend L k ≤ n) (h2 : n < (joi L).length) : k < L.length := by
  rcases Nat.lt_or_ge k L.length with h | h
  · exact h
  · obtain rfl : k = L.length := by omega
    rw [jend_all] at h1; omega

set_option maxRecDepth 100000 in
set_option maxHeartbeats 8000000 in
theorem lawChanges_any (A0 : Option Addr) (n0 c0 : Nat) (xs0 : List Int) (at' by' : Nat) (w : World) (h0 : RI w A0 n0 xs0) (hc0 : n0 ≤ c0) (hn0 : n0 ≤ 17592186044416) (hat : at' < 65536) (hby : by' < 256) :
    Calls Try.prog 3 #[.slice A0 n0 c0, .int .u16 at', .int .u8 by'] w fun e w' => e = .returned (.bool true) ∧ Below w.heap.size w w' := by
  have kaw := Lib.hid fun w => awake35_any w
  have kf := fun w => few_any A0 n0 c0 w
  by_cases hfew : n0 ≤ 500
  · rw [decide_eq_true hfew] at kf
    replace kf := Lib.hid kf
    by_cases hz : by' = 0
    · have q1 : ((by' : Int) == 0) = true := by simp; omega
      replace hz := Lib.hid hz
      go_enter Try.func3, Try.ntmps3
      go_wp2_with fail
      (with_reducible refine (kf.out _).mono ?_); rintro e wf ⟨rfl, hQ⟩; obtain rfl := hQ
      go_wp2_with fail
      (with_reducible refine (kaw.out _).mono ?_); rintro e w1 ⟨rfl, hb1⟩
      go_wp2_with fail
      go_ret
      exact ⟨rfl, hb1⟩
    · have q1 : ((by' : Int) == 0) = false := by simp; omega
      have hbpos : 0 < by' := by omega
      have kn := Lib.hid fun w h => new_any A0 n0 c0 xs0 w h hc0 (by omega)
      have km := Lib.hid fun g w h => made35_any g w h
      go_enter Try.func3, Try.ntmps3
      go_wp2_with fail
      (with_reducible refine (kf.out _).mono ?_); rintro e wf ⟨rfl, hQ⟩; obtain rfl := hQ
      go_wp2_with fail
      (with_reducible refine (kn.out _ h0).mono ?_)
      rintro e w1 ⟨rfl, hD1, hb1, hs1⟩
      go_wp2_with fail
      (with_reducible refine (km.out _ _ hD1).mono ?_)
      rintro e w2 ⟨A, n, c, B, m, d, L, rfl, hnc, hr, hmd, hrL, hrt, hL3, hl5, _, hg2, hfA, hfB⟩
      have BW : Below w.heap.size w w2 := hb1.trans (below_of_grown hg2 (Nat.le_refl _) (by omega))
      have hnl := hr.len
      have hml := hrL.len
      have hjl := joi_len hl5
      have hrt' := Lib.hid hrt
      have hl5' := Lib.hid hl5
      clear hb1 hD1 hg2 kn km hrt hl5 h0
      by_cases hj0 : n = 0
      · have q2 : ((n : Int) == 0) = true := by simp; omega
        replace hj0 := Lib.hid hj0
        clear hr hrL hnl hml hjl
        go_wp2_with fail
        (with_reducible refine (kaw.out _).mono ?_); rintro e w3 ⟨rfl, hb3⟩
        go_wp2_with fail
        go_ret
        exact ⟨rfl, BW.trans (hb3.mono BW.size)⟩
      · have q2 : ((n : Int) == 0) = false := by simp; omega
        have hj1 : 0 < n := by omega
        have hn168 : n ≤ 168 := by omega
        have q3 : IntKind.i64.wrap (at' : Int) = (at' : Int) := by rw [IntKind.wrap_i64]; omega
        have hi : at' % n < n := Nat.mod_lt _ hj1
        obtain ⟨x, hxi⟩ : ∃ x, (joi L)[at' % n]? = some x := ⟨_, List.getElem?_eq_getElem (by omega)⟩
        replace hxi := Lib.hid hxi
        have hxb := (joi_byt L).at_ hxi.out
        have hxor := u8_xor_nat x by' hxb hby
        have hxlt : x ^^^ by' < 256 := Nat.xor_lt_two_pow (n := 8) hxb hby
        have hne : Hid (x ≠ x ^^^ by') := Lib.hid fun e => by
          have := xor_inj' (s := x) (x := 0) (y := by') (by rw [Nat.xor_zero]; exact e)
          omega
        have hs2 := BW.size
        go_wp2_with (at_builtin; refine wpList_catG tyB rfl _ _ rfl rfl rfl (OS.nil_ (E := BE) (B := w2.heap.size)) hr (by unfold maxLen; simp; omega) (by simp; omega) (Nat.le_refl _) ?_; intro v3 w3 ho3 hb3 hg3; rw [List.nil_append] at ho3; obtain ⟨g, cap, hv3, hcap, hmx, hgB, hgl, hfz, hcl, hst⟩ := ho3.bytes (by omega); subst hv3; have hc1 := hcl _ _ hxi.out; have hf1 := hfz (at' % n); clear hcl hfz; replace hst := Lib.hid hst; rw [hnl] at hcap ⊢)
        have ho4 := hst.out (at' % n) (x ^^^ by')
        have hb4 := hb3.setCell (p := ⟨g, at' % n, none⟩) hgB (.int .u8 ((x ^^^ by' : Nat) : Int))
        have hbd := set_byt (i := at' % n) (joi_byt L) hxlt
        rw [← Int.natCast_emod]
        clear hst hc1 hf1 ho3 hb3 hg3 hxor q3
        have hslen : ((joi L).set (at' % n) (x ^^^ by')).length = n := by rw [List.length_set, hnl]
        generalize w3.setCell ⟨g, at' % n, none⟩ (.int .u8 ((x ^^^ by' : Nat) : Int)) = w4 at *
        generalize at' % n = N at *
        have hrL4 := hrL.below hb4 (Nat.le_refl _)
        have BW4 := BW.trans (hb4.mono hs2)
        have hrb := (ho4.rs (by rw [hslen, hnl])).1
        rw [hnl] at hrb
        have hread : ∀ k l, L[k]? = some l → jend L k ≤ N → N < jend L k + 6 + 10 * l.length → IsRead ((joi L).set N (x ^^^ by')) (L.take k) (jend L k) := fun k l hl h1 h2 => read_changed hrt'.out hl h1 h2 hxi.out hxlt hne.out
        replace hread := Lib.hid hread
        have hjn : (joi L).length = n := hnl
        replace hjn := Lib.hid hjn
        replace hslen := Lib.hid hslen
        clear hrL hb4 hr ho4 hxb hne hxi
        have hmL := Lib.hid hml
        go_loop [11, 12] (fun k e => ∃ kk : Nat, kk ≤ L.length ∧ k = .int .i64 kk ∧ e = .int .i64 (jend L kk : Nat) ∧ jend L kk ≤ N) (fun k _ => L.length - (intOf k).toNat)
        case atStart => exact ⟨0, Nat.zero_le _, rfl, rfl, Nat.zero_le _⟩
        case round =>
          obtain ⟨kk, hkL, rfl, rfl, hend⟩ := hrel
          have hklt : kk < L.length := jend_lt hkL hend (by have := hjn.out; omega)
          obtain ⟨bd, A5, n5, c5, l, rfl, hcl, hyl, hnc5, hr5, hbl5⟩ := hrL4.get (i := kk) (by omega)
          have hl5l := hl5'.out l (List.mem_of_getElem? hyl.out)
          have hn5 := hr5.len
          rw [hn5] at hl5l
          have hsucc := jend_succ hyl.out
          rw [hn5] at hsucc
          have hrd := hread.out kk l hyl.out hend
          rw [hn5] at hrd
          have i2 : (0 : Int) ≤ (kk : Int) := Int.natCast_nonneg _
          have i3 : (kk : Int) < (m : Int) := by omega
          have hNb : N < 168 + 1 := by have := hjn.out; omega
          by_cases hgo : jend L kk + 6 + 10 * n5 ≤ N
          · have q5 : decide ((jend L kk : Int) + 6 + 10 * (n5 : Int) ≤ (N : Int)) = true := by simp; omega
            have hsucc' : ((jend L kk : Nat) : Int) + (6 + 10 * (n5 : Int)) = ((jend L (kk + 1) : Nat) : Int) := by omega
            replace hsucc := Lib.hid hsucc
            clear hrd hyl hr5
            go_wp2_with fail
            go_round
            case rel => exact ⟨kk + 1, by omega, by go_num, by first | rfl | rw [hsucc'], by have := hsucc.out; omega⟩
            case measure => simp [intOf]; omega
          · have q5 : decide ((jend L kk : Int) + 6 + 10 * (n5 : Int) ≤ (N : Int)) = false := by simp; omega
            have hrd' := Lib.hid (hrd (by omega))
            clear hrd hyl hr5 hsucc
            have kr := Lib.hid fun w h hc hn => jread_any (some ⟨g, 0, none⟩) n cap ((joi L).set N (x ^^^ by')) w h hbd hc hn
            go_wp2_with fail
            (with_reducible refine (kr.out _ hrb hcap (by omega)).mono ?_)
            rintro e w5 ⟨A6, n6, c6, L6, k6, rfl, hc6, hr6, hrd6, hb6, hf6⟩
            obtain ⟨rfl, rfl⟩ := hrd6.unique hrd'.out
            have hL6 := (hrL4.below hb6 (Nat.le_refl _)).head (k := kk) (by omega)
            have ksm := Lib.hid fun w h h' => lsame_any A6 (some bd) n6 kk c6 d (L.take kk) w h h' (by have := hr6.len; rw [List.length_take] at this; omega) (fun l hl => by have := hl5'.out l (List.mem_of_mem_take hl); omega)
            have BW5 := BW4.trans (hb6.mono BW4.size)
            have i4 : (kk : Int) ≤ (d : Int) := by omega
            go_wp2_with fail
            (with_reducible refine (ksm.out _ hr6 hL6).mono ?_)
            rintro e w6 ⟨rfl, hb7⟩
            go_wp2_with fail
            (with_reducible refine (kaw.out _).mono ?_); rintro e w7 ⟨rfl, hb8⟩
            go_wp2_with fail
            go_ret
            exact ⟨rfl, (BW5.trans (hb7.mono BW5.size)).trans (hb8.mono (BW5.trans (hb7.mono BW5.size)).size)⟩
  · rw [decide_eq_false hfew] at kf
    replace kf := Lib.hid kf
    go_enter Try.func3, Try.ntmps3
    go_wp2_with fail
    (with_reducible refine (kf.out _).mono ?_); rintro e wf ⟨rfl, hQ⟩; obtain rfl := hQ
    go_wp2_with fail
    (with_reducible refine (kaw.out _).mono ?_); rintro e w1 ⟨rfl, hb1⟩
    go_wp2_with fail
    go_ret
    exact ⟨rfl, hb1⟩
end Go.Proofs.Ytbaebeackbciaaa
