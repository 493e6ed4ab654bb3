/- The law CoreNumbers: its walk. -/
import Derived.Test.YtciehcageghggaaDoorLawO
import Derived.Test.YtciehcageghggaaDoorRCoC
import Derived.IntWalk
import Derived.Lib.AtoiErrMem
set_option linter.unusedVariables false
namespace Go.Proofs.YtciehcageghggaaDoor
open Go.RowKit CoBit

theorem coreL_unique {n : Int} {es : List (Int × Int)} {k : Int} {a b : List Int} (ha : CoreL n es k a) (hb : CoreL n es k b) : a = b := by
  by_cases hz : chkG n es = 0
  · exact sorted_ext (ha.1 hz).1.2 (hb.1 hz).1.2 fun x => ((ha.1 hz).2 x).trans ((hb.1 hz).2 x).symm
  · rw [ha.2 hz, hb.2 hz]
/-- A list of two graphs in memory. -/
def GL (w : World) (ad : Addr) : Prop := ∀ j, j < 2 → ∃ (n : Int) (A : Option Addr) (m c : Nat) (es : List (Int × Int)), w.cell? (ad.add (j * 2)) = some (.int .i64 n) ∧ w.cell? ⟨(ad.add (j * 2)).block, (ad.add (j * 2)).off + 1, none⟩ = some (.slice A m c) ∧ RE w A m es ∧ m ≤ 81
theorem GL.below {w w' : World} {ad : Addr} (h : GL w ad) (hb : Below w.heap.size w w') : GL w' ad := fun j hj => by
  obtain ⟨n, A, m, c, es, h1, h2, h3, h4⟩ := h j hj
  exact ⟨n, A, m, c, es, by rw [hb.cell (Lib.lt_of_cell h1)]; exact h1, by rw [hb.cell (Lib.lt_of_cell h2)]; exact h2, h3.below hb (Nat.le_refl _), h4⟩

theorem same_self (A A' : Option Addr) (n c n' c' : Nat) (xs : List Int) (w : World) (h : RI w A n xs) (hn : n ≤ 1099511627776) (h' : RI w A' n' xs) (hn' : n' ≤ 1099511627776) :
    Calls Tryd.prog 20 #[.slice A n c, .slice A' n' c'] w fun e w' => e = .returned (.bool true) ∧ ∃ q, w' = w.drewN q := by
  have h1 := same_any A A' n c n' c' xs xs w h hn h' hn'
  have e : decide (xs = xs) = true := by simp
  rwa [e] at h1

set_option maxRecDepth 100000 in
set_option maxHeartbeats 2000000 in
theorem lawNumbers_any (n0 : Int) (AG : Option Addr) (mG cG : Nat) (eG : List (Int × Int)) (A0 : Option Addr) (m0 c0 : Nat) (l : List Int) (K0 : Int) (w : World) (hT : Tab w) (hG0 : RE w AG mG eG) (hmG : mG ≤ 68719476736 ∨ 40 < mG) (hmG2 : mG ≤ 8796093022208) (h0 : RI w A0 m0 l) (hmc : m0 ≤ c0) (hm0 : m0 ≤ 1152921504606846976) :
    Calls Tryd.prog 8 #[.agg #[.int .i64 n0, .slice AG mG cG], .slice A0 m0 c0, .int .i64 K0] w fun e w' => e = .returned (.bool true) ∧ Below w.heap.size w w' := by
  by_cases h40 : 40 < mG
  · have hT1 := hT.alloc (.cells #[.int .i64 n0, .slice AG mG cG] 28)
    go_enter Tryd.func8, Tryd.ntmps8
    go_wp2_with fail
    refine (awake_any _ hT1).mono ?_
    rintro e w1 ⟨rfl, hb1⟩
    simp only [World.size_alloc] at hb1
    have hbb : Below w.heap.size w w1 := ((Below.refl _ _).alloc (Nat.le_refl _) _).trans (hb1.mono (by omega))
    go_wp2_with fail
    go_ret
    exact ⟨rfl, hbb⟩
  · have hmG3 : mG ≤ 40 := by omega
    obtain ⟨K, hK⟩ : ∃ K, K = K0 % 7 := ⟨_, rfl⟩
    have hK0 : 0 ≤ K := by omega
    have hK1 : K < 7 := by omega
    have hm := fun w => mkmod_any K0 7 w (by omega) (by omega)
    rw [← hK] at hm
    replace hm := Lib.hid hm
    clear hK hmG hmG2
    have hB0 := Blk.new w 28 #[.int .i64 n0, .slice AG mG cG]
    have hr0 := hG0.alloc (.cells #[.int .i64 n0, .slice AG mG cG] 28)
    have hb0 : Below w.heap.size w (w.alloc (.cells #[.int .i64 n0, .slice AG mG cG] 28)) := (Below.refl _ _).alloc (Nat.le_refl _) _
    have hh0 := h0.alloc (.cells #[.int .i64 n0, .slice AG mG cG] 28)
    clear h0
    go_enter Tryd.func8, Tryd.ntmps8
    by_cases h12 : 12 < n0
    case' pos =>
      go_wp2_with fail
      refine (rcheck_any AG mG cG n0 eG _ hr0 (by omega)).mono ?_
      rintro e w1 ⟨rfl, hb1⟩
      have hB1 := hB0.below hb1 (by simp)
      have hr1 := hr0.below hb1 (Nat.le_refl _)
      have hh1 := RI.below hh0 hb1 (Nat.le_refl _)
      have hbb1 := hb0.trans (hb1.mono (by simp))
      have hl1 : w.heap.size < w1.heap.size := by have := hb1.size; simp at this; omega
      clear hB0 hr0 hh0 hb0 hb1
      obtain ⟨k10, k11⟩ := blk2 hB1
      by_cases hc0 : chkG n0 eG = 0
      · have hT1 := hT.keep hbb1
        rw [hc0]
        clear hc0
        go_wp2_with fail
        refine (awake_any _ hT1).mono ?_
        rintro e w2 ⟨rfl, hb2⟩
        have hbb2 := hbb1.trans (hb2.mono (by omega))
        clear hb2 hbb1 hT1
        go_wp2_with fail
        go_ret
        exact ⟨rfl, hbb2⟩
      have hcz : (chkG n0 eG == 0) = false := by rw [beq_eq_false_iff_ne]; exact hc0
      clear hc0
      go_wp2_with fail
    case' neg =>
      have hB1 := hB0
      have hr1 := hr0
      have hh1 := hh0
      have hbb1 := hb0
      have hl1 : w.heap.size < (w.alloc (.cells #[.int .i64 n0, .slice AG mG cG] 28)).heap.size := by simp
      clear hB0 hr0 hh0 hb0
      obtain ⟨k10, k11⟩ := blk2 hB1
      go_wp2_with fail
      generalize w.alloc (.cells #[.int .i64 n0, .slice AG mG cG] 28) = w1 at *
    all_goals
      refine (new_any A0 m0 c0 l _ hh1 hmc hm0).mono ?_
      rintro e w2 ⟨rfl, hd2, hb2, hs2⟩
      have hB2 := hB1.below hb2 hl1
      have hr2 := hr1.below hb2 (Nat.le_refl _)
      have hbb2 := hbb1.trans (hb2.mono (by omega))
      clear hB1 hr1 hh1 hbb1 hb2 k10 k11
      go_wp2_with fail
      refine (mkgraph_any _ 9 _ hd2 (by omega)).mono ?_
      rintro e w3 ⟨n, es, A, m, c, rfl, hmcc, hr3, hf3, hsrt, hn9, -, hg3⟩
      have hlen : m ≤ 81 := by
        have h1 := srt_len hsrt
        have h2 := hr3.len
        have h3 : n * n ≤ 9 * 9 := Nat.mul_le_mul hn9 hn9
        omega
      have hb3 := grown_is_below hg3 (Nat.le_refl _) (by omega)
      have hB3 := hB2.below hb3 hl1
      have hbb3 := hbb2.trans (hb3.mono (by omega))
      have hrg3 := hG0.below hbb3 (Nat.le_refl _)
      obtain ⟨k30, k31⟩ := blk2 hB3
      have hl3 : w.heap.size < w3.heap.size := by have := hg3.size; omega
      have hs3 := hbb3.size
      clear hsrt hf3 hg3 hr2 hB2 hbb2 hb3
      go_wp2_with fail
      have hGL : GL ((w3.alloc (.cells #[.int .i64 n, .slice A m c] 28)).alloc (.cells #[.int .i64 n, .slice A m c, .int .i64 n0, .slice AG mG cG] 28)) ⟨w3.heap.size + 1, 0, none⟩ := by
        have hBk : Blk ((w3.alloc (.cells #[.int .i64 n, .slice A m c] 28)).alloc (.cells #[.int .i64 n, .slice A m c, .int .i64 n0, .slice AG mG cG] 28)) (w3.heap.size + 1) 28 #[.int .i64 n, .slice A m c, .int .i64 n0, .slice AG mG cG] := by
          have := Blk.new (w3.alloc (.cells #[.int .i64 n, .slice A m c] 28)) 28 #[.int .i64 n, .slice A m c, .int .i64 n0, .slice AG mG cG]
          rwa [World.size_alloc] at this
        intro j hj
        have hjj : j = 0 ∨ j = 1 := by omega
        rcases hjj with rfl | rfl
        · exact ⟨n, A, m, c, es, hBk.cell 0, hBk.cell 1, (hr3.alloc _).alloc _, hlen⟩
        · exact ⟨n0, AG, mG, cG, eG, hBk.cell 2, hBk.cell 3, (hrg3.alloc _).alloc _, by omega⟩
      have hbb5 := (hbb3.alloc hs3 (.cells #[.int .i64 n, .slice A m c] 28)).alloc (by simp; omega) (.cells #[.int .i64 n, .slice A m c, .int .i64 n0, .slice AG mG cG] 28)
      clear hB3 k30 k31 hr3 hrg3 hbb3 hG0
      generalize (w3.alloc (.cells #[.int .i64 n, .slice A m c] 28)).alloc (.cells #[.int .i64 n, .slice A m c, .int .i64 n0, .slice AG mG cG] 28) = w5 at *
      generalize (⟨w3.heap.size + 1, 0, none⟩ : Addr) = ad at *
      replace hGL := Lib.hid hGL
      have hs5 := hbb5.size
      go_loopw [50] (fun i wr => ∃ j : Nat, j ≤ 2 ∧ i = .int .i64 j ∧ Below w5.heap.size w5 wr) (fun i _ => 2 - (intOf i).toNat)
      case atStart => exact ⟨0, by omega, rfl, Below.refl _ _⟩
      case round =>
        obtain ⟨j, hj, rfl, hb⟩ := hrel
        have hs6 := hb.size
        by_cases hlt : j < 2
        · obtain ⟨n, A, m, c, es, k1, k2, hr, hlen⟩ := hGL.out.below hb j hlt
          go_wp2_with fail
          have hbw := hbb5.trans (hb.mono hs5)
          have hswr := hbw.size
          have hB6 := Blk.new wr 28 #[.int .i64 n, .slice A m c]
          have hr6 := hr.alloc (.cells #[.int .i64 n, .slice A m c] 28)
          have hbw6 := hbw.alloc hswr (.cells #[.int .i64 n, .slice A m c] 28)
          have hb6 := hb.alloc hs6 (.cells #[.int .i64 n, .slice A m c] 28)
          clear k1 k2 hr hbw hb
          generalize wr.alloc (.cells #[.int .i64 n, .slice A m c] 28) = w6 at *
          generalize hgg : wr.heap.size = gg at *
          clear hgg
          have hgl6 := hB6.lt
          have hs6' := hb6.size
          have hT6 := hT.keep hbw6
          obtain ⟨zz, hzz⟩ : ∃ zz, zz = chkG n es := ⟨_, rfl⟩
          replace hzz := Lib.hid hzz
          refine (cNumbers_any A m c n es w6 hT6 hr6 (by omega)).mono ?_
          rintro e w7 ⟨l1, ⟨A7, n7, c7, rfl, hn7, hr7, hb7, hf7⟩, hN1⟩
          replace hN1 := Lib.hid hN1
          rw [← hzz.out]
          have hs7 := hb7.size
          have hB7 := hB6.below hb7 hgl6
          have hE7 := hr6.below hb7 (Nat.le_refl _)
          have hb67 := hb7
          obtain ⟨k1, k2⟩ := blk2 hB7
          clear hr6 hB6 hT6
          go_wp2_with fail
          refine (rNumbers_any A m c n es w7 hE7 (by omega)).mono ?_
          rintro e w8 ⟨l2, ⟨A8, n8, c8, rfl, hn8, hr8, hb8, hf8⟩, hN2⟩
          obtain rfl := numsL_unique hN1.out hN2
          rw [← hzz.out]
          have hs8 := hb8.size
          have hB8 := hB7.below hb8 hB7.lt
          have hE8 := hE7.below hb8 (Nat.le_refl _)
          have hr78 := RI.below hr7 hb8 (Nat.le_refl _)
          have hb68 := hb67.trans (hb8.mono hs7)
          obtain ⟨k3, k4⟩ := blk2 hB8
          have hT8 := hT.keep (hbw6.trans (hb68.mono (by omega)))
          clear hE7 hB7 hr7 hb8 hb7 hb67 hN2 k1 k2
          go_wp2_with fail
          refine (cDegeneracy_any A m c n es w8 hT8 hE8 (by omega)).mono ?_
          rintro e w9 ⟨l3, rfl, hN3, hb9⟩
          obtain rfl := numsL_unique hN1.out hN3
          rw [← hzz.out]
          have hs9 := hb9.size
          have hB9 := hB8.below hb9 hB8.lt
          have hE9 := hE8.below hb9 (Nat.le_refl _)
          have hr79 := RI.below hr78 hb9 (Nat.le_refl _)
          have hr89 := RI.below hr8 hb9 (Nat.le_refl _)
          have hb69 := hb68.trans (hb9.mono (by omega))
          obtain ⟨k1, k2⟩ := blk2 hB9
          clear hE8 hB8 hr78 hr8 hb9 hb68 hN3 k3 k4 hT8
          go_wp2_with fail
          refine (rDegeneracy_any A m c n es w9 hE9 (by omega)).mono ?_
          rintro e w10 ⟨l3, rfl, hN3, hb10⟩
          obtain rfl := numsL_unique hN1.out hN3
          rw [← hzz.out]
          have hs10 := hb10.size
          have hB10 := hB9.below hb10 hB9.lt
          have hE10 := hE9.below hb10 (Nat.le_refl _)
          have hr70 := RI.below hr79 hb10 (Nat.le_refl _)
          have hr80 := RI.below hr89 hb10 (Nat.le_refl _)
          have hb60 := hb69.trans (hb10.mono (by omega))
          obtain ⟨k3, k4⟩ := blk2 hB10
          have hT10 := hT.keep (hbw6.trans (hb60.mono (by omega)))
          generalize maxL l1 = D at *
          clear hE9 hB9 hr79 hr89 hb10 hb69 hN3 k1 k2
          go_wp2_with fail
          refine (cOrder_any A m c n es w10 hT10 hE10 (by omega)).mono ?_
          rintro e w11 ⟨o1, ⟨A11, n11, c11, rfl, hn11, hr11, hb11, hf11⟩, hO1⟩
          replace hO1 := Lib.hid hO1
          rw [← hzz.out]
          have hs11 := hb11.size
          have hB11 := hB10.below hb11 hB10.lt
          have hE11 := hE10.below hb11 (Nat.le_refl _)
          have hr71 := RI.below hr70 hb11 (Nat.le_refl _)
          have hr81 := RI.below hr80 hb11 (Nat.le_refl _)
          have hb61 := hb60.trans (hb11.mono (by omega))
          obtain ⟨k1, k2⟩ := blk2 hB11
          clear hE10 hB10 hr70 hr80 hb11 hb60 k3 k4 hT10
          go_wp2_with fail
          refine (rOrder_any A m c n es w11 hE11 (by omega)).mono ?_
          rintro e w12 ⟨o2, ⟨A12, n12, c12, rfl, hn12, hr12, hb12, hf12⟩, hO2⟩
          obtain rfl := isOrd_unique hO1.out hO2
          rw [← hzz.out]
          have hs12 := hb12.size
          have hB12 := hB11.below hb12 hB11.lt
          have hE12 := hE11.below hb12 (Nat.le_refl _)
          have hr72 := RI.below hr71 hb12 (Nat.le_refl _)
          have hr82 := RI.below hr81 hb12 (Nat.le_refl _)
          have hr112 := RI.below hr11 hb12 (Nat.le_refl _)
          have hb62 := hb61.trans (hb12.mono (by omega))
          obtain ⟨k3, k4⟩ := blk2 hB12
          clear hE11 hB11 hr71 hr81 hr11 hb12 hb61 hO2 k1 k2
          have hbd : n7 ≤ 64 ∧ n8 ≤ 64 ∧ n11 ≤ 64 ∧ n12 ≤ 64 := by
            have e1 := hr72.len
            have e2 := hr82.len
            have e3 := hr112.len
            have e4 := hr12.len
            by_cases hz : chkG n es = 0
            · have h1 := (hN1.out.1 hz).1
              have h2 := (hO1.out.1 hz).2
              have h3 := chkG_zero hz
              omega
            · have h1 := hN1.out.2 hz
              have h2 := hO1.out.2 hz
              subst h1; subst h2
              simp at e1 e2 e3 e4
              omega
          obtain ⟨hbd1, hbd2, hbd3, hbd4⟩ := hbd
          have sm1 := Lib.hid (same_self A7 A8 n7 c7 n8 c8 l1 w12 hr72 (by omega) hr82 (by omega))
          clear hr72 hr82
          go_wp2_with fail
          refine sm1.out.mono ?_
          rintro e w13 ⟨rfl, q, hw13⟩
          have sm2 := same_self A11 A12 n11 c11 n12 c12 o1 _ (hr112.drewN q) (by omega) (hr12.drewN q) (by omega)
          rw [← hw13] at sm2
          replace sm2 := Lib.hid sm2
          have hB13 : Blk w13 gg 28 #[.int .i64 n, .slice A m c] := by rw [hw13]; exact hB12.drewN q
          have hE13 : RE w13 A m es := by rw [hw13]; exact hE12.drewN q
          have hb63 : Below w6.heap.size w6 w13 := by rw [hw13]; exact below_drewN hb62 q
          clear hr112 hr12 hw13 sm1 hB12 hE12 hb62 k3 k4
          go_wp2_with fail
          refine sm2.out.mono ?_
          rintro e w14 ⟨rfl, q, hw14⟩
          have hB14 : Blk w14 gg 28 #[.int .i64 n, .slice A m c] := by rw [hw14]; exact hB13.drewN q
          have hE14 : RE w14 A m es := by rw [hw14]; exact hE13.drewN q
          have hb64 : Below w6.heap.size w6 w14 := by rw [hw14]; exact below_drewN hb63 q
          clear hw14 sm2 hB13 hE13 hb63
          go_wp2_with fail
          refine (hm.out _).mono ?_
          rintro e w15 ⟨rfl, rfl⟩
          go_wp2_with fail
          have hs14 := hb64.size
          have hRK : RI (w14.alloc (.cells #[.int .i64 K0, .int .i64 (K - 1)] 3)) (some ⟨w14.heap.size, 0, none⟩) 2 [K0, K - 1] := (Blk.reads (Blk.new w14 3 #[.int .i64 K0, .int .i64 (K - 1)]) rfl rfl : Reads _ _ 1 _ 2 (ints [K0, K - 1]))
          have hB15 := hB14.alloc (.cells #[.int .i64 K0, .int .i64 (K - 1)] 3)
          have hE15 := hE14.alloc (.cells #[.int .i64 K0, .int .i64 (K - 1)] 3)
          have hb65 := hb64.alloc hs14 (.cells #[.int .i64 K0, .int .i64 (K - 1)] 3)
          clear hB14 hE14 hb64
          generalize w14.alloc (.cells #[.int .i64 K0, .int .i64 (K - 1)] 3) = w15 at *
          generalize (⟨w14.heap.size, 0, none⟩ : Addr) = ad2 at *
          have hs15 := hb65.size
          go_loopw [120] (fun i wr2 => ∃ j : Nat, j ≤ 2 ∧ i = .int .i64 j ∧ Below w15.heap.size w15 wr2) (fun i _ => 2 - (intOf i).toNat)
          case atStart => exact ⟨0, by omega, rfl, Below.refl _ _⟩
          case round =>
            obtain ⟨i, hi, rfl, hbi⟩ := hrel
            have hs16 := hbi.size
            have hb66 := hb65.trans (hbi.mono (by omega))
            by_cases hlt2 : i < 2
            · obtain ⟨ad3, y, e3, hy, hcy⟩ := (RI.below hRK hbi (Nat.le_refl _)).get hlt2
              injection e3 with e3
              subst e3
              have hB16 := hB15.below hbi hB15.lt
              have hE16 := hE15.below hbi (Nat.le_refl _)
              have hT16 := hT.keep (hbw6.trans (hb66.mono (by omega)))
              obtain ⟨k1, k2⟩ := blk2 hB16
              clear hy
              go_wp2_with fail
              refine (cCore_any A m c n y es _ hT16 hE16 (by omega)).mono ?_
              rintro e w17 ⟨q1, ⟨A17, n17, c17, rfl, hn17, hr17, hb17, hf17⟩, hC1⟩
              rw [← hzz.out]
              replace hC1 := Lib.hid hC1
              have hs17 := hb17.size
              have hB17 := hB16.below hb17 hB16.lt
              have hE17 := hE16.below hb17 (Nat.le_refl _)
              have hbi17 := hbi.trans (hb17.mono hs16)
              obtain ⟨k3, k4⟩ := blk2 hB17
              clear hB16 hE16 hT16 hb17 k1 k2 hcy hb66 hbi
              go_wp2_with fail
              refine (rCore_any A m c n es y w17 hE17 (by omega)).mono ?_
              rintro e w18 ⟨q2, ⟨A18, n18, c18, rfl, hn18, hr18, hb18, hf18⟩, hC2⟩
              obtain rfl := coreL_unique hC1.out hC2
              rw [← hzz.out]
              have hr178 := RI.below hr17 hb18 (Nat.le_refl _)
              have hbi18 := hbi17.trans (hb18.mono (by omega))
              have hbd : n17 ≤ 64 ∧ n18 ≤ 64 := by
                have e1 := hr178.len
                have e2 := hr18.len
                by_cases hz : chkG n es = 0
                · have h1 := (hC1.out.1 hz).1
                  have h3 := chkG_zero hz
                  obtain ⟨u, rfl⟩ := Int.eq_ofNat_of_zero_le h3.1
                  have h4 := vld_length h1
                  omega
                · have h1 := hC1.out.2 hz
                  subst h1
                  simp at e1 e2
                  omega
              obtain ⟨hbd5, hbd6⟩ := hbd
              have sm3 := Lib.hid (same_self A17 A18 n17 c17 n18 c18 q1 w18 hr178 (by omega) hr18 (by omega))
              clear hr178 hr18 hr17 hbi17 hb18 hB17 hE17 k3 k4 hC2
              go_wp2_with fail
              refine sm3.out.mono ?_
              rintro e w19 ⟨rfl, q, hw19⟩
              have hbi19 : Below w15.heap.size w15 w19 := by rw [hw19]; exact below_drewN hbi18 q
              clear hw19 sm3 hbi18
              go_wp2_with fail
              go_roundw
              case rel => exact ⟨i + 1, by omega, by go_num, hbi19⟩
              case measure => simp [intOf]; omega
            · have hb5w := hb6.trans (hb66.mono (by omega))
              clear hbi hb65 hB15 hE15 hRK hb66
              go_wp2_with fail
              go_roundw
              case rel => exact ⟨j + 1, by omega, by go_num, hb5w⟩
              case measure => simp [intOf]; omega
        · have hbw := hbb5.trans (hb.mono hs5)
          have hTw := hT.keep hbw
          clear hb hbb5
          go_wp2_with fail
          refine (awake_any _ hTw).mono ?_
          rintro e w6 ⟨rfl, hb6⟩
          have hbb6 := hbw.trans (hb6.mono hbw.size)
          clear hb6 hbw hTw
          go_wp2_with fail
          go_ret
          exact ⟨rfl, hbb6⟩
end Go.Proofs.YtciehcageghggaaDoor
