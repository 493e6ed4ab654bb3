/- The law CliquecountSums: its walk. -/
import Derived.Test.YtknlmgcbdcepnaaDoorCliS
import Derived.Test.YtknlmgcbdcepnaaDoorLwcA
import Derived.Test.YtknlmgcbdcepnaaDoorSrtM
set_option linter.unusedVariables false
set_option linter.unusedSimpArgs false
namespace Go.Proofs.YtknlmgcbdcepnaaDoor
open Go.RowKit CoBit CoCli

theorem Tab.drew_ {w : World} (h : Tab w) : Tab w.drew := h
set_option maxRecDepth 100000 in
set_option maxHeartbeats 20000000 in
theorem lawSums_any (A0 : Option Addr) (m0 c0 : Nat) (l : List Int) (sz : Nat) (hsz : sz < 256) (w : World) (hT : Tab w) (h0 : RI w A0 m0 l) (hmc : m0 ≤ c0) (hm0 : m0 ≤ 1152921504606846976) :
    Calls Tryd.prog 8 #[.slice A0 m0 c0, .int .u8 sz] w fun e w' => e = .returned (.bool true) ∧ Below w.heap.size w w' := by
  have kf := fun w => few_any A0 m0 c0 w
  by_cases hfew : m0 ≤ 500
  · have hv : decide (m0 ≤ 500) = true := by simpa using hfew
    rw [hv] at kf
    replace kf := Lib.hid kf
    clear hv hfew
    obtain ⟨t, ht⟩ : ∃ t, t = sz % 5 := ⟨_, rfl⟩
    have ht3 : t ≤ 4 := by omega
    obtain ⟨S, hS⟩ : ∃ S : Int, S = ((t + 2 : Nat) : Int) := ⟨_, rfl⟩
    have es0 : (2 : Int) + (sz : Int) % 5 = S := by omega
    have S3 : 2 ≤ S := by omega
    have S6 : S ≤ 6 := by omega
    replace hS := Lib.hid hS
    clear ht
    go_enter Tryd.func8, Tryd.ntmps8
    go_wp2_with fail
    refine (kf.out _).mono ?_
    rintro e w1 ⟨rfl, rfl⟩
    go_wp2_with fail
    refine (new_any A0 m0 c0 l w h0 hmc hm0).mono ?_
    rintro e w1 ⟨rfl, hd1, hb1, hs1⟩
    go_wp2_with fail
    refine (mkgraph_any _ 9 _ hd1 (by omega)).mono ?_
    rintro e w2 ⟨n, es, A, m, c, rfl, hmcc, hr2, hf2, hsrt, hn9, hd2, hg2⟩
    have hz := Lib.hid (chk_of_srt hsrt (show (0 : Int) ≤ n by omega) (by omega))
    have hlen : m ≤ 81 := by
      have h1 := srt_len hsrt
      have h2 := hr2.len
      have h3 : n * n ≤ 9 * 9 := Nat.mul_le_mul hn9 hn9
      omega
    have hml := Lib.hid hr2.len
    have hb2 : Below w.heap.size w w2 := hb1.grown hg2 (by omega) (fun k hk => by injection hk with hk; omega)
    have hs2 := hb2.size
    clear hs1 hb1 hf2 hg2 h0 hd1 hd2
    go_wp2_with fail
    have hG := Blk.new w2 24 #[.int .i64 n, .slice A m c]
    have hr3 := hr2.alloc (.cells #[.int .i64 n, .slice A m c] 24)
    have hb3 := hb2.alloc hs2 (.cells #[.int .i64 n, .slice A m c] 24)
    clear hr2 hb2
    generalize w2.alloc (.cells #[.int .i64 n, .slice A m c] 24) = w3 at *
    generalize w2.heap.size = gg at *
    have k1 := fun w hT h => counts_any A m c n 6 es w hT h (by omega)
    have k2 := fun w hT h => nodes_any A m c n S es w hT h (by omega)
    have k3 := fun w hT h => edges_any A m c n S es w hT h (by omega)
    have k4 := fun w hT h => bound_any A m c n (t + 1) es w hT h (by omega) hz.out (by omega) (by omega)
    have e1 : errC n es 6 1 = 0 := errC_ok hz.out (by omega) (by omega)
    have e2 : errC n es S 1 = 0 := errC_ok hz.out (by omega) (by omega)
    have e3 : errC n es S 2 = 0 := errC_ok hz.out (by omega) (by omega)
    have l1 : cntsL n es 6 = cntL n es 6 := by unfold cntsL; rw [if_pos e1]; simp
    have l2 : nodsL n es S = nodL n es (t + 1) := by unfold nodsL; rw [if_pos e2, hS.out]; simp; congr 1
    have l3 : edgsC n es S = edgC n es t := by unfold edgsC; rw [if_pos e3, hS.out]; simp
    have l4 : (((t + 1 : Nat) : Int) + 1) = S := by rw [hS.out]; omega
    rw [e1, l1] at k1
    rw [e2, l2] at k2
    rw [e3, l3] at k3
    rw [l4] at k4
    replace k1 := Lib.hid k1
    replace k2 := Lib.hid k2
    replace k3 := Lib.hid k3
    replace k4 := Lib.hid k4
    clear e1 e2 e3 l1 l2 l3 l4
    have hT3 := hT.keep hb3
    (with_reducible refine (k1.out _ hT3 hr3).mono ?_)
    rintro e w4 ⟨A4, n4, c4, rfl, hc4, ha4, hb4, hf4⟩
    have hG4 := hG.below hb4 hG.lt
    have hr4 := hr3.below hb4 (Nat.le_refl _)
    have hb04 := hb3.trans (hb4.mono hb3.size)
    have hT4 := hT.keep hb04
    obtain ⟨d0, d1⟩ := blkG hG4
    clear hG hr3 hb3 hb4 hT3 k1 hf4
    go_wp2_with fail
    (with_reducible refine (k2.out _ hT4 hr4).mono ?_)
    rintro e w5 ⟨A5, n5, c5, rfl, hc5, hp5, hb5, hf5⟩
    have hG5 := hG4.below hb5 hG4.lt
    have hr5 := hr4.below hb5 (Nat.le_refl _)
    have ha5 := RI.below ha4 hb5 (Nat.le_refl _)
    have hb05 := hb04.trans (hb5.mono hb04.size)
    have hT5 := hT.keep hb05
    clear d0 d1
    obtain ⟨d0, d1⟩ := blkG hG5
    clear hG4 hr4 hb04 hb5 hT4 k2 hf5 ha4
    go_wp2_with fail
    (with_reducible refine (k3.out _ hT5 hr5).mono ?_)
    rintro e w6 ⟨A6, n6, c6, rfl, hc6, hq6, hb6, hf6⟩
    have hG6 := hG5.below hb6 hG5.lt
    have hr6 := hr5.below hb6 (Nat.le_refl _)
    have ha6 := RI.below ha5 hb6 (Nat.le_refl _)
    have hp6 := RI.below hp5 hb6 (Nat.le_refl _)
    have hb06 := hb05.trans (hb6.mono hb05.size)
    have hT6 := hT.keep hb06
    clear d0 d1
    obtain ⟨d0, d1⟩ := blkG hG6
    clear hG5 hr5 hb05 hb6 hT5 k3 hf6 ha5 hp5
    go_wp2_with fail
    (with_reducible refine (k4.out _ hT6 hr6).mono ?_)
    rintro e w7 ⟨o, pl, hP, hO, hpl, rfl, hb7⟩
    have hF := sumF (t := t) hz.out hn9 hP hpl (by omega)
    have hG7 := hG6.below hb7 hG6.lt
    have ha7 := RI.below ha6 hb7 (Nat.le_refl _)
    have hp7 := RI.below hp6 hb7 (Nat.le_refl _)
    have hq7 := RI.below hq6 hb7 (Nat.le_refl _)
    have hb07 := hb06.trans (hb7.mono hb06.size)
    have hT7 := hT.keep hb07
    clear d0 d1
    obtain ⟨d0, d1⟩ := blkG hG7
    clear hG6 hr6 hb06 hb7 hT6 k4 ha6 hp6 hq6 hO hP hpl
    have hBl := bndS_le hz.out (show n ≤ 64 by omega) pl (show t + 1 ≤ 5 by omega) n
    generalize cl (ad (rowsL n es)) (t + 2) (List.range n) = N at *
    generalize bndS n es pl (t + 1) n = B at *
    have fa := Lib.hid hF.a
    have fa0 := Lib.hid hF.a0
    have fa1 := Lib.hid hF.a1
    have fp0 := Lib.hid hF.p0
    have fq0 := Lib.hid hF.q0
    have fp := Lib.hid hF.p
    have fq := Lib.hid hF.q
    have fal := Lib.hid hF.al
    have fpl := Lib.hid (nodL_length n es (t + 1))
    have fql := Lib.hid (edgC_length n es t)
    have fb := hF.b
    have fN := hF.N9
    have fb2 := Lib.hid hF.b2
    clear hF
    generalize nodL n es (t + 1) = Lp at *
    generalize edgC n es t = Lq at *
    generalize cntL n es 6 = La at *
    have q1 : ((n4 : Int) != 6) = false := by rw [bne_eq_false_iff_eq, ← ha7.len, fal.out]; rfl
    have q2 : ((n5 : Int) != (n : Int)) = false := by rw [bne_eq_false_iff_eq, ← hp7.len, fpl.out]
    have q3 : ((n6 : Int) != (m : Int)) = false := by rw [bne_eq_false_iff_eq, ← hq7.len, fql.out, hml.out]
    have n5b : n5 ≤ 9 := by rw [← hp7.len, fpl.out]; exact hn9
    have n6b : n6 ≤ 81 := by rw [← hq7.len, fql.out, hml.out]; exact hlen
    have n4b : n4 = 6 := by rw [← ha7.len, fal.out]
    have n5l := Lib.hid hp7.len
    have n6l := Lib.hid hq7.len
    obtain ⟨X, hX⟩ : ∃ X, X = S * (N : Int) := ⟨_, rfl⟩
    have hXb : X ≤ 756 := by
      rw [hX]
      have := Int.mul_le_mul (show S ≤ 6 by omega) (show (N : Int) ≤ 126 by omega) (Int.natCast_nonneg _) (show (0 : Int) ≤ 6 by omega)
      omega
    obtain ⟨U, hU⟩ : ∃ U, U = S * (S - 1) := ⟨_, rfl⟩
    have hUb : 0 ≤ U ∧ U ≤ 30 := by
      rw [hU]
      have h1 := Int.mul_le_mul (show S ≤ 6 by omega) (show S - 1 ≤ 5 by omega) (by omega) (show (0 : Int) ≤ 6 by omega)
      have h2 := Int.mul_nonneg (show 0 ≤ S by omega) (show 0 ≤ S - 1 by omega)
      omega
    have fpX : Hid (Lp.sum = X) := Lib.hid (by rw [fp.out, hX, hS.out])
    have hUN : 2 * Lq.sum = U * (N : Int) := by
      rw [fq.out, hU, hS.out, ← Int.mul_assoc]
      congr 2
      omega
    have hY2 : 0 ≤ U * (N : Int) ∧ U * (N : Int) ≤ 3780 := by
      have h1 := Int.mul_le_mul (show U ≤ 30 by omega) (show (N : Int) ≤ 126 by omega) (Int.natCast_nonneg _) (show (0 : Int) ≤ 30 by omega)
      have h2 := Int.mul_nonneg hUb.1 (Int.natCast_nonneg N)
      omega
    obtain ⟨Y, hY⟩ : ∃ Y, Y = Lq.sum := ⟨_, rfl⟩
    have hYb : Y ≤ 1890 := by omega
    rw [← hY] at hUN
    replace hUN := Lib.hid hUN
    replace hY := Lib.hid hY
    replace hX := Lib.hid hX
    replace hU := Lib.hid hU
    have hX0 := Lib.hid hX.out
    clear hY2 fp fq hBl
    have hp7' := hp7
    have hq7' := hq7
    go_wp2_with fail
    go_loopw [15, 92] (fun s i wr => ∃ j : Nat, j ≤ n5 ∧ i = .int .i64 j ∧ s = .int .i64 ((Lp.take j).sum) ∧ w7 = wr) (fun _ i _ => n5 - (intOf i).toNat)
    case atStart => exact ⟨0, Nat.zero_le _, rfl, rfl, rfl⟩
    case round =>
      obtain ⟨j, hj, rfl, rfl, rfl⟩ := hrel
      by_cases hlt : j < n5
      · obtain ⟨adr, x, rfl, hx, hcx⟩ := hp7.get hlt
        have h1 := isum_take Lp fp0.out j
        have h2 := isum_take Lp fp0.out (j + 1)
        have h3 := isum_succ hx.out
        rw [fpX.out] at h1 h2
        generalize (Lp.take j).sum = s0 at *
        obtain ⟨s1, hs1⟩ : ∃ s1, s1 = (Lp.take (j + 1)).sum := ⟨_, rfl⟩
        rw [← hs1] at h2 h3
        replace hs1 := Lib.hid hs1
        have h4 : IntKind.i64.wrap (s0 + x) = s1 := by rw [← h3]; exact IntWalk.i64_in _ ⟨by omega, by omega⟩
        have h5 : s0 + x = s1 := h3.symm
        have i0 : (0 : Int) ≤ (j : Int) := Int.natCast_nonneg _
        have i1 : (j : Int) < (n5 : Int) := by omega
        have b1 : 0 ≤ s1 ∧ s1 ≤ 2000 := by omega
        clear hx h1 h2 h3
        go_wp2_with fail
        go_roundw
        case rel => exact ⟨j + 1, by omega, by go_num, by rw [← hs1.out], by first | trivial | rfl⟩
        case measure => simp [intOf]; omega
      · obtain rfl : j = n5 := by omega
        have hsx : (Lp.take j).sum = X := by rw [← n5l.out, List.take_length]; exact fpX.out
        rw [hsx]
        clear hsx
        go_wp2_with fail
        go_loopw [16, 102] (fun s i wr => ∃ j : Nat, j ≤ n6 ∧ i = .int .i64 j ∧ s = .int .i64 ((Lq.take j).sum) ∧ w7 = wr) (fun _ i _ => n6 - (intOf i).toNat)
        case atStart => exact ⟨0, Nat.zero_le _, rfl, rfl, rfl⟩
        case round =>
          obtain ⟨i, hi, rfl, rfl, rfl⟩ := hrel
          by_cases hlt : i < n6
          · obtain ⟨adr, x, rfl, hx, hcx⟩ := hq7.get hlt
            have h1 := isum_take Lq fq0.out i
            have h2 := isum_take Lq fq0.out (i + 1)
            have h3 := isum_succ hx.out
            rw [← hY.out] at h1 h2
            generalize (Lq.take i).sum = s0 at *
            obtain ⟨s1, hs1⟩ : ∃ s1, s1 = (Lq.take (i + 1)).sum := ⟨_, rfl⟩
            rw [← hs1] at h2 h3
            replace hs1 := Lib.hid hs1
            have h4 : IntKind.i64.wrap (s0 + x) = s1 := by rw [← h3]; exact IntWalk.i64_in _ ⟨by omega, by omega⟩
            have h5 : s0 + x = s1 := h3.symm
            have i0 : (0 : Int) ≤ (i : Int) := Int.natCast_nonneg _
            have i1 : (i : Int) < (n6 : Int) := by omega
            have b1 : 0 ≤ s1 ∧ s1 ≤ 2000 := by omega
            clear hx h1 h2 h3
            go_wp2_with fail
            go_roundw
            case rel => exact ⟨i + 1, by omega, by go_num, by rw [← hs1.out], by first | trivial | rfl⟩
            case measure => simp [intOf]; omega
          · obtain rfl : i = n6 := by omega
            have hsx : (Lq.take i).sum = Y := by rw [← n6l.out, List.take_length]; exact hY.out.symm
            rw [hsx]
            clear hsx
            obtain ⟨P, hP⟩ : ∃ P, P = t + 1 := ⟨_, rfl⟩
            obtain ⟨ada, xa, rfl, hxa, ca'⟩ := ha7.get (k := P) (by omega)
            obtain rfl : xa = (N : Int) := by have h1 := hxa.out; rw [hP, fa.out] at h1; injection h1 with h1; exact h1.symm
            obtain ⟨ad1, x0, e1, hx0, c0'⟩ := ha7.get (k := 0) (by omega)
            injection e1 with e1
            subst e1
            obtain rfl : x0 = (n : Int) := by have h1 := hx0.out; rw [fa0.out] at h1; injection h1 with h1; exact h1.symm
            obtain ⟨ad1, x1, e1, hx1, c1'⟩ := ha7.get (k := 1) (by omega)
            injection e1 with e1
            subst e1
            obtain rfl : x1 = (m : Int) := by have h1 := hx1.out; rw [fa1.out, hml.out] at h1; injection h1 with h1; exact h1.symm
            have jS := hS.out
            have f1 : IntKind.i64.wrap (S - 1) = (P : Int) := by rw [show S - 1 = (P : Int) by omega]; exact IntWalk.i64_in _ ⟨by omega, by omega⟩
            have f3 : (0 : Int) ≤ (P : Int) := Int.natCast_nonneg _
            have f4 : (P : Int) < (n4 : Int) := by omega
            have hUP : S * (P : Int) = U := by rw [hU.out]; congr 1; omega
            have f5 : IntKind.i64.wrap (S * (P : Int)) = U := by rw [hUP]; exact IntWalk.i64_in _ ⟨by omega, by omega⟩
            have f6 : IntKind.i64.wrap (S * (N : Int)) = X := by
              rw [← hX.out]
              have := Int.mul_nonneg (show 0 ≤ S by omega) (Int.natCast_nonneg N)
              rw [← hX.out] at this
              exact IntWalk.i64_in _ ⟨by omega, by omega⟩
            obtain ⟨V, hV⟩ : ∃ V, V = Int.tdiv U 2 := ⟨_, rfl⟩
            have hU2 : U = 2 * V := by
              have : U = S * (S - 1) := hU.out
              have h5 : U = 2 ∨ U = 6 ∨ U = 12 ∨ U = 20 ∨ U = 30 := by
                have : S = 2 ∨ S = 3 ∨ S = 4 ∨ S = 5 ∨ S = 6 := by omega
                rcases this with h | h | h | h | h <;> subst h <;> omega
              rcases h5 with h | h | h | h | h <;> subst h <;> subst hV <;> rfl
            have f7 : Int.tdiv U 2 = V := hV.symm
            have f8 : IntKind.i64.wrap V = V := IntWalk.i64_in _ ⟨by omega, by omega⟩
            have hVN : V * (N : Int) = Y := by
              have h1 := hUN.out
              rw [hU2, Int.mul_assoc] at h1
              omega
            have f9 : IntKind.i64.wrap (V * (N : Int)) = Y := by
              rw [hVN]
              have := Int.mul_nonneg (show 0 ≤ V by omega) (Int.natCast_nonneg N)
              exact IntWalk.i64_in _ ⟨by omega, by omega⟩
            have f10 : decide ((N : Int) ≤ (B : Int)) = true := by simp; omega
            have hla := World.block_lt_of_cell? _ _ ca'
            have hla0 := World.block_lt_of_cell? _ _ c0'
            have hla1 := World.block_lt_of_cell? _ _ c1'
            have hgl := hG7.lt
            replace hX := Lib.hid hX.out
            clear hP hV hUP hVN hU2 hX hX0 fpX fp0 fq0 fa fa0 fa1 fal fpl fql hml hxa hx0 hx1 jS hp7 hq7 ha7 hUN hY hG7 hU
            have q8 : (decide (2 < S) = true) ∨ (decide (2 < S) = false ∧ ((N : Int) == (B : Int)) = true) := by
              by_cases ht0 : t = 0
              · refine .inr ⟨by simp; rw [hS.out]; omega, ?_⟩
                rw [fb2.out ht0]; simp
              · refine .inl ?_
                rw [hS.out]; simp; omega
            replace c0' : w7.cell? ada = some (.int .i64 n) := c0'
            replace c1' : w7.cell? ⟨ada.block, ada.off + 1, none⟩ = some (.int .i64 m) := c1'
            replace hla1 : (⟨ada.block, ada.off + 1, none⟩ : Addr).block < w7.heap.size := hla1
            replace hla0 : ada.block < w7.heap.size := hla0
            go_wp2_with fail
            have BN : Below w7.heap.size w7 w7 := Below.refl _ _
            clear q1 q2 q3 n5b n6b hXb hUb hYb f3 f4 hla hla0 hla1 hgl fN hlen hmcc ht3 es0 S3 S6 hc4 hc5 hc6 hz ca' fb2 hS n4b hn9 hmc hm0 hsz BN
            rcases q8 with q8 | ⟨q8, q9⟩
            all_goals
              refine wp_region_still_tail 48 (by kernel_rfl) (by kernel_rfl) ?_
              simp only [List.take_succ_cons, List.take_zero, List.drop_succ_cons, List.drop_zero]
              change wpStill _ _ w7.drew _ _ _
              repeat still_step
              refine wpStill_nil ?_
              change wpList _ _ _ _ _ w7.drew
              go_wp2_with fail
              (with_reducible refine (awake25_any _ (Tab.drw hT7)).mono ?_)
              rintro e we ⟨rfl, hbe⟩
              have hbz := hb07.drew.trans (hbe.mono hb07.size)
              clear hbe hb07
              go_wp2_with fail
              go_ret
              exact ⟨rfl, hbz⟩
  · have hv : decide (m0 ≤ 500) = false := by simpa using hfew
    rw [hv] at kf
    replace kf := Lib.hid kf
    clear hv hfew
    go_enter Tryd.func8, Tryd.ntmps8
    go_wp2_with fail
    refine (kf.out _).mono ?_
    rintro e w1 ⟨rfl, rfl⟩
    go_wp2_with fail
    refine (awake25_any _ hT).mono ?_
    rintro e we ⟨rfl, hbe⟩
    go_wp2_with fail
    go_ret
    exact ⟨rfl, hbe⟩
end Go.Proofs.YtknlmgcbdcepnaaDoor
