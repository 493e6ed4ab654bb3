/- The law CliquecountEdge: its walk. -/
import Derived.Test.YtknlmgcbdcepnaaDoorLweA
import Derived.Test.YtknlmgcbdcepnaaDoorLwcC
set_option linter.unusedVariables false
set_option linter.unusedSimpArgs false
namespace Go.Proofs.YtknlmgcbdcepnaaDoor
open Go.RowKit CoBit CoCli

set_option maxHeartbeats 400000 in
theorem few_any (A : Option Addr) (n c : Nat) (w : World) : Calls Tryd.prog 14 #[.slice A n c] w fun e w' => e = .returned (.bool (decide (n ≤ 500))) ∧ w = w' := by
  by_cases h : n ≤ 500
  · have hq : decide ((n : Int) ≤ 500) = true := by simp; omega
    have hv : decide (n ≤ 500) = true := by simpa using h
    replace hv := Lib.hid hv
    clear h
    go_enter Tryd.func14, Tryd.ntmps14
    go_wp2_with fail
    go_ret
    exact ⟨retBool hv.out.symm, rfl⟩
  · have hq : decide ((n : Int) ≤ 500) = false := by simp; omega
    have hv : decide (n ≤ 500) = false := by simpa using h
    replace hv := Lib.hid hv
    clear h
    go_enter Tryd.func14, Tryd.ntmps14
    go_wp2_with fail
    go_ret
    exact ⟨retBool hv.out.symm, rfl⟩
theorem Tab.drew_ {w : World} (h : Tab w) : Tab w.drew := h
theorem com_len (n : Int) (es : List (Int × Int)) (u v : Int) : (comL n es u v).length ≤ 2 * es.length := by
  unfold comL
  split
  · simp
  · unfold meetL
    exact Nat.le_trans (List.length_filter_le _ _) (Nat.le_trans (of_length _) (nbG_len n es u))
theorem blkG {w : World} {g : Nat} {n : Int} {v : Value} (h : Blk w g 24 #[.int .i64 n, v]) : w.cell? ⟨g, 0, none⟩ = some (.int .i64 n) ∧ w.cell? ⟨g, 1, none⟩ = some v := ⟨Blk.cell h 0, Blk.cell h 1⟩

set_option maxRecDepth 100000 in
set_option maxHeartbeats 20000000 in
theorem lawEdge_any (A0 : Option Addr) (m0 c0 : Nat) (l : List Int) (sz : Nat) (hsz : sz < 256) (w : World) (hT : Tab w) (h0 : RI w A0 m0 l) (hmc : m0 ≤ c0) (hm0 : m0 ≤ 1152921504606846976) :
    Calls Tryd.prog 4 #[.slice A0 m0 c0, .int .u8 sz] w fun e w' => e = .returned (.bool true) ∧ Below w.heap.size w w' := by
  have kf := fun w => few_any A0 m0 c0 w
  by_cases hfew : m0 ≤ 500
  · have hv : decide (m0 ≤ 500) = true := by simpa using hfew
    rw [hv] at kf
    replace kf := Lib.hid kf
    clear hv hfew
    obtain ⟨t, ht⟩ : ∃ t, t = sz % 4 := ⟨_, rfl⟩
    have ht3 : t ≤ 3 := by omega
    obtain ⟨S, hS⟩ : ∃ S : Int, S = ((t + 3 : Nat) : Int) := ⟨_, rfl⟩
    have es0 : (3 : Int) + (sz : Int) % 4 = S := by omega
    have S3 : 3 ≤ S := by omega
    have S6 : S ≤ 6 := by omega
    replace hS := Lib.hid hS
    clear ht
    go_enter Tryd.func4, Tryd.ntmps4
    go_wp2_with fail
    refine (kf.out _).mono ?_
    rintro e w1 ⟨rfl, rfl⟩
    go_wp2_with fail
    refine (new_any A0 m0 c0 l w h0 hmc hm0).mono ?_
    rintro e w1 ⟨rfl, hd1, hb1, hs1⟩
    go_wp2_with fail
    refine (mkgraph_any _ 8 _ hd1 (by omega)).mono ?_
    rintro e w2 ⟨n, es, A, m, c, rfl, hmcc, hr2, hf2, hsrt, hn9, hd2, hg2⟩
    have hlen : m ≤ 64 := by
      have h1 := srt_len hsrt
      have h2 := hr2.len
      have h3 : n * n ≤ 8 * 8 := Nat.mul_le_mul hn9 hn9
      omega
    have hb2 : Below w.heap.size w w2 := hb1.grown hg2 (by omega) (fun k hk => by injection hk with hk; omega)
    have hs2 := hb2.size
    have hA0 : Hid (∀ ad, A = some ad → some ad.block ≠ some w.heap.size) := Lib.hid fun ad h e => by have := hf2 ad h; injection e with e; omega
    clear hs1 hb1 hf2 hg2 h0
    go_wp2_with fail
    generalize hw3 : w2.alloc (.cells #[.int .i64 n, .slice A m c] 24) = w3
    have hG : Blk w3 w2.heap.size 24 #[.int .i64 n, .slice A m c] := hw3 ▸ Blk.new w2 _ _
    have hr3 : RE w3 A m es := hw3 ▸ hr2.alloc _
    have hd3 : Dk w3 w.heap.size := hw3 ▸ hd2.alloc _
    have hb3 : Below w.heap.size w w3 := hw3 ▸ hb2.alloc hs2 _
    have hdl := hd2.lt
    clear hw3 hr2 hd2 hb2
    generalize w2.heap.size = gg at *
    have hgl := hG.lt
    refine (next_any w.heap.size 8 w3 hd3 (by omega)).mono ?_
    rintro e w4 ⟨u, rfl, u0, u1, -, hd4, hg4⟩
    replace u1 := u1 (by omega)
    obtain ⟨u, rfl⟩ := Int.eq_ofNat_of_zero_le u0
    have hr4 := hr3.kept hg4 hA0.out
    have hG4 := hG.grown hg4 (by simp; omega)
    have hb4 := hb3.trans (grown_is_below hg4 (Nat.le_refl _) hb3.size)
    clear hr3 hG hd3 hg4 hb3
    go_wp2_with fail
    refine (next_any w.heap.size 8 w4 hd4 (by omega)).mono ?_
    rintro e w5 ⟨v, rfl, v0, v1, -, hd5, hg5⟩
    replace v1 := v1 (by omega)
    obtain ⟨v, rfl⟩ := Int.eq_ofNat_of_zero_le v0
    have hr5 := hr4.kept hg5 hA0.out
    have hG5 := hG4.grown hg5 (by simp; omega)
    have hb5 := hb4.trans (grown_is_below hg5 (Nat.le_refl _) hb4.size)
    have hs5 := hb5.size
    clear hr4 hG4 hd4 hg5 hb4 hd5
    obtain ⟨d0, d1⟩ := blkG hG5
    have hz := chk_of_srt hsrt (show (0 : Int) ≤ n by omega) (by omega)
    have ka := fun w h => radd_any A m c n es u v w h hmcc (by omega) hz
    have hF := fun he => edgF (u := u) (v := v) (t := t) hsrt hn9 ht3 he
    by_cases he : errA n es u v = 0
    · obtain ⟨X, W, hF⟩ := hF he
      rw [he, if_pos rfl, if_pos rfl] at ka
      have kc := fun w h => rcommon_any A m c n es u v w h (by omega)
      have ki := fun AL mL cL w h hl hm => rinduced_any A m c n es AL mL cL (comL n es u v) w h (by omega) hz hl hm
      have e1 := errC_ok (size := ((t + 3 : Nat) : Int)) (least := 1) hF.z (by omega) (by omega)
      have e2 := errC_ok (size := ((t + 3 : Nat) : Int)) (least := 1) hF.zh (by omega) (by omega)
      have e3 := errC_ok (size := ((t + 3 : Nat) : Int)) (least := 1) hF.zi (by omega) (by omega)
      have k1 := fun w hT h => counts_any A m c n ((t + 3 : Nat) : Int) es w hT h (by omega)
      have k2 := fun A m c hm w hT h => counts_any A m c n ((t + 3 : Nat) : Int) (withL es (edgeP u v)) w hT h hm
      have k3 := fun A m c hm w hT h => counts_any A m c n ((t + 3 : Nat) : Int) (indL es (comL n es u v)) w hT h hm
      rw [cnts_ok hF.z (by omega) (by omega), e1] at k1
      rw [cnts_ok hF.zh (by omega) (by omega), e2] at k2
      rw [cnts_ok hF.zi (by omega) (by omega), e3] at k3
      have fa := hF.a
      have fb := hF.b
      have fc := hF.c
      have fd := hF.d
      have fbd := hF.bd
      have l1 := cnts_len (n := n) (es := es) (k := t + 3)
      have l2 := cnts_len (n := n) (es := withL es (edgeP u v)) (k := t + 3)
      have l3 := cnts_len (n := n) (es := indL es (comL n es u v)) (k := t + 3)
      have wl := with_length es (edgeP u v)
      have il := indL_len es (comL n es u v)
      rw [hr5.len] at wl il
      have cl : (comL n es u v).length ≤ 128 := by
        exact Nat.le_trans (com_len _ _ _ _) (by rw [hr5.len]; omega)
      rw [← hS.out] at k1 k2 k3
      generalize cntL n es (t + 3) = La at *
      generalize cntL n (withL es (edgeP u v)) (t + 3) = Lb at *
      generalize cntL n (indL es (comL n es u v)) (t + 3) = Lc at *
      generalize withL es (edgeP u v) = esh at *
      generalize indL es (comL n es u v) = esi at *
      generalize comL n es u v = com at *
      replace ka := Lib.hid ka
      replace kc := Lib.hid kc
      replace ki := Lib.hid ki
      replace k1 := Lib.hid k1
      replace k2 := Lib.hid k2
      replace k3 := Lib.hid k3
      replace fa := Lib.hid fa
      replace fb := Lib.hid fb
      replace fc := Lib.hid fc
      replace fd := Lib.hid fd
      replace l1 := Lib.hid l1
      replace l2 := Lib.hid l2
      replace l3 := Lib.hid l3
      clear hF he hz e1 e2 e3
      go_wp2_with fail
      refine (ka.out _ hr5).mono ?_
      rintro e w6 ⟨A6, n6, c6, rfl, hc6, hr6, hb6, hf6⟩
      go_upto_region 10 with fail
      have hH := Blk.new w6 24 #[.int .i64 n, .slice A6 n6 c6]
      have hG6 := hG5.below hb6 hG5.lt
      have hb06 := hb5.trans (hb6.mono hs5)
      have hrg6 := hr5.below hb6 (Nat.le_refl _)
      have hG7 := hG6.alloc (.cells #[.int .i64 n, .slice A6 n6 c6] 24)
      have hrg7 := hrg6.alloc (.cells #[.int .i64 n, .slice A6 n6 c6] 24)
      have hrh7 := hr6.alloc (.cells #[.int .i64 n, .slice A6 n6 c6] 24)
      have hb07 := hb06.alloc hb06.size (.cells #[.int .i64 n, .slice A6 n6 c6] 24)
      have hn6 : n6 ≤ 68719476736 := by rw [← hr6.len]; omega
      clear hb6 hf6 hr6 hG5 hr5 hb5 hG6 hb06 hrg6 d0 d1
      generalize w6.alloc (.cells #[.int .i64 n, .slice A6 n6 c6] 24) = w7 at *
      generalize w6.heap.size = gh at *
      obtain ⟨g0, g1⟩ := blkG hG7
      have hgl7 := hG7.lt
      have hs7 := hb07.size
      have hnn7 := Lib.hid (fun i j e => by injection e with e; omega : ∀ i j : Nat, (⟨w7.heap.size, i, none⟩ : Addr) ≠ ⟨gg, j, none⟩)
      go_cut [12] (fun p wx => ∃ (gi : Nat) (A7 : Option Addr) (n7 c7 : Nat), p = .pointer (some ⟨gi, 0, none⟩) ∧ Blk wx gi 24 #[.int .i64 n, .slice A7 n7 c7] ∧ RE wx A7 n7 esi ∧ Below w7.heap.size w7 wx)
      case first =>
        have hnb := Blk.new w7 24 #[.int .i64 0, .slice none 0 0]
        have BN : Below w7.heap.size w7 w7 := Below.refl _ _
        go_region_held3 (fun w' => w'.cell? ⟨gg, 0, none⟩ = some (.int .i64 n) ∧ w'.cell? ⟨gg, 1, none⟩ = some (.slice A m c))
          ((first
            | (exact ⟨(BN.cell (p := ⟨gg, 0, none⟩) hgl7).trans g0, (BN.cell (p := ⟨gg, 1, none⟩) hgl7).trans g1⟩)
            | (exact ⟨(World.cell?_alloc_lt _ _ _ hlt9).trans ((BN.cell (p := ⟨gg, 0, none⟩) hgl7).trans g0), (World.cell?_alloc_lt _ _ _ hlt9).trans ((BN.cell (p := ⟨gg, 1, none⟩) hgl7).trans g1)⟩)
            | (exact ⟨(World.cell?_alloc_lt _ _ _ hlt8).trans ((BN.cell (p := ⟨gg, 0, none⟩) hgl7).trans g0), (World.cell?_alloc_lt _ _ _ hlt8).trans ((BN.cell (p := ⟨gg, 1, none⟩) hgl7).trans g1)⟩)
            | (exact ⟨(World.cell?_setCell_other _ _ _ _ (hnn7.out _ _)).trans ((World.cell?_setCell_other _ _ _ _ (hnn7.out _ _)).trans ((BN.cell (p := ⟨gg, 0, none⟩) hgl7).trans g0)), (World.cell?_setCell_other _ _ _ _ (hnn7.out _ _)).trans ((World.cell?_setCell_other _ _ _ _ (hnn7.out _ _)).trans ((BN.cell (p := ⟨gg, 1, none⟩) hgl7).trans g1))⟩)
            | (exact ⟨(World.cell?_setCell_other _ _ _ _ (hnn8.out _ _)).trans ((World.cell?_setCell_other _ _ _ _ (hnn8.out _ _)).trans ((BN.cell (p := ⟨gg, 0, none⟩) hgl7).trans g0)), (World.cell?_setCell_other _ _ _ _ (hnn8.out _ _)).trans ((World.cell?_setCell_other _ _ _ _ (hnn8.out _ _)).trans ((BN.cell (p := ⟨gg, 1, none⟩) hgl7).trans g1))⟩)
            | ((repeat' apply And.intro) <;> (go_keep; done))))
          ((first
            | (go_at_call 20; (with_reducible refine (kc.out _ (by first | exact hrg7.drew | exact (hrg7.alloc _).drew | exact hrg7.drew.alloc _)).mono ?_); rintro e w8 ⟨A8, n8, c8, rfl, hc8, hrc, hb8, hf8⟩; replace BN : Below w7.heap.size w7 w8 := (by first | exact below_call BN.drew hb8 | exact below_call (BN.alloc (Nat.le_refl _) _).drew hb8);
               have hle8 := BN.size; have hlt8 : gg < w8.heap.size := Nat.lt_of_lt_of_le hgl7 BN.size; have hn8 : n8 ≤ 1099511627776 := (by have := hrc.len; omega);
               have hnn8 := Lib.hid (fun i j e => by injection e with e; omega : ∀ i j : Nat, (⟨w8.heap.size, i, none⟩ : Addr) ≠ ⟨gg, j, none⟩);
               try (have hzb := Blk.below hnb.drew hb8 (Blk.lt hnb)))
            | (go_at_call 19; (with_reducible refine (Calls.mono (by first | exact ki.out A8 n8 c8 _ (hrg7.below BN (Nat.le_refl _)) hrc hn8 | exact ki.out A8 n8 c8 _ ((hrg7.below BN (Nat.le_refl _)).alloc _) (hrc.alloc _) hn8) ?_)); rintro e w9 ⟨A9, n9, c9, rfl, hc9, hr9, hb9, hf9⟩;
               first | (replace hzb := Blk.below hzb hb9 (Blk.lt hzb)) | (have hzb := Blk.below (Blk.new w8 24 #[.int .i64 0, .slice none 0 0]) hb9 (Blk.lt (Blk.new w8 24 #[.int .i64 0, .slice none 0 0]))) | skip;
               replace BN : Below w7.heap.size w7 w9 := (by first | exact below_call BN hb9 | exact below_call (BN.alloc BN.size _) hb9);
               have hlt9 : gg < w9.heap.size := Nat.lt_of_lt_of_le hgl7 BN.size;
               try (obtain ⟨z0, z1⟩ := blkG hzb; have z2 := Blk.frozen hzb 0; have z3 := Blk.frozen hzb 1))))
        all_goals go_wp2_with fail
        all_goals go_meet
        · exact ⟨w9.heap.size, A9, n9, c9, rfl, Blk.new _ _ _, hr9.alloc _, BN.alloc BN.size _⟩
        · exact ⟨w8.heap.size, A9, n9, c9, rfl, Blk.set (Blk.set hzb 0 (.int .i64 (n : Int))) 1 (.slice A9 n9 c9), RE.kept hr9 (grown_setB (grown_setB (World.grownBy.refl w9 (some w8.heap.size)) 0 (.int .i64 (n : Int))) 1 (.slice A9 n9 c9)) (fun ad h e => by have := hf9 ad h; injection e with e; simp at this; omega),
            (BN.setCell (p := ⟨w8.heap.size, 0, none⟩) hle8 (.int .i64 (n : Int))).setCell (p := ⟨w8.heap.size, 1, none⟩) hle8 (.slice A9 n9 c9)⟩
        · exact ⟨w7.heap.size, A9, n9, c9, rfl, Blk.set (Blk.set hzb 0 (.int .i64 (n : Int))) 1 (.slice A9 n9 c9), RE.kept hr9 (grown_setB (grown_setB (World.grownBy.refl w9 (some w7.heap.size)) 0 (.int .i64 (n : Int))) 1 (.slice A9 n9 c9)) (fun ad h e => by have := hf9 ad h; have h2 := hb8.size; injection e with e; simp at h2; omega),
            (BN.setCell (p := ⟨w7.heap.size, 0, none⟩) (Nat.le_refl _) (.int .i64 (n : Int))).setCell (p := ⟨w7.heap.size, 1, none⟩) (Nat.le_refl _) (.slice A9 n9 c9)⟩
      case rest =>
        obtain ⟨gi, A7, n7, c7, rfl, hI, hri, hbx⟩ := hcut
        have hGx := hG7.below hbx hgl7
        have hHx := hH.below hbx hH.lt
        have hrgx := hrg7.below hbx (Nat.le_refl _)
        have hrhx := hrh7.below hbx (Nat.le_refl _)
        have hb0x := hb07.trans (hbx.mono hs7)
        have hTx := hT.keep hb0x
        have hn7 : n7 ≤ 68719476736 := by rw [← hri.len]; omega
        obtain ⟨g0', g1'⟩ := blkG hGx
        clear hbx hG7 hH hrg7 hrh7 hb07 g0 g1 hgl7 hs7 hnn7
        go_wp2_with fail
        (with_reducible refine (k1.out _ hTx hrgx).mono ?_)
        rintro e w8 ⟨A8, n8, c8, rfl, hc8, hra, hb8, hf8⟩
        have hH8 := hHx.below hb8 hHx.lt
        have hI8 := hI.below hb8 hI.lt
        have hG8 := hGx.below hb8 hGx.lt
        have hrg8 := hrgx.below hb8 (Nat.le_refl _)
        have hrh8 := hrhx.below hb8 (Nat.le_refl _)
        have hri8 := hri.below hb8 (Nat.le_refl _)
        have hb08 := hb0x.trans (hb8.mono hb0x.size)
        have hT8 := hT.keep hb08
        obtain ⟨h0', h1'⟩ := blkG hH8
        clear hb8 hb0x hTx hGx hHx hI hri hrgx hrhx g0' g1' k1 hf8
        go_wp2_with fail
        (with_reducible refine (k2.out A6 n6 c6 hn6 _ hT8 hrh8).mono ?_)
        rintro e w9 ⟨A9, n9, c9, rfl, hc9, hrb, hb9, hf9⟩
        have hI9 := hI8.below hb9 hI8.lt
        have hG9 := hG8.below hb9 hG8.lt
        have hrg9 := hrg8.below hb9 (Nat.le_refl _)
        have hri9 := hri8.below hb9 (Nat.le_refl _)
        have hra9 := RI.below hra hb9 (Nat.le_refl _)
        have hb09 := hb08.trans (hb9.mono hb08.size)
        have hT9 := hT.keep hb09
        obtain ⟨i0', i1'⟩ := blkG hI9
        clear hb9 hb08 hT8 hG8 hH8 hI8 hri8 hrg8 hrh8 h0' h1' k2 hf9 hra
        go_wp2_with fail
        (with_reducible refine (k3.out A7 n7 c7 hn7 _ hT9 hri9).mono ?_)
        rintro e wa ⟨Aa, na, ca, rfl, hca, hrc, hba, hfa⟩
        have hGa := hG9.below hba hG9.lt
        have hrga := hrg9.below hba (Nat.le_refl _)
        have hraa := RI.below hra9 hba (Nat.le_refl _)
        have hrba := RI.below hrb hba (Nat.le_refl _)
        have hb0a := hb09.trans (hba.mono hb09.size)
        clear hba hb09 hT9 hG9 hI9 hri9 hrg9 i0' i1' k3 hfa hra9 hrb
        have q1 : ((n8 : Int) != S) = false := by rw [bne_eq_false_iff_eq, hS.out, ← hraa.len, l1.out]
        have q2 : ((n9 : Int) != S) = false := by rw [bne_eq_false_iff_eq, hS.out, ← hrba.len, l2.out]
        have q3 : ((na : Int) != S) = false := by rw [bne_eq_false_iff_eq, hS.out, ← hrc.len, l3.out]
        have j1 : (n8 : Int) = S := by rw [hS.out, ← hraa.len, l1.out]
        have j2 : (n9 : Int) = S := by rw [hS.out, ← hrba.len, l2.out]
        have j3 : (na : Int) = S := by rw [hS.out, ← hrc.len, l3.out]
        have jS := hS.out
        obtain ⟨P, hP⟩ : ∃ P, P = t + 2 := ⟨_, rfl⟩
        obtain ⟨ada, xa, rfl, hxa, ca'⟩ := hraa.get (k := P) (by omega)
        obtain ⟨adb, xb, rfl, hxb, cb'⟩ := hrba.get (k := P) (by omega)
        obtain ⟨adc, xc, rfl, hxc, cc'⟩ := hrc.get (k := t) (by omega)
        obtain rfl : xa = (X : Int) := by have h1 := hxa.out; rw [hP, fa.out] at h1; injection h1 with h1; exact h1.symm
        obtain ⟨V, hV⟩ : ∃ V, V = X + W := ⟨_, rfl⟩
        obtain rfl : xb = (V : Int) := by have h1 := hxb.out; rw [hP, fb.out] at h1; injection h1 with h1; rw [hV]; exact h1.symm
        have p1 : 0 ≤ S - 3 := by omega
        have p2 : (S - 3).toNat = t := by omega
        have p3 : S - 3 < (na : Int) := by omega
        have f1 : IntKind.i64.wrap (S - 1) = (P : Int) := by rw [show S - 1 = (P : Int) by omega]; exact IntWalk.i64_in _ ⟨by omega, by omega⟩
        have f2 : IntKind.i64.wrap ((V : Int) - (X : Int)) = (W : Int) := by rw [show (V : Int) - (X : Int) = (W : Int) by omega]; exact IntWalk.i64_in _ ⟨by omega, by omega⟩
        have f3 : (0 : Int) ≤ (P : Int) := Int.natCast_nonneg _
        have f4 : (P : Int) < (n8 : Int) := by omega
        have f5 : (P : Int) < (n9 : Int) := by omega
        have hla := World.block_lt_of_cell? _ _ ca'
        have hlb := World.block_lt_of_cell? _ _ cb'
        obtain ⟨g0', g1'⟩ := blkG hGa
        have hTa := hT.keep hb0a
        have hsa := hb0a.size
        by_cases ht0 : t = 0
        · have q4 : (S == 3) = true := by rw [beq_iff_eq]; omega
          have hW0 := Lib.hid (fd.out ht0)
          clear jS hP hV j1 j2 j3 ht0 hxa hxb hxc hS
          go_wp2_with fail
          (with_reducible refine (kc.out _ hrga).mono ?_)
          rintro e wb ⟨Ab, nb, cb, rfl, hcb, hrcom, hbb, hfb⟩
          obtain rfl : nb = W := by rw [← hrcom.len]; exact hW0.out
          have hlb2 : adb.block < wa.heap.size := by rw [block_of_add] at hlb; exact hlb
          replace ca' : wb.cell? (ada.add P) = some (.int .i64 (X : Int)) := (hbb.cell hla).trans ca'
          replace cb' : wb.cell? (adb.add P) = some (.int .i64 (V : Int)) := (hbb.cell hlb).trans cb'
          replace hla := Nat.lt_of_lt_of_le hla hbb.size
          replace hlb := Nat.lt_of_lt_of_le hlb hbb.size
          have hb0b := hb0a.trans (hbb.mono hb0a.size)
          have hTb := hT.keep hb0b
          clear hbb hrcom hfb hb0a hTa hGa hrga hraa hrba hrc g0' g1' cc' hlb2 hW0 hsa
          go_wp2_with fail
          have BN : Below wb.heap.size wb wb := Below.refl _ _
          go_region_held3 (fun w' => w'.cell? (ada.add P) = some (.int .i64 (X : Int)) ∧ w'.cell? (adb.add P) = some (.int .i64 (V : Int)))
            ((first | (exact ⟨(BN.cell hla).trans ca', (BN.cell hlb).trans cb'⟩) | ((repeat' apply And.intro) <;> (go_keep; done))))
            ((go_at_call 13; (with_reducible refine (awake25_any _ (Tab.drew_ hTb)).mono ?_); rintro e we ⟨rfl, hbe⟩; replace BN : Below wb.heap.size wb we := below_call BN.drew hbe))
          have hbz := hb0b.trans (BN.mono hb0b.size)
          clear BN hbe hb0b ca' cb'
          go_wp2_with fail
          go_ret
          exact ⟨rfl, hbz⟩
        · have q4 : (S == 3) = false := by rw [beq_eq_false_iff_ne]; omega
          obtain rfl : xc = (W : Int) := by have h1 := hxc.out; rw [fc.out ht0] at h1; injection h1 with h1; exact h1.symm
          clear jS hP hV j1 j2 j3 ht0 hxa hxb hxc hS
          go_wp2_with fail
          clear hGa hrga hraa hrba hrc g0' g1' cc' hsa
          have BN : Below wa.heap.size wa wa := Below.refl _ _
          go_region_held3 (fun w' => w'.cell? (ada.add P) = some (.int .i64 (X : Int)) ∧ w'.cell? (adb.add P) = some (.int .i64 (V : Int)))
            ((first | (exact ⟨(BN.cell hla).trans ca', (BN.cell hlb).trans cb'⟩) | ((repeat' apply And.intro) <;> (go_keep; done))))
            ((go_at_call 13; (with_reducible refine (awake25_any _ (Tab.drew_ hTa)).mono ?_); rintro e we ⟨rfl, hbe⟩; replace BN : Below wa.heap.size wa we := below_call BN.drew hbe))
          have hbz := hb0a.trans (BN.mono hb0a.size)
          clear BN hbe hb0a ca' cb'
          go_wp2_with fail
          go_ret
          exact ⟨rfl, hbz⟩
    · have hq : (errA n es u v != 0) = true := by rw [bne_iff_ne]; exact he
      rw [if_neg he, if_neg he] at ka
      generalize errA n es u v = er at *
      replace ka := Lib.hid ka
      clear hF he hz
      go_wp2_with fail
      (with_reducible refine (ka.out _ hr5).mono ?_)
      rintro e w6 ⟨A6, n6, c6, rfl, hc6, hr6, hb6, hf6⟩
      have hb06 := hb5.trans (hb6.mono hs5)
      have hb07 := hb06.alloc hb06.size (.cells #[.int .i64 0, .slice A6 n6 c6] 24)
      have hT7 := hT.keep hb07
      clear hb6 hf6 hr6 hG5 hr5 hb5 hb06 d0 d1
      go_wp2_with fail
      refine (awake25_any _ hT7).mono ?_
      rintro e we ⟨rfl, hbe⟩
      have hbz := hb07.trans (hbe.mono hb07.size)
      clear hbe hb07 hT7
      go_wp2_with fail
      go_ret
      exact ⟨rfl, hbz⟩
  · have hv : decide (m0 ≤ 500) = false := by simpa using hfew
    rw [hv] at kf
    replace kf := Lib.hid kf
    clear hv hfew
    go_enter Tryd.func4, Tryd.ntmps4
    go_wp2_with fail
    refine (kf.out _).mono ?_
    rintro e w1 ⟨rfl, rfl⟩
    go_wp2_with fail
    refine (awake25_any _ hT).mono ?_
    rintro e we ⟨rfl, hbe⟩
    go_wp2_with fail
    go_ret
    exact ⟨rfl, hbe⟩
end Go.Proofs.YtknlmgcbdcepnaaDoor
