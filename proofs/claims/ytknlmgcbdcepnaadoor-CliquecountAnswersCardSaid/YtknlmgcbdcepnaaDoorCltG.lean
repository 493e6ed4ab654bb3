/- Reference 25: Counts. -/
import Derived.Test.YtknlmgcbdcepnaaDoorCltJ
set_option linter.unusedVariables false
set_option linter.unusedSimpArgs false
namespace Go.Proofs.YtknlmgcbdcepnaaDoor
open Go.RowKit CoBit CoCli Pl
theorem cntL_succ (n : Nat) (es : List (Int × Int)) (k : Nat) : cntL n es (k + 1) = cntL n es k ++ [((cl (ad (rowsL n es)) (k + 1) (List.range n) : Nat) : Int)] := by
  unfold cntL; rw [List.range_succ, List.map_append]; rfl
theorem cntL_len (n : Nat) (es : List (Int × Int)) (k : Nat) : (cntL n es k).length = k := by simp [cntL]
set_option maxRecDepth 100000 in
set_option maxHeartbeats 8000000 in
theorem r25counts_any (A : Option Addr) (m c : Nat) (n most : Int) (es : List (Int × Int)) (w : World) (h : RE w A m es) (hm : m ≤ 68719476736) :
    Calls Tryd.prog 30 #[.agg #[.int .i64 n, .slice A m c], .int .i64 most] w (RetL w (cntsL n es most) (errC n es most 1)) := by
  have k1 := fun w h => rcheck_any A m c n es w h (by omega)
  rcases errC_cases n es most 1 with ⟨z0, z⟩ | ⟨z0, z1, z⟩ | ⟨z0, z1, z2, z⟩ | ⟨z0, z1, z2, z⟩
  · have hl : cntsL n es most = [] := by unfold cntsL; rw [if_neg (by rw [z]; exact z0)]
    rw [hl, z]
    generalize hq : chkG n es = q at *
    have hb : (q != 0) = true := by rw [bne_iff_ne]; exact z0
    clear hq
    replace k1 := Lib.hid k1
    clear z hl z0
    go_enter Tryd.func30, Tryd.ntmps30
    go_wp2_with fail
    refine (k1.out _ (h.alloc _)).mono ?_
    rintro e w1 ⟨rfl, hb1⟩
    have hb0 : Below w.heap.size w w1 := ((Below.refl _ _).alloc (Nat.le_refl _) _).trans (hb1.mono (by simp))
    clear hb1
    go_wp2_with fail
    go_ret2
    exact ⟨none, 0, 0, rfl, Nat.le_refl _, RI.none_, hb0, Fr.none_⟩
  · have hl : cntsL n es most = [] := by unfold cntsL; rw [if_neg (by rw [z]; decide)]
    rw [hl, z]
    rw [z0] at k1
    replace k1 := Lib.hid k1
    clear z hl z0
    go_enter Tryd.func30, Tryd.ntmps30
    go_wp2_with fail
    refine (k1.out _ (h.alloc _)).mono ?_
    rintro e w1 ⟨rfl, hb1⟩
    have hb0 : Below w.heap.size w w1 := ((Below.refl _ _).alloc (Nat.le_refl _) _).trans (hb1.mono (by simp))
    clear hb1
    go_wp2_with fail
    go_ret2
    exact ⟨none, 0, 0, rfl, Nat.le_refl _, RI.none_, hb0, Fr.none_⟩
  · have hl : cntsL n es most = [] := by unfold cntsL; rw [if_neg (by rw [z]; decide)]
    rw [hl, z]
    rw [z0] at k1
    replace k1 := Lib.hid k1
    clear z hl z0
    go_enter Tryd.func30, Tryd.ntmps30
    go_wp2_with fail
    refine (k1.out _ (h.alloc _)).mono ?_
    rintro e w1 ⟨rfl, hb1⟩
    have hb0 : Below w.heap.size w w1 := ((Below.refl _ _).alloc (Nat.le_refl _) _).trans (hb1.mono (by simp))
    clear hb1
    go_wp2_with fail
    go_ret2
    exact ⟨none, 0, 0, rfl, Nat.le_refl _, RI.none_, hb0, Fr.none_⟩
  · obtain ⟨n0, n1, _⟩ := chkG_zero z0
    obtain ⟨n, rfl⟩ := Int.eq_ofNat_of_zero_le n0
    obtain ⟨s, rfl⟩ := Int.eq_ofNat_of_zero_le (show 0 ≤ most by omega)
    have hcl : cntsL n es (s : Int) = cntL n es s := by
      unfold cntsL; rw [if_pos z]; congr 1
    rw [hcl, z]
    rw [z0] at k1
    have hgm : Hid (chkG (n : Int) es = 0) := Lib.hid z0
    have hs6 : s ≤ 6 := by omega
    have kst := Lib.hid (fun k hk gn ge w => r25start_any A m c n es (by omega) z0 k hk gn ge w)
    replace k1 := Lib.hid k1
    clear z0 z hcl
    obtain ⟨i0, hz0, hz1, hz2, hz3⟩ := info_parts int_info
    go_enter Tryd.func30, Tryd.ntmps30
    go_wp2_with fail
    refine (k1.out _ (h.alloc _)).mono ?_
    rintro e w1 ⟨rfl, hb1⟩
    have G1 : Blk w1 w.heap.size 24 #[.int .i64 n, .slice A m c] := Blk.below (Blk.new _ _ _) hb1 (by simp)
    have hb0 : Below w.heap.size w w1 := ((Below.refl _ w).alloc (Nat.le_refl _) _).trans (hb1.mono (by simp))
    have hr1 := RE.below h hb0 (Nat.le_refl _)
    have s1 := hb1.size
    simp at s1
    clear hb1
    go_wp2_with fail
    go_loopw [7, 8] (fun o i wr => ∃ (v : Value) (k : Nat), o = v ∧ i = .int .i64 ((k : Int) + 1) ∧ k ≤ s ∧ OI wr w1.heap.size v (cntL n es k) ∧ Below w1.heap.size w1 wr) (fun _ i _ => s + 1 - (intOf i).toNat)
    case atStart => exact ⟨_, 0, rfl, rfl, Nat.zero_le _, OI.nil_, Below.refl _ _⟩
    case round =>
      obtain ⟨v, k, rfl, rfl, hk, hO, hb⟩ := hrel
      obtain ⟨A9, n9, c9, rfl, hn9, hc9, hc9', hr9⟩ := hO.form
      rw [cntL_len] at hn9
      obtain rfl : k = n9 := hn9.symm
      by_cases hlt : k < s
      · have i1 : (k : Int) + 1 ≤ (s : Int) := by omega
        have Gr := G1.below hb G1.lt
        have hrr := RE.below hr1 hb (Nat.le_refl _)
        have hsz := hb.size
        obtain ⟨FN, hN0, hN1, hN2⟩ := make_fun n (by omega)
        obtain ⟨FM, hM0, hM1, hM2⟩ := make_fun m (by omega)
        -- nodes first
        have hb2 : Below wr.heap.size wr (FN wr.drew) := ((Below.refl wr.heap.size wr).drew).trans (grown_none_below (w := wr.drew) (hN2 wr.drew) wr.heap.size (Nat.le_refl _))
        have a2 : AI (FN wr.drew) wr.heap.size (List.replicate n 0) := hN1 wr.drew
        have hb3 : Below (FN wr.drew).heap.size (FN wr.drew) (FM (FN wr.drew)) := grown_none_below (hM2 _) _ (Nat.le_refl _)
        have a3 : AI (FM (FN wr.drew)) (FN wr.drew).heap.size (List.replicate m 0) := hM1 _
        have a23 := AI.below a2 hb3 a2.lt
        have hb23 := hb2.trans (hb3.mono hb2.size)
        have s2 := a2.lt
        -- edges first
        have hb4 : Below wr.heap.size wr (FM wr.drew) := ((Below.refl wr.heap.size wr).drew).trans (grown_none_below (w := wr.drew) (hM2 wr.drew) wr.heap.size (Nat.le_refl _))
        have a4 : AI (FM wr.drew) wr.heap.size (List.replicate m 0) := hM1 wr.drew
        have hb5 : Below (FM wr.drew).heap.size (FM wr.drew) (FN (FM wr.drew)) := grown_none_below (hN2 _) _ (Nat.le_refl _)
        have a5 : AI (FN (FM wr.drew)) (FM wr.drew).heap.size (List.replicate n 0) := hN1 _
        have a45 := AI.below a4 hb5 a4.lt
        have hb45 := hb4.trans (hb5.mono hb4.size)
        have s4 := a4.lt
        obtain ⟨c0, c1⟩ := blkG Gr
        obtain ⟨c20, c21⟩ := blkG (Gr.below hb2 Gr.lt)
        obtain ⟨c30, c31⟩ := blkG (Gr.below hb23 Gr.lt)
        obtain ⟨c40, c41⟩ := blkG (Gr.below hb4 Gr.lt)
        obtain ⟨c50, c51⟩ := blkG (Gr.below hb45 Gr.lt)
        have k2 := kst.out (k + 1) (by omega) wr.heap.size (FN wr.drew).heap.size (FM (FN wr.drew)) (RE.below hrr hb23 (Nat.le_refl _)) (fun ad e hp => by have := re_fresh h hp ad e; omega) a23 a3 (by omega)
        have k3 := kst.out (k + 1) (by omega) (FM wr.drew).heap.size wr.heap.size (FN (FM wr.drew)) (RE.below hrr hb45 (Nat.le_refl _)) (fun ad e hp => by have := re_fresh h hp ad e; omega) a5 a45 (by omega)
        have o2 := hO.below hb23 (Nat.le_refl _)
        have o3 := hO.below hb45 (Nat.le_refl _)
        have hbl := hO.block_lt
        rw [show (((k + 1 : Nat)) : Int) = (k : Int) + 1 from rfl] at k2 k3
        replace k2 := Lib.hid k2
        replace k3 := Lib.hid k3
        replace hbl := Lib.hid hbl
        have hcs := Lib.hid (cntL_succ n es k)
        have hcl := Lib.hid (cntL_len n es k)
        generalize cl (ad (rowsL n es)) (k + 1) (List.range n) = N at *
        clear hN1 hN2 hM1 hM2 a2 a3 a23 a4 a5 a45 hb3 hb5 Gr hrr hO hr9
        go_upto_region 10 with fail
        go_region_law (first
          | (go_simp; go_at_call 58; with_reducible refine k2.out.mono ?_; intro e w4 hq; unfold RetCn at hq; obtain ⟨rfl, -, -, hs4⟩ := hq
             have hb9 : Below wr.heap.size wr w4 := hb23.trans (hs4.below hb23.size (fun k hk => by omega))
             have hO4 := hs4.oi o2 (fun k hk => by have := hbl.out k hk; omega))
          | (go_simp; go_at_call 58; with_reducible refine k3.out.mono ?_; intro e w4 hq; unfold RetCn at hq; obtain ⟨rfl, -, -, hs4⟩ := hq
             have hb9 : Below wr.heap.size wr w4 := hb45.trans (hs4.below hb45.size (fun k hk => by omega))
             have hO4 := hs4.oi o3 (fun k hk => by have := hbl.out k hk; omega))
          | (refine step_append_any _ (by rfl) (.tmp 25) (.tmp 36) 26 (by rfl) w1.heap.size 3 i0 _ 1 8 Tryd.underlying26 hz0 hz1 hz2 hz3 rfl (by omega) (.slice A9 k c9) _ _ (by first | (simp [go_sem]; done) | rfl) (World.ownsRow.alloc hO4 _) _ (some ⟨w4.heap.size, 0, none⟩) 1 1 (ints [(N : Int)]) (by first | (simp [go_sem]; done) | rfl) (RI.one _) (ints_one _) (by rw [hcl.out]; unfold maxLen; omega) (by rw [hcl.out]; omega) (by have := hb9.size; simp; omega) ?_
             intro v5 w5 hown5 hg5 _)
          | fail)
        all_goals
          have hO5 : OI w5 w1.heap.size v5 (cntL n es (k + 1)) := by
            unfold OI
            rw [hcs.out, List.length_append, ints_append]
            exact hown5
          have hb5 : Below w1.heap.size w1 w5 := below_own ((hb.trans (hb9.mono hsz)).alloc (by have := hb9.size; omega) _) hg5 (by have := hb9.size; simp; omega) (fun k hk => (hbl.out k hk).1)
          go_wp2_with fail
          go_roundw
          case rel => exact ⟨v5, k + 1, rfl, by go_num, by omega, hO5, hb5⟩
          case measure => simp [intOf]; omega
      · have i1 : ¬ (k : Int) + 1 ≤ (s : Int) := by omega
        obtain rfl : k = s := by omega
        have hret := Lib.hid (show RetL w (cntL n es k) 0 (.returned (.tuple #[.slice A9 k c9, .int .i64 0])) wr from ⟨A9, k, c9, rfl, hc9, hr9, hb0.trans (hb.mono hb0.size), (hO.fresh (by rw [cntL_len])).mono (by omega)⟩)
        go_wp2_with fail
        go_ret2
        exact hret.out
end Go.Proofs.YtknlmgcbdcepnaaDoor
