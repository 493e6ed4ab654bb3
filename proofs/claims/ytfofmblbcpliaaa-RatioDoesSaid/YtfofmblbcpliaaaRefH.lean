/- The reference's Add and Sub. -/
import Derived.Test.YtfofmblbcpliaaaRefI
set_option linter.unusedVariables false
set_option linter.unusedSimpArgs false
namespace Go.Proofs.Ytfofmblbcpliaaa.Rt
open Go.RowKit CoRat

theorem add_spec {a c : Int} {E D : Nat} (hx : okF a E = true) (hy : okF c D = true) :
    addN a E c D = redN (psg (a.natAbs * D) (c.natAbs * E) (decide (a < 0)) (decide (c < 0))) (psz (a.natAbs * D) (c.natAbs * E) (decide (a < 0)) (decide (c < 0))) (E * D) ∧
    addD a E c D = redD (psz (a.natAbs * D) (c.natAbs * E) (decide (a < 0)) (decide (c < 0))) (E * D) ∧ addE a E c D = redE (psz (a.natAbs * D) (c.natAbs * E) (decide (a < 0)) (decide (c < 0))) (E * D) := by
  unfold addN addD addE
  rw [hx, hy]
  have nE : ¬ ((E : Int) < 0) := by omega
  have nD : ¬ ((D : Int) < 0) := by omega
  by_cases hc : c = 0
  · subst hc
    have b1 := okF_bd hx
    have b2 := okF_bd hy
    have hD : D = 1 := by
      have := b2.2.2.2.2
      simpa using this
    subst hD
    have hg := b1.2.2.2.2
    rw [Int.natAbs_natCast] at hg
    have hf : fits a.natAbs E = true := by
      unfold fits M
      rw [hg, Nat.div_one, Nat.div_one]
      exact decide_eq_true ⟨by omega, by omega⟩
    have hz : psz (a.natAbs * 1) ((0 : Int).natAbs * E) (decide (a < 0)) (decide ((0 : Int) < 0)) = a.natAbs := by
      unfold psz; simp
    have hs : psg (a.natAbs * 1) ((0 : Int).natAbs * E) (decide (a < 0)) (decide ((0 : Int) < 0)) = decide (a < 0) := by
      unfold psg
      split
      · rfl
      · simp
    rw [hz, hs, Nat.mul_one]
    unfold redN redD redE
    rw [hf, hg, Nat.div_one, Nat.div_one]
    simp
    split <;> omega
  · simp [hc, nE, nD]

set_option maxRecDepth 100000 in
set_option maxHeartbeats 40000000 in
theorem rAdd_any (a b c d : Int) (w : World) :
    Calls Try.prog 22 #[.agg #[.int .i64 a, .int .i64 b], .agg #[.int .i64 c, .int .i64 d]] w fun e w' => e = .returned (.tuple #[.agg #[.int .i64 (addN a b c d), .int .i64 (addD a b c d)], .int .i64 (addE a b c d)]) ∧ Below w.heap.size w w' := by
  have okx := fun w => rvalid_any a b w
  have oky := fun w => rvalid_any c d w
  cases hx : okF a b
  · have e1 : Hid (addN a b c d = 0 ∧ addD a b c d = 0 ∧ addE a b c d = 4) := Lib.hid (by unfold addN addD addE; rw [hx]; exact ⟨rfl, rfl, rfl⟩)
    rw [hx] at okx
    replace okx := Lib.hid okx
    clear hx oky
    go_enter Try.func22, Try.ntmps22
    go_wp2_with fail
    refine (okx.out _).mono ?_; rintro e w1 ⟨rfl, hb1⟩; obtain ⟨hc1, hf1⟩ := bat hb1 (w.heap.size + 3) (by simp)
    go_wp2_with fail
    refine bodyPost_ret (v := .tuple #[.agg #[.int .i64 0, .int .i64 0], .int .i64 4]) (by simp [results, Try.results22, go_sem, hc1]) rfl ?_
    exact ⟨retF e1.out.1.symm e1.out.2.1.symm e1.out.2.2.symm, ((by go_grown : Below w.heap.size w _).trans (hb1.mono (by simp; omega))).trans (two_below (Below.refl _ _) (by have := hb1.size; simp at this; omega) _ _)⟩
  · rw [hx] at okx
    replace okx := Lib.hid okx
    cases hy : okF c d
    · have e1 : Hid (addN a b c d = 0 ∧ addD a b c d = 0 ∧ addE a b c d = 4) := Lib.hid (by unfold addN addD addE; rw [hx, hy]; exact ⟨rfl, rfl, rfl⟩)
      rw [hy] at oky
      replace oky := Lib.hid oky
      clear hx hy
      go_enter Try.func22, Try.ntmps22
      go_wp2_with fail
      refine (okx.out _).mono ?_; rintro e w1 ⟨rfl, hb1⟩; obtain ⟨hc1, hf1⟩ := bat hb1 (w.heap.size + 3) (by simp)
      have s1 : w.heap.size + 3 ≤ w1.heap.size := by have := hb1.size; simp at this; omega
      go_wp2_with fail
      refine (oky.out _).mono ?_; rintro e w2 ⟨rfl, hb2⟩; obtain ⟨hc2, hf2⟩ := bat hb2 (w.heap.size + 3) s1
      go_wp2_with fail
      refine bodyPost_ret (v := .tuple #[.agg #[.int .i64 0, .int .i64 0], .int .i64 4]) (by simp [results, Try.results22, go_sem, hc1, hc2]) rfl ?_
      exact ⟨retF e1.out.1.symm e1.out.2.1.symm e1.out.2.2.symm, (((by go_grown : Below w.heap.size w _).trans (hb1.mono (by simp; omega))).trans (hb2.mono (by omega))).trans (two_below (Below.refl _ _) (by have := hb2.size; omega) _ _)⟩
    · rw [hy] at oky
      replace oky := Lib.hid oky
      have bx := okF_bd hx
      have bz := okF_bd hy
      obtain ⟨E, rfl⟩ := Int.eq_ofNat_of_zero_le (show 0 ≤ b by omega)
      obtain ⟨D, rfl⟩ := Int.eq_ofNat_of_zero_le (show 0 ≤ d by omega)
      have e1 := Lib.hid (add_spec hx hy)
      clear hx hy
      have sa := Lib.hid fun w => rsize_any a w (by omega) (by omega)
      have sc := Lib.hid fun w => rsize_any c w (by omega) (by omega)
      have ma := Lib.hid fun w => rmul_eq a.natAbs D w (by omega) (by omega)
      have mc := Lib.hid fun w => rmul_eq c.natAbs E w (by omega) (by omega)
      have mb := Lib.hid fun w => rmul_any E D w (by omega) (by omega)
      have hU2 := Nat.mul_le_mul (show a.natAbs ≤ 1152921504606846976 by omega) (show D ≤ 1152921504606846976 by omega)
      have hV2 := Nat.mul_le_mul (show c.natAbs ≤ 1152921504606846976 by omega) (show E ≤ 1152921504606846976 by omega)
      have hQ3 := Nat.mul_le_mul (show E ≤ 1152921504606846976 by omega) (show D ≤ 1152921504606846976 by omega)
      have hQ0 : 0 < E * D := Nat.mul_pos (by omega) (by omega)
      have E1 : (1 : Int) ≤ E := by omega
      have E2 : (E : Int) ≤ 1152921504606846976 := by omega
      have D1 : (1 : Int) ≤ D := by omega
      have D2 : (D : Int) ≤ 1152921504606846976 := by omega
      have wE : IntKind.u64.wrap (E : Int) = (E : Int) := wrap_nat E (by omega)
      have wD : IntKind.u64.wrap (D : Int) = (D : Int) := wrap_nat D (by omega)
      clear bx bz
      generalize a.natAbs * D = U at *
      generalize c.natAbs * E = V at *
      generalize E * D = Q at *
      generalize hna : a.natAbs = na at *
      generalize hnc : c.natAbs = nc at *
      clear hna hnc
      have hUB : U < B := by unfold B; omega
      have hVB : V < B := by unfold B; omega
      have hQB : Q * 2 < B := by unfold B; omega
      have hUV : U + V < B := by unfold B; omega
      clear hU2 hV2 hQ3
      obtain ⟨sa', qa⟩ : ∃ s, decide (a < 0) = s := ⟨_, rfl⟩
      obtain ⟨sc', qc⟩ : ∃ s, decide (c < 0) = s := ⟨_, rfl⟩
      rw [qa, qc] at e1
      have rd := Lib.hid fun (s : Bool) (P : Nat) (hP : P < B) w => reduce_any s _ _ _ _ P Q w (W.mk P) hP (W.mk Q) hQB hQ0
      have kadd := Lib.hid fun w => radd_any _ _ _ _ U V w (W.mk U) (W.mk V) hUV
      have ksub := Lib.hid fun (h : V ≤ U) w => rsub_any _ _ _ _ U V w (W.mk U) hUB (W.mk V) h
      have ksub' := Lib.hid fun (h : U ≤ V) w => rsub_any _ _ _ _ V U w (W.mk V) hVB (W.mk U) h
      have kls := Lib.hid fun w => rless_any _ _ _ _ U V w (W.mk U) hUB (W.mk V) hVB
      go_enter Try.func22, Try.ntmps22
      go_wp2_with fail
      refine (okx.out _).mono ?_; rintro e w1 ⟨rfl, hb1⟩
      simp only [World.size_alloc] at hb1
      have b0 : Below w.heap.size w (((w.alloc (.cells #[.int .i64 a, .int .i64 E] 23)).alloc (.cells #[.int .i64 c, .int .i64 D] 23)).alloc (.cells #[.int .i64 0, .int .i64 0] 23)) := (((Below.refl _ _).alloc (Nat.le_refl _) _).alloc (by simp) _).alloc (by simp; omega) _
      have X1 : Blk w1 w.heap.size 23 #[.int .i64 a, .int .i64 E] := Blk.below (((Blk.new w _ _).alloc _).alloc _) hb1 (by omega)
      have Y1 : Blk w1 (w.heap.size + 1) 23 #[.int .i64 c, .int .i64 D] := Blk.below ((Blk.new' _ _ _ (by simp)).alloc _) hb1 (by omega)
      have R1 : Blk w1 (w.heap.size + 1 + 1) 23 #[.int .i64 0, .int .i64 0] := Blk.below (Blk.new' _ _ _ (by simp)) hb1 (by omega)
      have s1 : w.heap.size + 1 + 1 + 1 ≤ w1.heap.size := by have := hb1.size; simp at this; omega
      have hb0 := b0.trans (hb1.mono (by omega))
      clear hb1 b0 okx
      have x0 := Blk.cell X1 0
      have x1 := Blk.cell X1 1
      have y0 := Blk.cell Y1 0
      have y1 := Blk.cell Y1 1
      simp at x0 x1 y0 y1
      go_wp2_with fail
      refine (oky.out _).mono ?_; rintro e w2 ⟨rfl, hb2⟩
      have X2 := X1.below hb2 X1.lt
      have Y2 := Y1.below hb2 Y1.lt
      have R2 := R1.below hb2 R1.lt
      have b2 := hb0.trans (hb2.mono (by omega))
      have s2 : w.heap.size + 1 + 1 + 1 ≤ w2.heap.size := by have := hb2.size; omega
      clear hb2 hb0 X1 Y1 R1 x0 x1 y0 y1 oky s1
      have x0 := Blk.cell X2 0
      have x1 := Blk.cell X2 1
      have y0 := Blk.cell Y2 0
      have y1 := Blk.cell Y2 1
      simp at x0 x1 y0 y1
      go_upto_region 3 with fail
      go_cut [6, 7] (fun p5 p6 wx => ∃ ga gb : Nat, p5 = .pointer (some ⟨ga, 0, none⟩) ∧ p6 = .pointer (some ⟨gb, 0, none⟩) ∧ ga ≠ gb ∧ w2.heap.size ≤ ga ∧ w2.heap.size ≤ gb ∧ Blk wx ga 49 #[.int .u64 (hi U), .int .u64 (lo U)] ∧ Blk wx gb 49 #[.int .u64 (hi V), .int .u64 (lo V)] ∧ Below w2.heap.size w2 wx)
      case first =>
        clear e1 rd kadd ksub ksub' kls mb X2 Y2 R2 b2
        go_region_held3 (fun w' => w'.cell? ⟨w.heap.size, 0, none⟩ = some (.int .i64 a) ∧ w'.cell? ⟨w.heap.size, 1, none⟩ = some (.int .i64 E) ∧ w'.cell? ⟨w.heap.size + 1, 0, none⟩ = some (.int .i64 c) ∧ w'.cell? ⟨w.heap.size + 1, 1, none⟩ = some (.int .i64 D))
          ((refine ⟨?_, ?_, ?_, ?_⟩ <;> ((repeat (refine cellA' ?_ _)) <;> first | exact x0 | exact x1 | exact y0 | exact y1)))
          (first | (go_at_call 33; (with_reducible refine (sa.out _).mono ?_); rintro e w9 ⟨rfl, rfl⟩) | (go_at_call 33; (with_reducible refine (sc.out _).mono ?_); rintro e w9 ⟨rfl, rfl⟩) | (go_at_call 43; (with_reducible refine (ma.out _).mono ?_); rintro e w3 ⟨rfl, rfl⟩) | (go_at_call 43; (with_reducible refine (mc.out _).mono ?_); rintro e w3 ⟨rfl, rfl⟩))
        all_goals go_wp2_with fail
        all_goals go_meet
        all_goals
          refine ⟨_, _, rfl, rfl, by omega, by omega, by omega, ?_, ?_, by go_grown⟩
          all_goals
            refine blk_drw ?_
            repeat (first | (refine Blk.new' _ _ _ ?_; (simp; done)) | refine Blk.alloc ?_ _)
      case rest =>
        obtain ⟨ga, gb, rfl, rfl, hne, hga, hgb, hBa, hBb, hbx⟩ := hcut
        have X3 := X2.below hbx X2.lt
        have Y3 := Y2.below hbx Y2.lt
        have R3 := R2.below hbx R2.lt
        have hbw := b2.trans (hbx.mono (by omega))
        have s3 := hbx.size
        clear x0 x1 y0 y1 sa sc ma mc hbx X2 Y2 R2 b2
        have x1 := Blk.cell X3 1
        have y1 := Blk.cell Y3 1
        simp at x1 y1
        go_wp2_with fail
        refine (mb.out _).mono ?_; rintro e w4 ⟨rfl, hb4⟩
        go_upto_region 5 with fail
        have D5 := Blk.new w4 49 #[.int .u64 (hi Q), .int .u64 (lo Q)]
        have X5 := (X3.below hb4 X3.lt).alloc (.cells #[.int .u64 (hi Q), .int .u64 (lo Q)] 49)
        have Y5 := (Y3.below hb4 Y3.lt).alloc (.cells #[.int .u64 (hi Q), .int .u64 (lo Q)] 49)
        have R5 := (R3.below hb4 R3.lt).alloc (.cells #[.int .u64 (hi Q), .int .u64 (lo Q)] 49)
        have A5 := (hBa.below hb4 hBa.lt).alloc (.cells #[.int .u64 (hi Q), .int .u64 (lo Q)] 49)
        have B5 := (hBb.below hb4 hBb.lt).alloc (.cells #[.int .u64 (hi Q), .int .u64 (lo Q)] 49)
        have hb5 := (hbw.trans (hb4.mono (by omega))).alloc (hbw.trans (hb4.mono (by omega))).size (.cells #[.int .u64 (hi Q), .int .u64 (lo Q)] 49)
        have hgd : w.heap.size + 1 + 1 < w4.heap.size := by have := hb4.size; omega
        clear X3 Y3 R3 hBa hBb hbw hb4 x1 y1 mb
        generalize w4.alloc (.cells #[.int .u64 (hi Q), .int .u64 (lo Q)] 49) = w5 at *
        generalize w4.heap.size = gd at *
        have x0 := Blk.cell X5 0
        have y0 := Blk.cell Y5 0
        have a0 := Blk.cell A5 0
        have a1 := Blk.cell A5 1
        have b0 := Blk.cell B5 0
        have b1 := Blk.cell B5 1
        have d0 := Blk.cell D5 0
        have d1 := Blk.cell D5 1
        simp at x0 y0 a0 a1 b0 b1 d0 d1
        have hnX := Lib.hid (fun i j e => by injection e with e; omega : ∀ i j : Nat, (⟨w.heap.size + 1 + 1, i, none⟩ : Addr) ≠ ⟨w.heap.size, j, none⟩)
        have hnY := Lib.hid (fun i j e => by injection e with e; omega : ∀ i j : Nat, (⟨w.heap.size + 1 + 1, i, none⟩ : Addr) ≠ ⟨w.heap.size + 1, j, none⟩)
        have hnA := Lib.hid (fun i j e => by injection e with e; omega : ∀ i j : Nat, (⟨w.heap.size + 1 + 1, i, none⟩ : Addr) ≠ ⟨ga, j, none⟩)
        have hnB := Lib.hid (fun i j e => by injection e with e; omega : ∀ i j : Nat, (⟨w.heap.size + 1 + 1, i, none⟩ : Addr) ≠ ⟨gb, j, none⟩)
        have hnD := Lib.hid (fun i j e => by injection e with e; omega : ∀ i j : Nat, (⟨w.heap.size + 1 + 1, i, none⟩ : Addr) ≠ ⟨gd, j, none⟩)
        have lX := X5.lt
        have lY := Y5.lt
        have lA := A5.lt
        have lB := B5.lt
        have lD := D5.lt
        have lR := R5.lt
        by_cases hs : sa' = sc'
        · subst hs
          have hE : Hid (addN a E c D = redN sa' (U + V) Q ∧ addD a E c D = redD (U + V) Q ∧ addE a E c D = redE (U + V) Q) := Lib.hid (by
            have := e1.out
            rw [show psg U V sa' sa' = sa' from if_pos rfl, show psz U V sa' sa' = U + V from if_pos rfl] at this
            exact this)
          clear e1 ksub ksub' kls
          go_upto_region 6 with fail
          have BN : Below w5.heap.size w5 w5 := Below.refl _ _
          go_region_held3 (fun w' => w'.cell? ⟨w.heap.size, 0, none⟩ = some (.int .i64 a) ∧ w'.cell? ⟨ga, 0, none⟩ = some (.int .u64 (hi U)) ∧ w'.cell? ⟨ga, 1, none⟩ = some (.int .u64 (lo U)) ∧ w'.cell? ⟨gb, 0, none⟩ = some (.int .u64 (hi V)) ∧ w'.cell? ⟨gb, 1, none⟩ = some (.int .u64 (lo V)) ∧ w'.cell? ⟨gd, 0, none⟩ = some (.int .u64 (hi Q)) ∧ w'.cell? ⟨gd, 1, none⟩ = some (.int .u64 (lo Q)))
            ((first
              | (exact ⟨(BN.cell (p := ⟨w.heap.size, 0, none⟩) lX).trans x0, (BN.cell (p := ⟨ga, 0, none⟩) lA).trans a0, (BN.cell (p := ⟨ga, 1, none⟩) lA).trans a1, (BN.cell (p := ⟨gb, 0, none⟩) lB).trans b0, (BN.cell (p := ⟨gb, 1, none⟩) lB).trans b1, (BN.cell (p := ⟨gd, 0, none⟩) lD).trans d0, (BN.cell (p := ⟨gd, 1, none⟩) lD).trans d1⟩)
              | ((repeat' apply And.intro) <;> ((repeat (first | refine (World.cell?_setCell_other _ _ _ _ (hnX.out _ _)).trans ?_ | refine (World.cell?_setCell_other _ _ _ _ (hnA.out _ _)).trans ?_ | refine (World.cell?_setCell_other _ _ _ _ (hnB.out _ _)).trans ?_ | refine (World.cell?_setCell_other _ _ _ _ (hnD.out _ _)).trans ?_)) <;> first | exact (BN.cell (p := ⟨w.heap.size, 0, none⟩) lX).trans x0 | exact (BN.cell (p := ⟨ga, 0, none⟩) lA).trans a0 | exact (BN.cell (p := ⟨ga, 1, none⟩) lA).trans a1 | exact (BN.cell (p := ⟨gb, 0, none⟩) lB).trans b0 | exact (BN.cell (p := ⟨gb, 1, none⟩) lB).trans b1 | exact (BN.cell (p := ⟨gd, 0, none⟩) lD).trans d0 | exact (BN.cell (p := ⟨gd, 1, none⟩) lD).trans d1))))
            ((first
              | (go_at_call 44; (with_reducible refine (kadd.out _).mono ?_); rintro e w6 ⟨rfl, hb6⟩; replace BN : Below w5.heap.size w5 w6 := BN.drew.trans (hb6.mono (Nat.le_refl _)))
              | (go_at_call 32; (with_reducible refine (rd.out sa' (U + V) hUV _).mono ?_); rintro e w7 ⟨rfl, hb7⟩; replace BN : Below w5.heap.size w5 w7 := BN.trans (hb7.mono BN.size); have hz := Blk.below R5 BN lR; have z0 := Blk.cell hz 0; have z1 := Blk.cell hz 1; have z2 := Blk.frozen hz 0; have z3 := Blk.frozen hz 1; simp at z0 z1)))
          have hzz := Blk.set (Blk.set hz 0 (.int .i64 (redN sa' (U + V) Q))) 1 (.int .i64 (redD (U + V) Q))
          have e0 := Blk.cell hzz 0
          have e1' := Blk.cell hzz 1
          simp at e0 e1'
          have hbz := two_below (g := w.heap.size + 1 + 1) (hb5.trans (BN.mono hb5.size)) (by omega) (.int .i64 (redN sa' (U + V) Q)) (.int .i64 (redD (U + V) Q))
          clear hz z0 z1 z2 z3 hzz BN hb6 hb7
          go_wp2_with fail
          refine bodyPost_ret (v := .tuple #[.agg #[.int .i64 (redN sa' (U + V) Q), .int .i64 (redD (U + V) Q)], .int .i64 (redE (U + V) Q)]) (by simp [results, Try.results22, go_sem, e0, e1']) rfl ?_
          exact ⟨retF hE.out.1.symm hE.out.2.1.symm hE.out.2.2.symm, hbz⟩
        · have qs : (sa' == sc') = false := by rw [beq_eq_false_iff_ne]; exact hs
          clear kadd
          by_cases hlt : U < V
          · have hE : Hid (addN a E c D = redN sc' (V - U) Q ∧ addD a E c D = redD (V - U) Q ∧ addE a E c D = redE (V - U) Q) := Lib.hid (by
              have := e1.out
              rw [show psg U V sa' sc' = sc' by unfold psg; rw [if_neg hs, if_pos hlt], show psz U V sa' sc' = V - U by unfold psz; rw [if_neg hs, if_pos hlt]] at this
              exact this)
            have hPB : V - U < B := by omega
            have hle : U ≤ V := by omega
            have kl := kls.out
            rw [decide_eq_true hlt] at kl
            replace kl := Lib.hid kl
            clear e1 ksub kls hlt
            go_wp2_with fail
            refine (kl.out _).mono ?_; rintro e w5' ⟨rfl, hbl⟩
            replace X5 := X5.below hbl lX
            replace Y5 := Y5.below hbl lY
            replace A5 := A5.below hbl lA
            replace B5 := B5.below hbl lB
            replace D5 := D5.below hbl lD
            replace R5 := R5.below hbl lR
            replace hb5 := hb5.trans (hbl.mono hb5.size)
            clear x0 y0 a0 a1 b0 b1 d0 d1 hbl lX lY lA lB lD lR
            have x0 := Blk.cell X5 0
            have y0 := Blk.cell Y5 0
            have a0 := Blk.cell A5 0
            have a1 := Blk.cell A5 1
            have b0 := Blk.cell B5 0
            have b1 := Blk.cell B5 1
            have d0 := Blk.cell D5 0
            have d1 := Blk.cell D5 1
            simp at x0 y0 a0 a1 b0 b1 d0 d1
            have lX := X5.lt
            have lY := Y5.lt
            have lA := A5.lt
            have lB := B5.lt
            have lD := D5.lt
            have lR := R5.lt
            obtain ⟨w5, rfl⟩ : ∃ w5, w5 = w5' := ⟨_, rfl⟩
            go_upto_region 8 with fail
            have BN : Below w5.heap.size w5 w5 := Below.refl _ _
            go_region_held3 (fun w' => w'.cell? ⟨w.heap.size + 1, 0, none⟩ = some (.int .i64 c) ∧ w'.cell? ⟨ga, 0, none⟩ = some (.int .u64 (hi U)) ∧ w'.cell? ⟨ga, 1, none⟩ = some (.int .u64 (lo U)) ∧ w'.cell? ⟨gb, 0, none⟩ = some (.int .u64 (hi V)) ∧ w'.cell? ⟨gb, 1, none⟩ = some (.int .u64 (lo V)) ∧ w'.cell? ⟨gd, 0, none⟩ = some (.int .u64 (hi Q)) ∧ w'.cell? ⟨gd, 1, none⟩ = some (.int .u64 (lo Q)))
              ((first
                | (exact ⟨(BN.cell (p := ⟨w.heap.size + 1, 0, none⟩) lY).trans y0, (BN.cell (p := ⟨ga, 0, none⟩) lA).trans a0, (BN.cell (p := ⟨ga, 1, none⟩) lA).trans a1, (BN.cell (p := ⟨gb, 0, none⟩) lB).trans b0, (BN.cell (p := ⟨gb, 1, none⟩) lB).trans b1, (BN.cell (p := ⟨gd, 0, none⟩) lD).trans d0, (BN.cell (p := ⟨gd, 1, none⟩) lD).trans d1⟩)
                | ((repeat' apply And.intro) <;> ((repeat (first | refine (World.cell?_setCell_other _ _ _ _ (hnY.out _ _)).trans ?_ | refine (World.cell?_setCell_other _ _ _ _ (hnA.out _ _)).trans ?_ | refine (World.cell?_setCell_other _ _ _ _ (hnB.out _ _)).trans ?_ | refine (World.cell?_setCell_other _ _ _ _ (hnD.out _ _)).trans ?_)) <;> first | exact (BN.cell (p := ⟨w.heap.size + 1, 0, none⟩) lY).trans y0 | exact (BN.cell (p := ⟨ga, 0, none⟩) lA).trans a0 | exact (BN.cell (p := ⟨ga, 1, none⟩) lA).trans a1 | exact (BN.cell (p := ⟨gb, 0, none⟩) lB).trans b0 | exact (BN.cell (p := ⟨gb, 1, none⟩) lB).trans b1 | exact (BN.cell (p := ⟨gd, 0, none⟩) lD).trans d0 | exact (BN.cell (p := ⟨gd, 1, none⟩) lD).trans d1))))
              ((first
                | (go_at_call 46; (with_reducible refine (ksub'.out hle _).mono ?_); rintro e w6 ⟨rfl, hb6⟩; replace BN : Below w5.heap.size w5 w6 := BN.drew.trans (hb6.mono (Nat.le_refl _)))
                | (go_at_call 32; (with_reducible refine (rd.out sc' (V - U) hPB _).mono ?_); rintro e w7 ⟨rfl, hb7⟩; replace BN : Below w5.heap.size w5 w7 := BN.trans (hb7.mono BN.size); have hz := Blk.below R5 BN lR; have z0 := Blk.cell hz 0; have z1 := Blk.cell hz 1; have z2 := Blk.frozen hz 0; have z3 := Blk.frozen hz 1; simp at z0 z1)))
            have hzz := Blk.set (Blk.set hz 0 (.int .i64 (redN sc' (V - U) Q))) 1 (.int .i64 (redD (V - U) Q))
            have e0 := Blk.cell hzz 0
            have e1' := Blk.cell hzz 1
            simp at e0 e1'
            have hbz := two_below (g := w.heap.size + 1 + 1) (hb5.trans (BN.mono hb5.size)) (by omega) (.int .i64 (redN sc' (V - U) Q)) (.int .i64 (redD (V - U) Q))
            clear hz z0 z1 z2 z3 hzz BN hb6 hb7
            go_wp2_with fail
            refine bodyPost_ret (v := .tuple #[.agg #[.int .i64 (redN sc' (V - U) Q), .int .i64 (redD (V - U) Q)], .int .i64 (redE (V - U) Q)]) (by simp [results, Try.results22, go_sem, e0, e1']) rfl ?_
            exact ⟨retF hE.out.1.symm hE.out.2.1.symm hE.out.2.2.symm, hbz⟩
          · have hE : Hid (addN a E c D = redN sa' (U - V) Q ∧ addD a E c D = redD (U - V) Q ∧ addE a E c D = redE (U - V) Q) := Lib.hid (by
              have := e1.out
              rw [show psg U V sa' sc' = sa' by unfold psg; rw [if_neg hs, if_neg hlt], show psz U V sa' sc' = U - V by unfold psz; rw [if_neg hs, if_neg hlt]] at this
              exact this)
            have hPB : U - V < B := by omega
            have hle : V ≤ U := by omega
            have kl := kls.out
            rw [decide_eq_false hlt] at kl
            replace kl := Lib.hid kl
            clear e1 ksub' kls hlt
            go_wp2_with fail
            refine (kl.out _).mono ?_; rintro e w5' ⟨rfl, hbl⟩
            replace X5 := X5.below hbl lX
            replace Y5 := Y5.below hbl lY
            replace A5 := A5.below hbl lA
            replace B5 := B5.below hbl lB
            replace D5 := D5.below hbl lD
            replace R5 := R5.below hbl lR
            replace hb5 := hb5.trans (hbl.mono hb5.size)
            clear x0 y0 a0 a1 b0 b1 d0 d1 hbl lX lY lA lB lD lR
            have x0 := Blk.cell X5 0
            have y0 := Blk.cell Y5 0
            have a0 := Blk.cell A5 0
            have a1 := Blk.cell A5 1
            have b0 := Blk.cell B5 0
            have b1 := Blk.cell B5 1
            have d0 := Blk.cell D5 0
            have d1 := Blk.cell D5 1
            simp at x0 y0 a0 a1 b0 b1 d0 d1
            have lX := X5.lt
            have lY := Y5.lt
            have lA := A5.lt
            have lB := B5.lt
            have lD := D5.lt
            have lR := R5.lt
            obtain ⟨w5, rfl⟩ : ∃ w5, w5 = w5' := ⟨_, rfl⟩
            go_upto_region 9 with fail
            have BN : Below w5.heap.size w5 w5 := Below.refl _ _
            go_region_held3 (fun w' => w'.cell? ⟨w.heap.size, 0, none⟩ = some (.int .i64 a) ∧ w'.cell? ⟨ga, 0, none⟩ = some (.int .u64 (hi U)) ∧ w'.cell? ⟨ga, 1, none⟩ = some (.int .u64 (lo U)) ∧ w'.cell? ⟨gb, 0, none⟩ = some (.int .u64 (hi V)) ∧ w'.cell? ⟨gb, 1, none⟩ = some (.int .u64 (lo V)) ∧ w'.cell? ⟨gd, 0, none⟩ = some (.int .u64 (hi Q)) ∧ w'.cell? ⟨gd, 1, none⟩ = some (.int .u64 (lo Q)))
              ((first
                | (exact ⟨(BN.cell (p := ⟨w.heap.size, 0, none⟩) lX).trans x0, (BN.cell (p := ⟨ga, 0, none⟩) lA).trans a0, (BN.cell (p := ⟨ga, 1, none⟩) lA).trans a1, (BN.cell (p := ⟨gb, 0, none⟩) lB).trans b0, (BN.cell (p := ⟨gb, 1, none⟩) lB).trans b1, (BN.cell (p := ⟨gd, 0, none⟩) lD).trans d0, (BN.cell (p := ⟨gd, 1, none⟩) lD).trans d1⟩)
                | ((repeat' apply And.intro) <;> ((repeat (first | refine (World.cell?_setCell_other _ _ _ _ (hnX.out _ _)).trans ?_ | refine (World.cell?_setCell_other _ _ _ _ (hnA.out _ _)).trans ?_ | refine (World.cell?_setCell_other _ _ _ _ (hnB.out _ _)).trans ?_ | refine (World.cell?_setCell_other _ _ _ _ (hnD.out _ _)).trans ?_)) <;> first | exact (BN.cell (p := ⟨w.heap.size, 0, none⟩) lX).trans x0 | exact (BN.cell (p := ⟨ga, 0, none⟩) lA).trans a0 | exact (BN.cell (p := ⟨ga, 1, none⟩) lA).trans a1 | exact (BN.cell (p := ⟨gb, 0, none⟩) lB).trans b0 | exact (BN.cell (p := ⟨gb, 1, none⟩) lB).trans b1 | exact (BN.cell (p := ⟨gd, 0, none⟩) lD).trans d0 | exact (BN.cell (p := ⟨gd, 1, none⟩) lD).trans d1))))
              ((first
                | (go_at_call 46; (with_reducible refine (ksub.out hle _).mono ?_); rintro e w6 ⟨rfl, hb6⟩; replace BN : Below w5.heap.size w5 w6 := BN.drew.trans (hb6.mono (Nat.le_refl _)))
                | (go_at_call 32; (with_reducible refine (rd.out sa' (U - V) hPB _).mono ?_); rintro e w7 ⟨rfl, hb7⟩; replace BN : Below w5.heap.size w5 w7 := BN.trans (hb7.mono BN.size); have hz := Blk.below R5 BN lR; have z0 := Blk.cell hz 0; have z1 := Blk.cell hz 1; have z2 := Blk.frozen hz 0; have z3 := Blk.frozen hz 1; simp at z0 z1)))
            have hzz := Blk.set (Blk.set hz 0 (.int .i64 (redN sa' (U - V) Q))) 1 (.int .i64 (redD (U - V) Q))
            have e0 := Blk.cell hzz 0
            have e1' := Blk.cell hzz 1
            simp at e0 e1'
            have hbz := two_below (g := w.heap.size + 1 + 1) (hb5.trans (BN.mono hb5.size)) (by omega) (.int .i64 (redN sa' (U - V) Q)) (.int .i64 (redD (U - V) Q))
            clear hz z0 z1 z2 z3 hzz BN hb6 hb7
            go_wp2_with fail
            refine bodyPost_ret (v := .tuple #[.agg #[.int .i64 (redN sa' (U - V) Q), .int .i64 (redD (U - V) Q)], .int .i64 (redE (U - V) Q)]) (by simp [results, Try.results22, go_sem, e0, e1']) rfl ?_
            exact ⟨retF hE.out.1.symm hE.out.2.1.symm hE.out.2.2.symm, hbz⟩
end Go.Proofs.Ytfofmblbcpliaaa.Rt
