/- The law PeelTakes: its walk. -/
import Derived.Test.YtdibfecejgjfmaaDoorLwtA
import Derived.Test.YtdibfecejgjfmaaDoorLwpB
import Derived.Test.YtdibfecejgjfmaaDoorRefH
set_option linter.unusedVariables false
set_option linter.unusedSimpArgs false
namespace Go.Proofs.YtdibfecejgjfmaaDoor
open Go.RowKit CoBit CoRat Rt

/-- What the laws want of their fractions. -/
structure FrcF (i j : Int) (a d a' d' : Nat) : Prop where
  x : mkN i j = (a : Int) ∧ mkD i j = (d : Int)
  y : addN (mkN i j) (mkD i j) (mkN 1 3) (mkD 1 3) = (a' : Int) ∧ addD (mkN i j) (mkD i j) (mkN 1 3) (mkD 1 3) = (d' : Int)
  okx : okF (a : Int) (d : Int) = true
  oky : okF (a' : Int) (d' : Int) = true
  bd : a ≤ 1048576 ∧ d ≤ 1048576 ∧ a' ≤ 1048576 ∧ d' ≤ 1048576
  le : a * d' ≤ a' * d
  d0 : 0 < d
theorem frcF {i j : Int} (hi : 0 ≤ i ∧ i < 6) (hj : 1 ≤ j ∧ j < 6) : ∃ a d a' d', FrcF i j a d a' d' := by
  obtain ⟨i, rfl⟩ := Int.eq_ofNat_of_zero_le hi.1
  obtain ⟨j, rfl⟩ := Int.eq_ofNat_of_zero_le (show 0 ≤ j by omega)
  have h1 := List.all_eq_true.1 frc_all i (List.mem_range.2 (by omega))
  have h2 := List.all_eq_true.1 h1 j (List.mem_range.2 (by omega))
  have h3 : frcOk i j = true := by
    rw [Bool.or_eq_true] at h2
    rcases h2 with h2 | h2
    · rw [beq_iff_eq] at h2; omega
    · exact h2
  unfold frcOk at h3
  simp only [Bool.and_eq_true, decide_eq_true_eq] at h3
  obtain ⟨⟨⟨⟨⟨⟨⟨⟨⟨k1, k2⟩, k3⟩, k4⟩, k5⟩, k6⟩, k7⟩, k8⟩, k9⟩, k10⟩ := h3
  have b5 := okF_bd k5
  generalize hy1 : addN (mkN (i : Int) (j : Int)) (mkD (i : Int) (j : Int)) (mkN 1 3) (mkD 1 3) = yN at *
  generalize hy2 : addD (mkN (i : Int) (j : Int)) (mkD (i : Int) (j : Int)) (mkN 1 3) (mkD 1 3) = yD at *
  generalize hx1 : mkN (i : Int) (j : Int) = xN at *
  generalize hx2 : mkD (i : Int) (j : Int) = xD at *
  obtain ⟨a, rfl⟩ := Int.eq_ofNat_of_zero_le k2
  obtain ⟨d, rfl⟩ := Int.eq_ofNat_of_zero_le (show 0 ≤ xD by omega)
  obtain ⟨a', rfl⟩ := Int.eq_ofNat_of_zero_le k6
  obtain ⟨d', rfl⟩ := Int.eq_ofNat_of_zero_le (show 0 ≤ yD by omega)
  exact ⟨a, d, a', d', ⟨hx1, hx2⟩, ⟨by rw [hx1, hx2]; exact hy1, by rw [hx1, hx2]; exact hy2⟩, k1, k5, ⟨by omega, by omega, by omega, by omega⟩, by rw [← Int.natCast_mul, ← Int.natCast_mul] at k9; omega, by omega⟩

attribute [local irreducible] wpQuiet
set_option maxRecDepth 100000 in
set_option maxHeartbeats 20000000 in
theorem lawTakes_any (A0 : Option Addr) (m0 c0 : Nat) (l : List Int) (num den : Int) (w : World) (hT : Tab w) (h0 : RI w A0 m0 l) (hmc : m0 ≤ c0) (hm0 : m0 ≤ 1152921504606846976) :
    Calls Tryd.prog 6 #[.slice A0 m0 c0, .int .i64 num, .int .i64 den] w fun e w' => e = .returned (.bool true) ∧ Below w.heap.size w w' := by
  have km1 := fun w => mkmod_any num 5 w (by omega) (by omega)
  have km2 := fun w => mkmod_any den 5 w (by omega) (by omega)
  have hi : 0 ≤ num % 5 ∧ num % 5 < 6 := by omega
  have hj : 0 ≤ den % 5 ∧ den % 5 < 5 := by omega
  generalize num % 5 = I at *
  generalize den % 5 = J0 at *
  obtain ⟨J, hJ⟩ : ∃ J, J = 1 + J0 := ⟨_, rfl⟩
  have eJ : 1 + J0 = J := hJ.symm
  have wJ : IntKind.i64.wrap (1 + J0) = J := by rw [eJ]; exact IntWalk.i64_in _ ⟨by omega, by omega⟩
  obtain ⟨a, d, a', d', hF⟩ := frcF hi (j := J) (by omega)
  have kof1 := fun w => of_f I J w (by omega) (by omega) (by omega) (by omega)
  have kof2 := fun w => of_f 1 3 w (by omega) (by omega) (by omega) (by omega)
  rw [hF.x.1, hF.x.2] at kof1
  have kad := fun w => rAdd_any a d (mkN 1 3) (mkD 1 3) w
  have hy := hF.y
  rw [hF.x.1, hF.x.2] at hy
  rw [hy.1, hy.2] at kad
  generalize addE (a : Int) (d : Int) (mkN 1 3) (mkD 1 3) = eE at *
  generalize mkN 1 3 = tN at *
  generalize mkD 1 3 = tD at *
  have hokx := Lib.hid hF.okx
  have hoky := Lib.hid hF.oky
  have hbd := hF.bd
  have hle := Lib.hid hF.le
  have hd0 := hF.d0
  replace km1 := Lib.hid km1
  replace km2 := Lib.hid km2
  replace kof1 := Lib.hid kof1
  replace kof2 := Lib.hid kof2
  replace kad := Lib.hid kad
  replace hJ := Lib.hid hJ
  clear hF hy
  go_enter Tryd.func6, Tryd.ntmps6
  go_wp2_with fail
  refine (new_any A0 m0 c0 l w h0 hmc hm0).mono ?_
  rintro e w1 ⟨rfl, hd1, hb1, hs1⟩
  go_wp2_with fail
  refine (mkgraph_any _ 9 _ hd1 (by omega)).mono ?_
  rintro e w2 ⟨n, es, A, m, c, rfl, hmcc, hr2, hf2, hsrt, hn9, hd2, hg2⟩
  have hz := Lib.hid (chk_of_srt hsrt (show (0 : Int) ≤ n by omega) (by omega))
  have hlen : m ≤ 81 := by
    have h1 := srt_len hsrt
    have h2 := hr2.len
    have h3 : n * n ≤ 9 * 9 := Nat.mul_le_mul hn9 hn9
    omega
  have hb2 : Below w.heap.size w w2 := hb1.grown hg2 (by omega) (fun k hk => by injection hk with hk; omega)
  have hs2 := hb2.size
  clear hs1 hb1 hf2 hg2 h0 hd1 hd2
  go_wp2_with fail
  have hG := Blk.new w2 27 #[.int .i64 n, .slice A m c]
  have hr3 := hr2.alloc (.cells #[.int .i64 n, .slice A m c] 27)
  have hb3 := hb2.alloc hs2 (.cells #[.int .i64 n, .slice A m c] 27)
  clear hr2 hb2
  generalize w2.alloc (.cells #[.int .i64 n, .slice A m c] 27) = w3 at *
  generalize w2.heap.size = gg at *
  refine (km1.out _).mono ?_
  rintro e w3' ⟨rfl, rfl⟩
  go_wp2_with fail
  refine (km2.out _).mono ?_
  rintro e w3' ⟨rfl, rfl⟩
  go_wp2_with fail
  refine (kof1.out _).mono ?_
  rintro e w4 ⟨rfl, hb4⟩
  go_upto_region 3 with fail
  have hX := Blk.new w4 31 #[.int .i64 a, .int .i64 d]
  have hG4 := (hG.below hb4 hG.lt).alloc (.cells #[.int .i64 a, .int .i64 d] 31)
  have hr4 := (hr3.below hb4 (Nat.le_refl _)).alloc (.cells #[.int .i64 a, .int .i64 d] 31)
  have hb5 := (hb3.trans (hb4.mono hb3.size)).alloc (hb3.trans (hb4.mono hb3.size)).size (.cells #[.int .i64 a, .int .i64 d] 31)
  clear hG hr3 hb3 hb4 km1 km2 kof1
  generalize w4.alloc (.cells #[.int .i64 a, .int .i64 d] 31) = w5 at *
  generalize w4.heap.size = gx at *
  have hxl := hX.lt
  obtain ⟨x0, x1⟩ := blkF hX
  go_cut [9] (fun p wx => ∃ gy : Nat, p = .pointer (some ⟨gy, 0, none⟩) ∧ Blk wx gy 31 #[.int .i64 a', .int .i64 d'] ∧ Below w5.heap.size w5 wx)
  case first =>
    have hnb := Blk.new w5 31 #[.int .i64 0, .int .i64 0]
    have BN : Below w5.heap.size w5 w5 := Below.refl _ _
    have hnn7 := Lib.hid (fun i j e => by injection e with e; omega : ∀ i j : Nat, (⟨w5.heap.size, i, none⟩ : Addr) ≠ ⟨gx, j, none⟩)
    go_region_held3 (fun w' => w'.cell? ⟨gx, 0, none⟩ = some (.int .i64 a) ∧ w'.cell? ⟨gx, 1, none⟩ = some (.int .i64 d))
      ((first
        | (exact ⟨(BN.cell (p := ⟨gx, 0, none⟩) hxl).trans x0, (BN.cell (p := ⟨gx, 1, none⟩) hxl).trans x1⟩)
        | (exact ⟨(World.cell?_alloc_lt _ _ _ hlt9).trans ((BN.cell (p := ⟨gx, 0, none⟩) hxl).trans x0), (World.cell?_alloc_lt _ _ _ hlt9).trans ((BN.cell (p := ⟨gx, 1, none⟩) hxl).trans x1)⟩)
        | (exact ⟨(World.cell?_alloc_lt _ _ _ hlt8).trans ((BN.cell (p := ⟨gx, 0, none⟩) hxl).trans x0), (World.cell?_alloc_lt _ _ _ hlt8).trans ((BN.cell (p := ⟨gx, 1, none⟩) hxl).trans x1)⟩)
        | (exact ⟨(World.cell?_setCell_other _ _ _ _ (hnn7.out _ _)).trans ((World.cell?_setCell_other _ _ _ _ (hnn7.out _ _)).trans ((BN.cell (p := ⟨gx, 0, none⟩) hxl).trans x0)), (World.cell?_setCell_other _ _ _ _ (hnn7.out _ _)).trans ((World.cell?_setCell_other _ _ _ _ (hnn7.out _ _)).trans ((BN.cell (p := ⟨gx, 1, none⟩) hxl).trans x1))⟩)
        | (exact ⟨(World.cell?_setCell_other _ _ _ _ (hnn8.out _ _)).trans ((World.cell?_setCell_other _ _ _ _ (hnn8.out _ _)).trans ((BN.cell (p := ⟨gx, 0, none⟩) hxl).trans x0)), (World.cell?_setCell_other _ _ _ _ (hnn8.out _ _)).trans ((World.cell?_setCell_other _ _ _ _ (hnn8.out _ _)).trans ((BN.cell (p := ⟨gx, 1, none⟩) hxl).trans x1))⟩)
        | ((repeat' apply And.intro) <;> (go_keep; done))))
      ((first
        | (go_at_call 18; (with_reducible refine (kof2.out _).mono ?_); rintro e w8 ⟨rfl, hb8⟩; replace BN : Below w5.heap.size w5 w8 := (by first | exact below_call BN.drew hb8 | exact below_call (BN.alloc (Nat.le_refl _) _).drew hb8);
           have hle8 := BN.size; have hlt8 : gx < w8.heap.size := Nat.lt_of_lt_of_le hxl BN.size;
           have hnn8 := Lib.hid (fun i j e => by injection e with e; omega : ∀ i j : Nat, (⟨w8.heap.size, i, none⟩ : Addr) ≠ ⟨gx, j, none⟩);
           try (have hzb := Blk.below hnb.drew hb8 (Blk.lt hnb)))
        | (go_at_call 29; (with_reducible refine (kad.out _).mono ?_); rintro e w9 ⟨rfl, hb9⟩;
           first | (replace hzb := Blk.below hzb hb9 (Blk.lt hzb)) | (have hzb := Blk.below (Blk.new w8 31 #[.int .i64 0, .int .i64 0]) hb9 (Blk.lt (Blk.new w8 31 #[.int .i64 0, .int .i64 0]))) | skip;
           replace BN : Below w5.heap.size w5 w9 := (by first | exact below_call BN hb9 | exact below_call (BN.alloc BN.size _) hb9);
           have hlt9 : gx < w9.heap.size := Nat.lt_of_lt_of_le hxl BN.size;
           try (obtain ⟨z0, z1⟩ := blkF hzb; have z2 := Blk.frozen hzb 0; have z3 := Blk.frozen hzb 1))))
    all_goals go_wp2_with fail
    all_goals go_meet
    · exact ⟨w9.heap.size, rfl, Blk.new _ _ _, BN.alloc BN.size _⟩
    · exact ⟨w8.heap.size, rfl, Blk.set (Blk.set hzb 0 (.int .i64 a')) 1 (.int .i64 d'), (BN.setCell (p := ⟨w8.heap.size, 0, none⟩) hle8 (.int .i64 a')).setCell (p := ⟨w8.heap.size, 1, none⟩) hle8 (.int .i64 d')⟩
    · exact ⟨w5.heap.size, rfl, Blk.set (Blk.set hzb 0 (.int .i64 a')) 1 (.int .i64 d'), (BN.setCell (p := ⟨w5.heap.size, 0, none⟩) (Nat.le_refl _) (.int .i64 a')).setCell (p := ⟨w5.heap.size, 1, none⟩) (Nat.le_refl _) (.int .i64 d')⟩
  case rest =>
    obtain ⟨gy, rfl, hY, hbx⟩ := hcut
    have hXx := hX.below hbx hX.lt
    have hGx := hG4.below hbx hG4.lt
    have hrx := hr4.below hbx (Nat.le_refl _)
    have hb05 := hb5.trans (hbx.mono hb5.size)
    clear hX hG4 hr4 hb5 hbx x0 x1 kof2 kad
    obtain ⟨d0, d1⟩ := blkG hGx
    obtain ⟨x0, x1⟩ := blkF hXx
    have hTx := hT.keep hb05
    have kr1 := Lib.hid fun w hT h => rounds_any A m c n es a d w hT h (by omega) hz.out (by omega) hokx.out hbd.1 hbd.2.1
    have kr2 := Lib.hid fun w hT h => rounds_any A m c n es a' d' w hT h (by omega) hz.out (by omega) hoky.out hbd.2.2.1 hbd.2.2.2
    have hperm := Lib.hid (rnd_all (a := a) (d := d) hz.out (show n ≤ 64 by omega))
    have hnem := Lib.hid (rnd_ne (a := a) (d := d) hz.out (show n ≤ 64 by omega) n)
    have hfst : 0 < n → (rndK n es a d n).2.2[0]? = some (bset (fewM n es (2 ^ n - 1) a d)) := fun h => by
      have := rnd_first (es := es) (a := a) (d := d) h (n - 1)
      rwa [show n - 1 + 1 = n by omega] at this
    have hsnd : 0 < n → (rndK n es a' d' n).2.2[0]? = some (bset (fewM n es (2 ^ n - 1) a' d')) := fun h => by
      have := rnd_first (es := es) (a := a') (d := d') h (n - 1)
      rwa [show n - 1 + 1 = n by omega] at this
    have hwi := Lib.hid (few_mono (n := n) (es := es) hle.out hd0 (2 ^ n - 1))
    have hl0 := Lib.hid (fun h : n = 0 => (by subst h; rfl : (rndK n es a d n).2.2 = []))
    have hl0' := Lib.hid (fun h : n = 0 => (by subst h; rfl : (rndK n es a' d' n).2.2 = []))
    have hLn := rndK_len (n := n) (es := es) (a := a) (d := d) n
    generalize fewM n es (2 ^ n - 1) a d = M1 at *
    generalize fewM n es (2 ^ n - 1) a' d' = M2 at *
    generalize (rndK n es a d n).2.2 = La at *
    generalize (rndK n es a' d' n).2.2 = Lb at *
    generalize (rndK n es a d n).2.1.2.1 = N1 at *
    generalize fixD (rndK n es a d n).2.1.2.2 = D1 at *
    generalize bset (rndK n es a d n).2.1.1 = S1 at *
    generalize (rndK n es a' d' n).2.1.2.1 = N2 at *
    generalize fixD (rndK n es a' d' n).2.1.2.2 = D2 at *
    generalize bset (rndK n es a' d' n).2.1.1 = S2 at *
    replace hfst := Lib.hid hfst
    replace hsnd := Lib.hid hsnd
    clear hle hokx hoky hd0
    go_wp2_with fail
    (with_reducible refine (kr1.out _ hTx hrx).mono ?_)
    rintro e w6 ⟨Aa, na, ca, Ao, no, co, As, ns, cs, rfl, hca, hco, hcs, hLa, hOa, -, hb6⟩
    have hG6 := hGx.below hb6 hGx.lt
    have hY6 := hY.below hb6 hY.lt
    have hr6 := hrx.below hb6 (Nat.le_refl _)
    have hb06 := hb05.trans (hb6.mono hb05.size)
    clear hGx hXx hY hrx hb05 hb6 d0 d1 x0 x1 hTx kr1
    go_upto_region 5 with fail
    have hP7 := Blk.new w6 33 #[.slice Ao no co, .slice As ns cs, .int .i64 N1, .int .i64 D1]
    have hG7 := hG6.alloc (.cells #[.slice Ao no co, .slice As ns cs, .int .i64 N1, .int .i64 D1] 33)
    have hY7 := hY6.alloc (.cells #[.slice Ao no co, .slice As ns cs, .int .i64 N1, .int .i64 D1] 33)
    have hr7 := hr6.alloc (.cells #[.slice Ao no co, .slice As ns cs, .int .i64 N1, .int .i64 D1] 33)
    have hLa7 := hLa.below ((Below.refl w6.heap.size w6).alloc (Nat.le_refl _) (.cells #[.slice Ao no co, .slice As ns cs, .int .i64 N1, .int .i64 D1] 33)) (Nat.le_refl _)
    have hOa7 := hOa.alloc (.cells #[.slice Ao no co, .slice As ns cs, .int .i64 N1, .int .i64 D1] 33)
    have hb07 := hb06.alloc hb06.size (.cells #[.slice Ao no co, .slice As ns cs, .int .i64 N1, .int .i64 D1] 33)
    clear hG6 hY6 hr6 hLa hOa hb06
    generalize w6.alloc (.cells #[.slice Ao no co, .slice As ns cs, .int .i64 N1, .int .i64 D1] 33) = w7 at *
    generalize w6.heap.size = gp at *
    obtain ⟨d0, d1⟩ := blkG hG7
    obtain ⟨y0, y1⟩ := blkF hY7
    have hT7 := hT.keep hb07
    go_wp2_with fail
    (with_reducible refine (kr2.out _ hT7 hr7).mono ?_)
    rintro e w8 ⟨Ab, nb, cb, Ao2, no2, co2, As2, ns2, cs2, rfl, hcb, -, -, hLb, -, -, hb8⟩
    have hG8 := hG7.below hb8 hG7.lt
    have hP8 := hP7.below hb8 hP7.lt
    have hLa8 := hLa7.below hb8 (Nat.le_refl _)
    have hOa8 := hOa7.below hb8 (Nat.le_refl _)
    have hb08 := hb07.trans (hb8.mono hb07.size)
    clear hG7 hY7 hr7 hLa7 hOa7 hb07 hb8 d0 d1 y0 y1 hT7 hP7 kr2
    go_upto_region 6 with fail
    have hG9 := hG8.alloc (.cells #[.slice Ao2 no2 co2, .slice As2 ns2 cs2, .int .i64 N2, .int .i64 D2] 33)
    have hP9 := hP8.alloc (.cells #[.slice Ao2 no2 co2, .slice As2 ns2 cs2, .int .i64 N2, .int .i64 D2] 33)
    have hLa9 := hLa8.below ((Below.refl w8.heap.size w8).alloc (Nat.le_refl _) (.cells #[.slice Ao2 no2 co2, .slice As2 ns2 cs2, .int .i64 N2, .int .i64 D2] 33)) (Nat.le_refl _)
    have hLb9 := hLb.below ((Below.refl w8.heap.size w8).alloc (Nat.le_refl _) (.cells #[.slice Ao2 no2 co2, .slice As2 ns2 cs2, .int .i64 N2, .int .i64 D2] 33)) (Nat.le_refl _)
    have hOa9 := hOa8.alloc (.cells #[.slice Ao2 no2 co2, .slice As2 ns2 cs2, .int .i64 N2, .int .i64 D2] 33)
    have hb09 := hb08.alloc hb08.size (.cells #[.slice Ao2 no2 co2, .slice As2 ns2 cs2, .int .i64 N2, .int .i64 D2] 33)
    clear hG8 hP8 hLa8 hLb hOa8 hb08
    generalize w8.alloc (.cells #[.slice Ao2 no2 co2, .slice As2 ns2 cs2, .int .i64 N2, .int .i64 D2] 33) = wz at *
    generalize w8.heap.size = gq at *
    obtain ⟨d0, d1⟩ := blkG hG9
    have hlr := hperm.out.length_eq
    rw [show (rng n).length = n by unfold rng; simp] at hlr
    have hno : no = n := by rw [← hOa9.len, hlr]
    obtain ⟨b0, hb0⟩ : ∃ b0, b0 = decide (n = 0) := ⟨_, rfl⟩
    have qN : ((n : Int) == 0) = b0 := by
      rw [hb0]
      by_cases h : n = 0
      · subst h; rfl
      · rw [decide_eq_false h, beq_eq_false_iff_ne]; omega
    have qA : ((na : Int) == 0) = b0 := by
      rw [hb0]
      by_cases h : n = 0
      · rw [decide_eq_true h, ← hLa9.len, hl0.out h]; rfl
      · have h1 := hfst.out (by omega)
        have h2 := (List.getElem?_eq_some_iff.1 h1).1
        rw [hLa9.len] at h2
        rw [decide_eq_false h, beq_eq_false_iff_ne]; omega
    have qB : ((nb : Int) == 0) = b0 := by
      rw [hb0]
      by_cases h : n = 0
      · rw [decide_eq_true h, ← hLb9.len, hl0'.out h]; rfl
      · have h1 := hsnd.out (by omega)
        have h2 := (List.getElem?_eq_some_iff.1 h1).1
        rw [hLb9.len] at h2
        rw [decide_eq_false h, beq_eq_false_iff_ne]; omega
    replace hb0 := Lib.hid hb0
    replace hlr := Lib.hid hlr
    replace hno := Lib.hid hno
    have hlen9 := Lib.hid hLa9.len
    have hna9 : na ≤ 9 := by rw [← hLa9.len]; omega
    replace hLn := Lib.hid hLn
    by_cases hn00 : n = 0
    · have hbt : b0 = true := by rw [hb0.out]; exact decide_eq_true hn00
      subst hbt
      have hLn' : La = [] := hl0.out hn00
      obtain rfl : na = 0 := by rw [← hLa9.len, hLn']; rfl
      have hno0 : no = 0 := hno.out.trans hn00
      subst hno0
      obtain ⟨p0, -, -, -⟩ := blkP hP9
      have k0 := cell_regrown d0
      have k1 := cell_regrown p0
      have hOf : ∀ dd os, Calls Tryd.prog 12 #[.slice none 0 0] (Sort.grow (redrawn wz dd) os) fun e w'' => e = .returned (.slice none 0 0) ∧ ∃ p : Regrown, w'' = Sort.grow (redrawn wz p.d) p.os := fun dd os => Calls.regrown_of ((of_nil 0 _).mono fun e w' h => ⟨h.1, by rw [← h.2]; exact Below.refl _ _⟩)
      have hRa : ∀ dd os, Calls Tryd.prog 30 #[.int .i64 0] (Sort.grow (redrawn wz dd) os) fun e w'' => e = .returned (.slice none 0 0) ∧ ∃ p : Regrown, w'' = Sort.grow (redrawn wz p.d) p.os := fun dd os => Calls.regrown_of ((range_nil _).mono fun e w' h => ⟨h.1, by rw [← h.2]; exact Below.refl _ _⟩)
      have hS1 : ∀ dd os, Calls Tryd.prog 11 #[.slice none 0 0, .slice none 0 0] (Sort.grow (redrawn wz dd) os) fun e w'' => e = .returned (.bool true) ∧ ∃ p : Regrown, w'' = Sort.grow (redrawn wz p.d) p.os := fun dd os => Calls.regrown_of ((same_any none none 0 0 0 0 [] [] _ RI.none_ (by omega) RI.none_ (by omega)).mono fun e w' h => ⟨h.1, by obtain ⟨q, hq⟩ := h.2; rw [hq]; exact below_drewN (Below.refl _ _) q⟩)
      have hS2 : ∀ dd os, Calls Tryd.prog 11 #[.slice none 0 0, .slice Ao 0 co] (Sort.grow (redrawn wz dd) os) fun e w'' => e = .returned (.bool true) ∧ ∃ p : Regrown, w'' = Sort.grow (redrawn wz p.d) p.os := fun dd os => Calls.regrown_of ((same_any none Ao 0 0 0 co [] [] _ RI.none_ (by omega) RI.none_ (by omega)).mono fun e w' h => ⟨h.1, by obtain ⟨q, hq⟩ := h.2; rw [hq]; exact below_drewN (Below.refl _ _) q⟩)
      have hAw : ∀ dd os, Calls Tryd.prog 16 #[] (Sort.grow (redrawn wz dd) os) fun e w'' => e = .returned (.bool true) ∧ ∃ p : Regrown, w'' = Sort.grow (redrawn wz p.d) p.os := fun dd os => Calls.regrown_of (awake20_any _ (hT.keep (hb09.trans ((below_regrown wz dd os).mono hb09.size))))
      replace hOf := Lib.hid hOf
      replace hRa := Lib.hid hRa
      replace hS1 := Lib.hid hS1
      replace hS2 := Lib.hid hS2
      replace hAw := Lib.hid hAw
      subst hn00
      clear hLa9 hLb9 hLn' hOa9 hP9 hG9 hperm hnem hfst hsnd hwi hl0 hl0' hlr hno hb0 hlen9 hLn
      go_wp2_with fail
      go_loopw [17, 75] (fun us i wr => us = .slice none 0 0 ∧ i = .int .i64 0 ∧ wz = wr) (fun _ i _ => 0)
      case atStart => exact ⟨rfl, rfl, rfl⟩
      case round =>
        obtain ⟨rfl, rfl, rfl⟩ := hrel
        go_wp2_with fail
        clear qA qN qB hna9 d0 p0 hj hi hlen hbd eJ wJ
        refine wp_region_quiet_below (by kernel_rfl) (by kernel_rfl) ?_
        repeat (quiet_step (first | with_reducible exact hOf.out _ _ | with_reducible exact hRa.out _ _ | with_reducible exact hS1.out _ _ | with_reducible exact hS2.out _ _ | with_reducible exact hAw.out _ _))
        refine wpQuiet_nil ?_
        intro _ hw'
        obtain ⟨⟨dq, osq⟩, hw''⟩ := hw'
        subst hw''
        have hbx := hb09.trans ((below_regrown wz dq osq).mono hb09.size)
        go_wp2_with fail
        go_ret
        exact ⟨rfl, hbx⟩
    go_wp2_with fail
    go_loopw [17, 75] (fun us i wr => ∃ (k : Nat) (v : Value), k ≤ na ∧ v = us ∧ i = .int .i64 k ∧ OI wr wz.heap.size v (La.take k).flatten ∧ Below wz.heap.size wz wr) (fun _ i _ => na - (intOf i).toNat)
    case atStart => exact ⟨0, _, Nat.zero_le _, rfl, rfl, OI.nil_, Below.refl _ _⟩
    case round =>
      obtain ⟨k, v, hk, rfl, rfl, hO, hb⟩ := hrel
      by_cases hlt : k < na
      · obtain ⟨ad, A', k', c', ys, rfl, hcr, hys, hkc, hry⟩ := (hLa9.below hb (Nat.le_refl _)).get hlt
        have hne := hnem.out ys (List.mem_of_getElem? hys.out)
        have hyl := hry.len
        have hst : (La.take (k + 1)).flatten = (La.take k).flatten ++ ys := by
          obtain ⟨h1, h2⟩ := List.getElem?_eq_some_iff.1 hys.out
          rw [List.take_succ_eq_append_getElem h1, List.flatten_append, h2]; simp
        have hle1 : (La.take (k + 1)).flatten.length ≤ n := by
          have h3 : La.flatten = (La.take (k + 1)).flatten ++ (La.drop (k + 1)).flatten := by rw [← List.flatten_append, List.take_append_drop]
          have h4 := hlr.out
          rw [h3, List.length_append] at h4
          omega
        have hle2 : (La.take k).flatten.length + k' ≤ n := by rw [hst, List.length_append, hyl] at hle1; exact hle1
        have qk : ((k' : Int) == 0) = false := by
          rw [beq_eq_false_iff_ne]
          have := List.length_pos_iff.2 hne
          omega
        have i0 : (0 : Int) ≤ (k : Int) := Int.natCast_nonneg _
        have i1 : (k : Int) < (na : Int) := by omega
        replace hst := Lib.hid hst
        clear hys hne hle1 hyl
        go_wp2_with (at_builtin; refine wpList_catb rfl _ _ rfl rfl rfl hO hry (by omega) hb.size ?_; intro v2 w2' hO2 hb2' hg2' hv2')
        have hb3' := hb.trans hb2'
        clear hO hry hb2' hg2' hv2' hcr
        go_wp2_with fail
        go_roundw
        case rel => exact ⟨k + 1, v2, Nat.succ_le_of_lt hlt, rfl, by go_num, by rw [hst.out]; exact hO2, hb3'⟩
        case measure => simp [intOf]; omega
      · obtain rfl : k = na := by omega
        rw [← hlen9.out, List.take_length] at hO
        obtain ⟨Av, nv, cv, rfl, hnv, hcv, -, hrv⟩ := hO.form
        obtain rfl : nv = n := by rw [hnv]; exact hlr.out
        obtain rfl : no = nv := hno.out
        have hGr := hG9.below hb hG9.lt
        have hPr := hP9.below hb hP9.lt
        have hOr := RI.below hOa9 hb (Nat.le_refl _)
        have hLar := hLa9.below hb (Nat.le_refl _)
        have hLbr := hLb9.below hb (Nat.le_refl _)
        have hbz := hb09.trans (hb.mono hb09.size)
        have hrl : (rng no).length = no := by unfold rng; simp
        have heq : ofL La.flatten = rng no := by
          refine sorted_ext (of_sorted _) ?_ fun x => ?_
          · unfold rng
            rw [List.pairwise_map]
            exact List.pairwise_lt_range.imp fun h => by omega
          · rw [mem_of]; exact hperm.out.mem_iff
        have kOf := fun w h => of_any Av no cv La.flatten w h (by omega)
        rw [heq] at kOf
        have kRa := fun w => range_any no (by omega) w
        have kS1 := fun A10 c10 A11 c11 w h1 h2 => same_any A10 A11 no c10 no c11 (rng no) (rng no) w h1 (by omega) h2 (by omega)
        rw [decide_eq_true (rfl : rng no = rng no)] at kS1
        have kS2 := fun w h1 h2 => same_any Av Ao no cv no co La.flatten La.flatten w h1 (by omega) h2 (by omega)
        rw [decide_eq_true (rfl : La.flatten = La.flatten)] at kS2
        obtain ⟨p0, -, -, -⟩ := blkP hPr
        clear d0 d1 hO hnv
        obtain ⟨d0, d1⟩ := blkG hGr
        have lgg := hGr.lt
        have lgp := hPr.lt
        replace kOf := Lib.hid kOf
        replace kRa := Lib.hid kRa
        replace kS1 := Lib.hid kS1
        replace kS2 := Lib.hid kS2
        replace heq := Lib.hid heq
        replace hrl := Lib.hid hrl
        clear hG9 hP9 hOa9 hLa9 hLb9 hb hb09 hz
        by_cases hn0 : no = 0
        · exact absurd hn0 hn00
        · have hbf : b0 = false := by rw [hb0.out]; exact decide_eq_false hn0
          subst hbf
          obtain ⟨ada, Ac, kc, cc, ys, rfl, ha0, hya, -, hra⟩ := hLar.get (i := 0) (by have := (List.getElem?_eq_some_iff.1 (hfst.out (by omega))).1; rw [hLar.len] at this; exact this)
          obtain rfl : ys = bset M1 := by have h1 := hya.out; rw [hfst.out (by omega)] at h1; injection h1 with h1; exact h1.symm
          obtain ⟨adb, Ad, kd, cd, zs, rfl, hbb0, hyb, -, hrb⟩ := hLbr.get (i := 0) (by have := (List.getElem?_eq_some_iff.1 (hsnd.out (by omega))).1; rw [hLbr.len] at this; exact this)
          obtain rfl : zs = bset M2 := by have h1 := hyb.out; rw [hsnd.out (by omega)] at h1; injection h1 with h1; exact h1.symm
          replace ha0 : _ = some (Value.slice Ac kc cc) := (show World.cell? _ ada = _ from ha0)
          replace hbb0 : _ = some (Value.slice Ad kd cd) := (show World.cell? _ adb = _ from hbb0)
          have kwi := fun w h1 h2 => within2_any Ac Ad kc cc kd cd (bset M1) (bset M2) w h1 (by rw [← hra.len]; have := bset_length M1; omega) h2 (by rw [← hrb.len]; have := bset_length M2; omega)
          rw [decide_eq_true (hwi.out)] at kwi
          replace kwi := Lib.hid kwi
          have lga := World.block_lt_of_cell? _ _ ha0
          have lgb := World.block_lt_of_cell? _ _ hbb0
          have i0 : (0 : Int) < (k : Int) := by
            have := (List.getElem?_eq_some_iff.1 (hfst.out (by omega))).1
            rw [hLar.len] at this; omega
          have i1 : (0 : Int) < (nb : Int) := by
            have := (List.getElem?_eq_some_iff.1 (hsnd.out (by omega))).1
            rw [hLbr.len] at this; omega
          have j0 : 0 < k := by omega
          have j1 : 0 < nb := by omega
          clear hya hyb hLar hLbr hfst hsnd hnem hperm hwi hl0 hl0'
          go_wp2_with fail
          have BN : Below wr.heap.size wr wr := Below.refl _ _
          go_region_held3 (fun w' => w'.cell? ⟨gg, 0, none⟩ = some (.int .i64 no) ∧ w'.cell? ⟨gp, 0, none⟩ = some (.slice Ao no co) ∧ w'.cell? ada = some (.slice Ac kc cc) ∧ w'.cell? adb = some (.slice Ad kd cd))
            ((exact ⟨(BN.cell (p := ⟨gg, 0, none⟩) lgg).trans d0, (BN.cell (p := ⟨gp, 0, none⟩) lgp).trans p0, (BN.cell lga).trans ha0, (BN.cell lgb).trans hbb0⟩))
            ((first
              | (go_at_call 12; (with_reducible refine (kOf.out _ (RI.below hrv BN.drew (Nat.le_refl _))).mono ?_); rintro e w10 ⟨A10, n10, c10, rfl, hc10, hr10, hb10, hf10⟩; obtain rfl : no = n10 := hrl.out.symm.trans hr10.len; replace BN : Below wr.heap.size wr w10 := below_call BN.drew hb10)
              | (go_at_call 30; (with_reducible refine (kRa.out _).mono ?_); rintro e w11 ⟨A11, n11, c11, rfl, hc11, hr11, hb11, hf11⟩; obtain rfl : no = n11 := hrl.out.symm.trans hr11.len; replace BN : Below wr.heap.size wr w11 := below_call BN hb11; have BN0 := BN; replace hr10 := RI.below hr10 hb11 (Nat.le_refl _))
              | (go_at_call 11; (with_reducible refine (kS1.out A10 c10 A11 c11 _ hr10 hr11).mono ?_); rintro e w12 ⟨rfl, q1, rfl⟩; replace BN := below_drewN BN q1)
              | (go_at_call 11; (with_reducible refine (kS2.out _ (RI.below hrv BN (Nat.le_refl _)) (RI.below hOr BN (Nat.le_refl _))).mono ?_); rintro e w13 ⟨rfl, q2, rfl⟩; replace BN := below_drewN BN q2)
              | (go_at_call 31; (with_reducible refine (kwi.out _ (RI.below hra (below_drewN BN0 _) (Nat.le_refl _)) (RI.below hrb (below_drewN BN0 _) (Nat.le_refl _))).mono ?_); rintro e w14 ⟨rfl, rfl⟩)
              | (go_at_call 16; (with_reducible refine (awake20_any _ (hT.keep (hbz.trans ((below_drewN BN0 _).mono hbz.size)))).mono ?_); rintro e we ⟨rfl, hbe⟩; replace BN : Below wr.heap.size wr we := below_call (below_drewN BN0 _) hbe)))
          have hbx := hbz.trans (BN.mono hbz.size)
          clear BN hbe
          go_wp2_with fail
          go_ret
          exact ⟨rfl, hbx⟩
end Go.Proofs.YtdibfecejgjfmaaDoor
