/- The law DensestProves. -/
import Derived.Test.YticekkjambkifaaDoorSplM
import Derived.Test.YticekkjambkifaaDoorDpvP
import Derived.Test.YticekkjambkifaaDoorRsN
import Derived.Test.YticekkjambkifaaDoorRefI
set_option linter.unusedVariables false
set_option linter.unusedSimpArgs false
namespace Go.Proofs.YticekkjambkifaaDoor.Fl
open Go.RowKit Go.Proofs.YticekkjambkifaaDoor CoBit CoRat Rt

/-- What is known of the bound of a split. -/
structure BdS (n : Nat) (es : List (Int × Int)) (N D M' d : Nat) : Prop where
  ok : okF (M' : Int) (d : Int) = true
  best : ¬ 0 < cmpF (N : Int) (D : Int) (M' : Int) (d : Int)
  set : ∀ y, (∀ v, y.testBit v = true → v < n) → ¬ 0 < cmpF (dseN es (bset y) (pop y)) (dseD es (bset y) (pop y)) (M' : Int) (d : Int)
theorem gb_alloc {w w' : World} {g : Nat} (h : w.grownBy w' (some g)) (o : Obj) : w.grownBy (w'.alloc o) (some g) := grown_below h ((Below.refl w'.heap.size w').alloc (Nat.le_refl _) o) h.size
theorem gb_below {w w' w2 : World} {g : Nat} (h : w.grownBy w' (some g)) (hb : Below w'.heap.size w' w2) : w.grownBy w2 (some g) := grown_below h hb h.size
set_option maxRecDepth 100000 in
set_option maxHeartbeats 32000000 in
theorem lawProves_any (A0 : Option Addr) (m0 c0 : Nat) (l : List Int) (w : World) (hT : Tab w) (h0 : RI w A0 m0 l) (hmc : m0 ≤ c0) (hm0 : m0 ≤ 1152921504606846976) :
    Calls Tryd.prog 8 #[.slice A0 m0 c0] w fun e w' => e = .returned (.bool true) ∧ Below w.heap.size w w' := by
  go_enter Tryd.func8, Tryd.ntmps8
  go_wp2_with fail
  refine (new_any A0 m0 c0 l w h0 hmc hm0).mono ?_
  rintro e w1 ⟨rfl, hd1, hb1, hs1⟩
  go_wp2_with fail
  refine (mkgraph_any _ 9 _ hd1 (by omega)).mono ?_
  rintro e w2 ⟨n, es, A, m, c, rfl, hmcc, hr2, hf2, hsrt, hn9, hd2, hg2⟩
  have hz := Lib.hid (chk_of_srt hsrt (show (0 : Int) ≤ n by omega) (by omega))
  have hlen : m ≤ 81 := by
    have h1 := srt_len hsrt
    have h2 := hr2.len
    have h3 : n * n ≤ 9 * 9 := Nat.mul_le_mul (by omega) (by omega)
    omega
  have hel := Lib.hid (show es.length = m by exact hr2.len)
  have hb2 : Below w.heap.size w w2 := hb1.grown hg2 (by omega) (fun k hk => by injection hk with hk; omega)
  have hs2 := hb2.size
  have hAk : Hid (∀ ad, A = some ad → some ad.block ≠ some w.heap.size) := Lib.hid (fun ad e hh => by injection hh with hh; have := hf2 ad e; omega)
  have hk2 := hd2.lt
  clear hs1 hb1 hf2 hg2 h0 hd1 hsrt
  go_upto_region 3 with fail
  have G3 := Blk.new w2 25 #[.int .i64 n, .slice A m c]
  have E3 := hr2.alloc (.cells #[.int .i64 n, .slice A m c] 25)
  have B3 := hb2.alloc hs2 (.cells #[.int .i64 n, .slice A m c] 25)
  have K3 := hd2.alloc (.cells #[.int .i64 n, .slice A m c] 25)
  have hgk : Hid (w.heap.size < w2.heap.size) := Lib.hid hk2
  clear hr2 hb2 hd2 hk2
  have hw3s : w2.heap.size < (w2.alloc (.cells #[.int .i64 n, .slice A m c] 25)).heap.size := by simp
  generalize w2.alloc (.cells #[.int .i64 n, .slice A m c] 25) = w3 at *
  generalize w2.heap.size = gg at *
  obtain ⟨d0, d1⟩ := blkG G3
  have hT3 := hT.keep B3
  have kb := Lib.hid (best_anyF A m c n es w3 E3 hT3 (by omega) hz.out (by omega))
  go_upto_region 4 with (first
    | (go_at_call 40; (with_reducible refine kb.out.mono ?_); intro e w4 hq; obtain ⟨x, N, D, ps, AS, ns, cs, AP, np, cp, rfl, hDB, hns, hnp, hS4, hP4, hb4, hfS, hfP⟩ := hq)
    | fail)
  have hnl := Lib.hid (show ns = pop x by rw [← hS4.len]; unfold bset; rw [nts_length, pop_bl])
  have hns64 : ns ≤ 64 := by rw [hnl.out]; exact pop_le x
  have hnpm : np = m := by rw [← hP4.len, hDB.plen]; exact hel.out
  subst hnpm
  have hok := Lib.hid (hDB.ok (by rw [hel.out]; omega))
  replace hDB := Lib.hid hDB
  have hw34 := hb4.size
  have hASk : Hid (∀ ad, AS = some ad → some ad.block ≠ some w.heap.size) := Lib.hid (fun ad e hh => by injection hh with hh; have := hfS ad e; have := hgk.out; omega)
  have hAPk : Hid (∀ ad, AP = some ad → some ad.block ≠ some w.heap.size) := Lib.hid (fun ad e hh => by injection hh with hh; have := hfP ad e; have := hgk.out; omega)
  have hgd : Hid (w.heap.size < w4.heap.size) := Lib.hid (by have := hgk.out; omega)
  have G5 := (G3.below hb4 G3.lt).alloc (.cells #[.slice AS ns cs, .int .i64 (N : Nat), .int .i64 (D : Nat), .int .i64 (D : Nat), .slice AP np cp] 48)
  have E5 := (E3.below hb4 (Nat.le_refl _)).alloc (.cells #[.slice AS ns cs, .int .i64 (N : Nat), .int .i64 (D : Nat), .int .i64 (D : Nat), .slice AP np cp] 48)
  have S5 := hS4.alloc (.cells #[.slice AS ns cs, .int .i64 (N : Nat), .int .i64 (D : Nat), .int .i64 (D : Nat), .slice AP np cp] 48)
  have P5 := hP4.alloc (.cells #[.slice AS ns cs, .int .i64 (N : Nat), .int .i64 (D : Nat), .int .i64 (D : Nat), .slice AP np cp] 48)
  have K5 := (K3.below hb4 K3.lt).alloc (.cells #[.slice AS ns cs, .int .i64 (N : Nat), .int .i64 (D : Nat), .int .i64 (D : Nat), .slice AP np cp] 48)
  have D5 := Blk.new w4 48 #[.slice AS ns cs, .int .i64 (N : Nat), .int .i64 (D : Nat), .int .i64 (D : Nat), .slice AP np cp]
  have B5 := (B3.trans (hb4.mono B3.size)).alloc (B3.trans (hb4.mono B3.size)).size (.cells #[.slice AS ns cs, .int .i64 (N : Nat), .int .i64 (D : Nat), .int .i64 (D : Nat), .slice AP np cp] 48)
  clear G3 E3 B3 K3 hS4 hP4 hb4 kb hT3 d0 d1 hfS hfP hw34 hw3s
  generalize w4.alloc (.cells #[.slice AS ns cs, .int .i64 (N : Nat), .int .i64 (D : Nat), .int .i64 (D : Nat), .slice AP np cp] 48) = w5 at *
  generalize w4.heap.size = gd at *
  obtain ⟨d0, d1⟩ := blkG G5
  have ngg0 : some gg ≠ some w.heap.size := fun e => by injection e with e; have := hgk.out; omega
  have kS : Hid (∀ w' : World, w5.grownBy w' (some w.heap.size) → w'.cell? ⟨gg, 0, none⟩ = some (.int .i64 n) ∧ w'.cell? ⟨gg, 1, none⟩ = some (.slice A np c)) := Lib.hid (fun w' hg => ⟨hg.cell d0 ngg0, hg.cell d1 ngg0⟩)
  have BN0 : w5.grownBy w5.drew (some w.heap.size) := grown_drew (World.grownBy.refl w5 (some w.heap.size))
  have BNz : w5.grownBy (w5.alloc (.cells #[.int .i64 0, .int .i64 0] 36)).drew (some w.heap.size) := grown_drew (gb_alloc (World.grownBy.refl w5 (some w.heap.size)) (.cells #[.int .i64 0, .int .i64 0] 36))
  have ko0 := Lib.hid (rones_any A np c (n : Int) es w5.drew (show RE w5.drew A np es from E5) (by omega))
  have koz := Lib.hid (rones_any A np c (n : Int) es (w5.alloc (.cells #[.int .i64 0, .int .i64 0] 36)).drew (show RE (w5.alloc (.cells #[.int .i64 0, .int .i64 0] 36)).drew A np es from E5.alloc _) (by omega))
  have hk5 := K5.lt
  clear d0 d1
  go_cut [7, 8] (fun p er wx => ∃ (gb M' d' : Nat), p = .pointer (some ⟨gb, 0, none⟩) ∧ er = .int .i64 0 ∧ Blk wx gb 36 #[.int .i64 (M' : Nat), .int .i64 (d' : Nat)] ∧ Hid (BdS n es N D M' d') ∧ Dk wx w.heap.size ∧ w5.grownBy wx (some w.heap.size) ∧ Hid (w.heap.size < gb))
  case first =>
    go_loud (go_region_held3 (fun w' => w'.cell? ⟨gg, 0, none⟩ = some (.int .i64 n) ∧ w'.cell? ⟨gg, 1, none⟩ = some (.slice A np c))
      ((first | (with_reducible exact kS.out _ BN0) | (with_reducible exact kS.out _ BNz) | (with_reducible exact kS.out _ BN6) | (with_reducible exact kS.out _ (gb_alloc BN6 _)) | (with_reducible exact kS.out _ BN7) | (with_reducible exact kS.out _ (gb_alloc BN7 _)) | (with_reducible exact kS.out _ BN8) | (with_reducible exact kS.out _ (gb_alloc BN8 _)) | (exact kS.out _ (grown_set_new (grown_set_new BN8 hz10 _) hz10 _)) | fail))
      ((first
        | (go_at_call 31; (with_reducible refine ko0.out.mono ?_); rintro e w6 ⟨A6, n6, c6, rfl, hn6, hr6, hb6, hf6⟩
           obtain rfl : np = n6 := (by have := hr6.len; rw [List.length_replicate] at this; exact this)
           have BN6 := gb_below BN0 hb6
           have hk6 : Dk w6 w.heap.size := Dk.below (show Dk w5.drew w.heap.size from K5) hb6 hk5
           have hA6 : ∀ ad, A6 = some ad → ad.block ≠ w.heap.size := (fun ad e hh => by have := hf6 ad e; have h2 : w5.drew.heap.size = w5.heap.size := rfl; omega))
        | (go_at_call 31; (with_reducible refine koz.out.mono ?_); rintro e w6 ⟨A6, n6, c6, rfl, hn6, hr6, hb6, hf6⟩
           obtain rfl : np = n6 := (by have := hr6.len; rw [List.length_replicate] at this; exact this)
           have BN6 := gb_below BNz hb6
           have hk6 : Dk w6 w.heap.size := Dk.below (show Dk (w5.alloc (.cells #[.int .i64 0, .int .i64 0] 36)).drew w.heap.size from K5.alloc _) hb6 (by simp; omega)
           have hA6 : ∀ ad, A6 = some ad → ad.block ≠ w.heap.size := (fun ad e hh => by have := hf6 ad e; have h2 : (w5.alloc (.cells #[.int .i64 0, .int .i64 0] 36)).drew.heap.size = w5.heap.size + 1 := (by simp); omega)
           have hzb : Blk w6 w5.heap.size 36 #[.int .i64 0, .int .i64 0] := Blk.below (show Blk (w5.alloc (.cells #[.int .i64 0, .int .i64 0] 36)).drew w5.heap.size 36 #[.int .i64 0, .int .i64 0] from Blk.new w5 _ _) hb6 (by simp)
           have hz10 : w5.heap.size ≤ w5.heap.size := Nat.le_refl _
           have hzk : w.heap.size < w5.heap.size := hk5)
        | (go_at_call 30; (with_reducible refine (mksplit_any w.heap.size A6 np c6 w6 hk6 hr6 hA6 (by omega)).mono ?_); intro e w7 hq; obtain ⟨den, ps7, A7, c7, rfl, hF7, hc7, hr7, hf7, hk7, hg7⟩ := hq
           have BN7 := grown_trans BN6 hg7
           try (replace hzb := Blk.grown hzb hg7 (fun e => by injection e with e; omega)))
        | (go_at_call 30; (with_reducible refine (mksplit_any w.heap.size A6 np c6 (w6.alloc (.cells #[.int .i64 0, .int .i64 0] 36)) (hk6.alloc _) (hr6.alloc _) hA6 (by omega)).mono ?_); intro e w7 hq; obtain ⟨den, ps7, A7, c7, rfl, hF7, hc7, hr7, hf7, hk7, hg7⟩ := hq
           have BN7 := grown_trans (gb_alloc BN6 (.cells #[.int .i64 0, .int .i64 0] 36)) hg7
           have hz10 : w5.heap.size ≤ w6.heap.size := BN6.size
           have hzk : w.heap.size < w6.heap.size := Nat.lt_of_lt_of_le hk5 BN6.size
           have hzb : Blk w7 w6.heap.size 36 #[.int .i64 0, .int .i64 0] := Blk.grown (Blk.new w6 36 #[.int .i64 0, .int .i64 0]) hg7 (fun e => by injection e with e; omega))
        | (go_at_call 41; (obtain ⟨M', d', e1, e2, b1, b2, b3⟩ := hDB.out.bounds hz.out (by omega) (by rw [hel.out]; omega) (by rw [hel.out]; exact hF7)); have kbd := dbound_r A np c n es den A7 np c7 ps7 w7 (E5.kept BN7 hAk.out) hr7 (by omega) hz.out (by omega) hF7; rw [e1, e2] at kbd; (with_reducible refine kbd.mono ?_); rintro e w8 ⟨rfl, hb8⟩
           have hbds : Hid (BdS n es N D M' d') := Lib.hid ⟨b1, b2, b3⟩
           have BN8 := gb_below BN7 hb8
           have hk8 := Dk.below hk7 hb8 hk7.lt
           clear e1 e2 b1 b2 b3 kbd
           try (replace hzb := Blk.below hzb hb8 hzb.lt; have z0 := Blk.cell hzb 0; have z1 := Blk.cell hzb 1; have f0 := Blk.frozen hzb 0; have f1 := Blk.frozen hzb 1; simp at z0 z1))
        | (go_at_call 41; (obtain ⟨M', d', e1, e2, b1, b2, b3⟩ := hDB.out.bounds hz.out (by omega) (by rw [hel.out]; omega) (by rw [hel.out]; exact hF7)); have kbd := dbound_r A np c n es den A7 np c7 ps7 (w7.alloc (.cells #[.int .i64 0, .int .i64 0] 36)) ((E5.kept BN7 hAk.out).alloc _) (hr7.alloc _) (by omega) hz.out (by omega) hF7; rw [e1, e2] at kbd; (with_reducible refine kbd.mono ?_); rintro e w8 ⟨rfl, hb8⟩
           have hbds : Hid (BdS n es N D M' d') := Lib.hid ⟨b1, b2, b3⟩
           have BN8 := gb_below (gb_alloc BN7 (.cells #[.int .i64 0, .int .i64 0] 36)) hb8
           have hk8 := Dk.below (hk7.alloc (.cells #[.int .i64 0, .int .i64 0] 36)) hb8 (hk7.alloc (.cells #[.int .i64 0, .int .i64 0] 36)).lt
           clear e1 e2 b1 b2 b3 kbd
           have hz10 : w5.heap.size ≤ w7.heap.size := BN7.size
           have hzk : w.heap.size < w7.heap.size := hk7.lt
           have hzb : Blk w8 w7.heap.size 36 #[.int .i64 0, .int .i64 0] := Blk.below (Blk.new w7 36 #[.int .i64 0, .int .i64 0]) hb8 (by simp)
           have z0 := Blk.cell hzb 0; have z1 := Blk.cell hzb 1; have f0 := Blk.frozen hzb 0; have f1 := Blk.frozen hzb 1; simp at z0 z1)
        | fail)))
    all_goals go_wp2_with fail
    all_goals go_meet
    all_goals (first
      | exact ⟨_, M', d', rfl, rfl, Blk.new _ _ _, hbds, hk8.alloc _, gb_alloc BN8 _, Lib.hid (Nat.lt_of_lt_of_le hk5 BN8.size)⟩
      | exact ⟨_, M', d', rfl, rfl, Blk.set (Blk.set hzb 0 (.int .i64 (M' : Nat))) 1 (.int .i64 (d' : Nat)), hbds, Dk.grown (Dk.grown hk8 (grown_set (World.grownBy.refl w8 (some _)) 0 (.int .i64 (M' : Nat))) (fun q hq => by injection hq with hq; omega)) (grown_set (World.grownBy.refl _ (some _)) 1 (.int .i64 (d' : Nat))) (fun q hq => by injection hq with hq; omega), grown_set_new (grown_set_new BN8 hz10 _) hz10 _, Lib.hid hzk⟩)
  case rest =>
    obtain ⟨gb, M', d', rfl, rfl, F8, hbds, K8, hg8, hgb⟩ := hcut
    obtain ⟨w8, rfl⟩ : ∃ w8, w8 = wc := ⟨_, rfl⟩
    have ngg : some gg ≠ some w.heap.size := fun e => by injection e with e; have := hgk.out; omega
    have ngd : some gd ≠ some w.heap.size := fun e => by injection e with e; have := hgd.out; omega
    have ngb : some gb ≠ some w.heap.size := fun e => by injection e with e; have := hgb.out; omega
    have G8 := Blk.grown G5 hg8 ngg
    have D8 := Blk.grown D5 hg8 ngd
    have E8 := E5.kept hg8 hAk.out
    have S8 := S5.kept hg8 hASk.out
    have P8 := P5.kept hg8 hAPk.out
    have B8 := B5.grown hg8 B5.size (fun k hk => by injection hk with hk; omega)
    clear G5 D5 E5 S5 P5 K5 B5 hg8 kS BN0 BNz ko0 koz hk5
    obtain ⟨d0, d1⟩ := blkG G8
    have km := Lib.hid (mkset_any w.heap.size n w8 K8 (by omega))
    go_upto_region 6 with (first
      | (go_at_call 27; (with_reducible refine km.out.mono ?_); intro e w9 hq; obtain ⟨xs, AX, nx, cx, rfl, hcx, hvx, hrx, -, -, hg9⟩ := hq)
      | fail)
    have G9 := Blk.grown G8 hg9 ngg
    have D9 := Blk.grown D8 hg9 ngd
    have F9 := Blk.grown F8 hg9 ngb
    have E9 := E8.kept hg9 hAk.out
    have S9 := S8.kept hg9 hASk.out
    have P9 := P8.kept hg9 hAPk.out
    have B9 := B8.grown hg9 B8.size (fun k hk => by injection hk with hk; omega)
    clear G8 D8 F8 E8 S8 P8 K8 B8 hg9 km d0 d1 ngg ngd ngb
    obtain ⟨y, hy⟩ := mof_ex xs
    have hyx : bset y = xs := vld_mask (show n ≤ 64 by omega) hvx hy
    have hyn : ∀ v, y.testBit v = true → v < n := fun v hv => by
      have h1 := hy.2 v
      rw [hv] at h1
      have h2 := of_decide_eq_true h1.symm
      have := hvx.1 _ h2.2
      omega
    subst hyx
    have hnx : nx = pop y := by rw [← hrx.len]; unfold bset; rw [nts_length, pop_bl]
    have hnx64 : nx ≤ 64 := by rw [hnx]; exact pop_le y
    have hel2 : es.length ≤ 4096 := by rw [hel.out]; omega
    obtain ⟨a, b, e1, e2, -, -, -⟩ := dse_nat (es := es) (y := y) hel2
    have hmt : (meetL (bset y) (rng n)).length = pop y := by rw [bset_meet hyn, pop_bset]
    have kden := rdensity_any A np c n es AX nx cx (bset y) w9 E9 (by omega) hz.out (by omega) hrx (by omega)
    rw [hmt, e1, e2] at kden
    have hacc := hDB.out.accept hel2 hyn
    have hset := hbds.out.set y hyn
    have hcs := hDB.out.cmp_set hel2 hyn
    have hdc := hDB.out.dchk_of hz.out (show n ≤ 64 by omega) hel2 hyn e1 e2
    rw [hel.out] at hdc
    rw [e1, e2] at hacc hset hcs
    have hsub := hacc.2
    have hac1 := hacc.1
    have hzero : n = 0 → ¬ 0 < cmpF (N : Int) (D : Int) (a : Int) (b : Int) := fun h00 => by
      rw [hac1]
      have hd := hDB.out
      subst h00
      obtain ⟨-, z2, z3⟩ := hd.zero0
      have hy0 : pop y = 0 := by
        have : y = 0 := Nat.eq_of_testBit_eq fun i => by
          rw [Nat.zero_testBit]
          cases hi : y.testBit i with
          | false => rfl
          | true => exact absurd (hyn i hi) (Nat.not_lt_zero _)
        rw [this, pop_bl, bl_zero]; rfl
      have q1 : (a : Int) = 0 := by rw [← e1]; unfold dseN; rw [if_pos hy0]
      have q2 : (b : Int) = 1 := by rw [← e2]; unfold dseD; rw [if_pos hy0]
      rw [z2, z3]; exact ⟨q1, q2⟩
    have kv1 := fun w => Rt.rvalid_any (N : Int) (D : Int) w
    have kv2 := fun w => Rt.rvalid_any (M' : Int) (d' : Int) w
    rw [hok.out] at kv1
    rw [hbds.out.ok] at kv2
    have kc1 := fun w => Rt.rCmp_any (a : Int) (b : Int) (M' : Int) (d' : Int) w
    have kc2 := fun w => Rt.rCmp_any (a : Int) (b : Int) (N : Int) (D : Int) w
    have kc3 := fun w => Rt.rCmp_any (N : Int) (D : Int) (M' : Int) (d' : Int) w
    have hbest := hbds.out.best
    generalize cmpF (a : Int) (b : Int) (M' : Int) (d' : Int) = C1 at *
    generalize cmpF (a : Int) (b : Int) (N : Int) (D : Int) = C2 at *
    generalize cmpF (N : Int) (D : Int) (M' : Int) (d' : Int) = C3 at *
    generalize cmpF (N : Int) (D : Int) (a : Int) (b : Int) = C4 at *
    have c1 : ¬ 0 < C1 := hset
    have c2 : ¬ 0 < C2 := by omega
    have c3 : ¬ 0 < C3 := hbest
    have hkd := Lib.hid (fun w h hS hP => dcheck_any A np c n es AX nx cx (bset y) (a : Int) (b : Int) (D : Int) AP np cp ps w h (by omega) hz.out (by omega) hS (by omega) hP (by omega))
    obtain ⟨R, hR⟩ : ∃ R, R = dchk n es np (bset y) (a : Int) (b : Int) (D : Int) ps := ⟨_, rfl⟩
    replace hkd := hkd.out
    rw [← hR] at hkd hdc
    have hdc2 := Lib.hid hdc
    have hpk := Lib.hid (And.intro hnx (And.intro hac1 (And.intro hsub hzero)))
    replace kden := Lib.hid kden
    replace kv1 := Lib.hid kv1
    replace kv2 := Lib.hid kv2
    replace kc1 := Lib.hid kc1
    replace kc2 := Lib.hid kc2
    replace kc3 := Lib.hid kc3
    replace hkd := Lib.hid hkd
    replace hR := Lib.hid hR
    clear hacc hset hcs hdc hsub hac1 hzero hnx hmt e1 e2 hy hyn hvx hbest hbds hel2
    obtain ⟨d0, d1⟩ := blkG G9
    go_upto_region 7 with (first
      | (go_at_call 42; (with_reducible refine kden.out.mono ?_); rintro e w10 ⟨rfl, hb10⟩)
      | fail)
    have X11 := Blk.new w10 36 #[.int .i64 (a : Nat), .int .i64 (b : Nat)]
    have G11 := (G9.below hb10 G9.lt).alloc (.cells #[.int .i64 (a : Nat), .int .i64 (b : Nat)] 36)
    have D11 := (D9.below hb10 D9.lt).alloc (.cells #[.int .i64 (a : Nat), .int .i64 (b : Nat)] 36)
    have F11 := (F9.below hb10 F9.lt).alloc (.cells #[.int .i64 (a : Nat), .int .i64 (b : Nat)] 36)
    have E11 := (E9.below hb10 (Nat.le_refl _)).alloc (.cells #[.int .i64 (a : Nat), .int .i64 (b : Nat)] 36)
    have S11 := (S9.below hb10 (Nat.le_refl _)).alloc (.cells #[.int .i64 (a : Nat), .int .i64 (b : Nat)] 36)
    have P11 := (P9.below hb10 (Nat.le_refl _)).alloc (.cells #[.int .i64 (a : Nat), .int .i64 (b : Nat)] 36)
    have R11 := (hrx.below hb10 (Nat.le_refl _)).alloc (.cells #[.int .i64 (a : Nat), .int .i64 (b : Nat)] 36)
    have B11 := (B9.trans (hb10.mono B9.size)).alloc (B9.trans (hb10.mono B9.size)).size (.cells #[.int .i64 (a : Nat), .int .i64 (b : Nat)] 36)
    clear G9 D9 F9 E9 S9 P9 hrx B9 hb10 kden d0 d1
    generalize w10.alloc (.cells #[.int .i64 (a : Nat), .int .i64 (b : Nat)] 36) = w11 at *
    generalize w10.heap.size = gx at *
    have q1 := Blk.cell D11 1
    have q2 := Blk.cell D11 2
    have f0 := Blk.cell F11 0
    have f1 := Blk.cell F11 1
    have x0 := Blk.cell X11 0
    have x1 := Blk.cell X11 1
    simp at q1 q2 f0 f1 x0 x1
    have dl := D11.lt
    have fl := F11.lt
    have xl := X11.lt
    have kS2 : Hid (∀ w' : World, Below w11.heap.size w11 w' → w'.cell? ⟨gd, 1, none⟩ = some (.int .i64 (N : Nat)) ∧ w'.cell? ⟨gd, 2, none⟩ = some (.int .i64 (D : Nat)) ∧ w'.cell? ⟨gb, 0, none⟩ = some (.int .i64 (M' : Nat)) ∧ w'.cell? ⟨gb, 1, none⟩ = some (.int .i64 (d' : Nat)) ∧ w'.cell? ⟨gx, 0, none⟩ = some (.int .i64 (a : Nat)) ∧ w'.cell? ⟨gx, 1, none⟩ = some (.int .i64 (b : Nat))) := Lib.hid (fun w' hb => ⟨(hb.cell (p := ⟨gd, 1, none⟩) dl).trans q1, (hb.cell (p := ⟨gd, 2, none⟩) dl).trans q2, (hb.cell (p := ⟨gb, 0, none⟩) fl).trans f0, (hb.cell (p := ⟨gb, 1, none⟩) fl).trans f1, (hb.cell (p := ⟨gx, 0, none⟩) xl).trans x0, (hb.cell (p := ⟨gx, 1, none⟩) xl).trans x1⟩)
    go_upto_region 9 with (first
      | (go_at_call 43; (with_reducible refine (kv1.out _).mono ?_); rintro e w12 ⟨rfl, hb12⟩; clear q1 q2 f0 f1 x0 x1; obtain ⟨q1, q2, f0, f1, x0, x1⟩ := kS2.out _ hb12)
      | (go_at_call 43; (with_reducible refine (kv2.out _).mono ?_); rintro e w13 ⟨rfl, hb13⟩; have hb13' := hb12.trans (hb13.mono hb12.size); clear q1 q2 f0 f1 x0 x1; obtain ⟨q1, q2, f0, f1, x0, x1⟩ := kS2.out _ hb13')
      | (go_at_call 21; (with_reducible refine (kc1.out _).mono ?_); rintro e w14 ⟨rfl, hb14⟩; have hb14' := hb13'.trans (hb14.mono hb13'.size); clear q1 q2 f0 f1 x0 x1; obtain ⟨q1, q2, f0, f1, x0, x1⟩ := kS2.out _ hb14')
      | (go_at_call 21; (with_reducible refine (kc2.out _).mono ?_); rintro e w15 ⟨rfl, hb15⟩; have hb15' := hb14'.trans (hb15.mono hb14'.size); clear q1 q2 f0 f1 x0 x1; obtain ⟨q1, q2, f0, f1, x0, x1⟩ := kS2.out _ hb15')
      | (go_at_call 21; (with_reducible refine (kc3.out _).mono ?_); rintro e w16 ⟨rfl, hb16⟩; have hb16' := hb15'.trans (hb16.mono hb15'.size); clear q1 q2 f0 f1 x0 x1; obtain ⟨q1, q2, f0, f1, x0, x1⟩ := kS2.out _ hb16')
      | fail)
    have G16 := G11.below hb16' G11.lt
    have D16 := D11.below hb16' dl
    have X16 := X11.below hb16' xl
    have E16 := E11.below hb16' (Nat.le_refl _)
    have S16 := S11.below hb16' (Nat.le_refl _)
    have P16 := P11.below hb16' (Nat.le_refl _)
    have R16 := R11.below hb16' (Nat.le_refl _)
    have B16 := B11.trans (hb16'.mono B11.size)
    clear G11 D11 F11 X11 E11 S11 P11 R11 B11 hb12 hb13 hb14 hb15 hb16 hb13' hb14' hb15' hb16' kv1 kv2 kc1 kc2 kc3 kS2 q1 q2 f0 f1 x0 x1 c1 c2 c3 dl fl xl
    have x0 := Blk.cell X16 0
    have x1 := Blk.cell X16 1
    have q3 := Blk.cell D16 3
    have q4 := Blk.cell D16 4
    simp at x0 x1 q3 q4
    go_upto_region 10 with fail
    have O17 := Blk.new w16 48 #[.slice AX nx cx, .int .i64 (a : Nat), .int .i64 (b : Nat), .int .i64 (D : Nat), .slice AP np cp]
    have G17 := G16.alloc (.cells #[.slice AX nx cx, .int .i64 (a : Nat), .int .i64 (b : Nat), .int .i64 (D : Nat), .slice AP np cp] 48)
    have D17 := D16.alloc (.cells #[.slice AX nx cx, .int .i64 (a : Nat), .int .i64 (b : Nat), .int .i64 (D : Nat), .slice AP np cp] 48)
    have X17 := X16.alloc (.cells #[.slice AX nx cx, .int .i64 (a : Nat), .int .i64 (b : Nat), .int .i64 (D : Nat), .slice AP np cp] 48)
    have E17 := E16.alloc (.cells #[.slice AX nx cx, .int .i64 (a : Nat), .int .i64 (b : Nat), .int .i64 (D : Nat), .slice AP np cp] 48)
    have S17 := S16.alloc (.cells #[.slice AX nx cx, .int .i64 (a : Nat), .int .i64 (b : Nat), .int .i64 (D : Nat), .slice AP np cp] 48)
    have P17 := P16.alloc (.cells #[.slice AX nx cx, .int .i64 (a : Nat), .int .i64 (b : Nat), .int .i64 (D : Nat), .slice AP np cp] 48)
    have R17 := R16.alloc (.cells #[.slice AX nx cx, .int .i64 (a : Nat), .int .i64 (b : Nat), .int .i64 (D : Nat), .slice AP np cp] 48)
    have B17 := B16.alloc B16.size (.cells #[.slice AX nx cx, .int .i64 (a : Nat), .int .i64 (b : Nat), .int .i64 (D : Nat), .slice AP np cp] 48)
    clear G16 D16 X16 E16 S16 P16 R16 B16 x0 x1 q3 q4
    generalize w16.alloc (.cells #[.slice AX nx cx, .int .i64 (a : Nat), .int .i64 (b : Nat), .int .i64 (D : Nat), .slice AP np cp] 48) = w17 at *
    generalize w16.heap.size = go_ at *
    obtain ⟨d0, d1⟩ := blkG G17
    have o0 := Blk.cell O17 0
    have o1 := Blk.cell O17 1
    have o2 := Blk.cell O17 2
    have o3 := Blk.cell O17 3
    have o4 := Blk.cell O17 4
    simp at o0 o1 o2 o3 o4
    have kd := Lib.hid (hkd.out w17 E17 R17 P17)
    go_upto_region 11 with (first
      | (go_at_call 44; (with_reducible refine kd.out.mono ?_); rintro e w20 ⟨rfl, hb20⟩)
      | fail)
    have G20 := G17.below hb20 G17.lt
    have D20 := D17.below hb20 D17.lt
    have X20 := X17.below hb20 X17.lt
    have S20 := S17.below hb20 (Nat.le_refl _)
    have R20 := R17.below hb20 (Nat.le_refl _)
    have B20 := B17.trans (hb20.mono B17.size)
    clear G17 D17 X17 E17 S17 P17 R17 B17 O17 kd hkd d0 d1 o0 o1 o2 o3 o4 hb20
    have ka := Lib.hid (awake19_any w20 (hT.keep B20))
    obtain ⟨d0, d1⟩ := blkG G20
    have q0 := Blk.cell D20 0
    have q1 := Blk.cell D20 1
    have q2 := Blk.cell D20 2
    have x0 := Blk.cell X20 0
    have x1 := Blk.cell X20 1
    simp at q0 q1 q2 x0 x1
    by_cases hp0 : nx = 0
    · subst hp0
      have hp1 : pop y = 0 := hpk.out.1.symm
      have l0 : (((0 : Nat) : Int) == 0) = true := rfl
      by_cases hn0 : 0 < n
      · have hRv : R = 4 := by rw [hdc2.out, if_pos ⟨hp1, hn0⟩]
        subst hRv
        have l1 : ((n : Int) == 0) = false := by rw [beq_eq_false_iff_ne]; omega
        clear hp1 hpk hdc2 hn0
        go_wp2_with (first
          | (go_at_call 45; (with_reducible refine ka.out.mono ?_); rintro e w21 ⟨rfl, hb21⟩)
          | fail)
        go_ret
        exact ⟨rfl, B20.trans (hb21.mono B20.size)⟩
      · have hRv : R = 0 := by rw [hdc2.out, if_neg (fun hh => hn0 hh.2), if_neg (by have := hpk.out.2.2.2 (by omega); omega)]
        subst hRv
        have l1 : ((n : Int) == 0) = true := by rw [beq_iff_eq]; omega
        clear hp1 hpk hdc2 hn0
        go_wp2_with (first
          | (go_at_call 45; (with_reducible refine ka.out.mono ?_); rintro e w21 ⟨rfl, hb21⟩)
          | fail)
        go_ret
        exact ⟨rfl, B20.trans (hb21.mono B20.size)⟩
    · have l0 : ((nx : Int) == 0) = false := by rw [beq_eq_false_iff_ne]; omega
      have hp1 : ¬ (pop y = 0 ∧ 0 < n) := fun hh => hp0 (by rw [hpk.out.1]; exact hh.1)
      by_cases hC : 0 < C4
      · have hRv : R = 12 := by rw [hdc2.out, if_neg hp1, if_pos hC]
        subst hRv
        have hne : ¬ ((a : Int) = (N : Int) ∧ (b : Int) = (D : Int)) := fun hh => by have := hpk.out.2.1.2 hh; omega
        have hcase : ((a : Int) == (N : Int)) = false ∨ ((a : Int) == (N : Int)) = true ∧ ((b : Int) == (D : Int)) = false := by
          by_cases h1 : (a : Int) = (N : Int)
          · right; exact ⟨by rw [beq_iff_eq]; exact h1, by rw [beq_eq_false_iff_ne]; exact fun h2 => hne ⟨h1, h2⟩⟩
          · left; rw [beq_eq_false_iff_ne]; exact h1
        clear hp1 hpk hdc2 hne hp0
        rcases hcase with k1 | ⟨k1, k2⟩
        · go_wp2_with (first
            | (go_at_call 45; (with_reducible refine ka.out.mono ?_); rintro e w21 ⟨rfl, hb21⟩)
            | fail)
          go_ret
          exact ⟨rfl, B20.trans (hb21.mono B20.size)⟩
        · go_wp2_with (first
            | (go_at_call 45; (with_reducible refine ka.out.mono ?_); rintro e w21 ⟨rfl, hb21⟩)
            | fail)
          go_ret
          exact ⟨rfl, B20.trans (hb21.mono B20.size)⟩
      · have hRv : R = 0 := by rw [hdc2.out, if_neg hp1, if_neg hC]
        subst hRv
        have heq := hpk.out.2.1.1 (by omega)
        have k1 : ((a : Int) == (N : Int)) = true := by rw [beq_iff_eq]; exact heq.1
        have k2 : ((b : Int) == (D : Int)) = true := by rw [beq_iff_eq]; exact heq.2
        have hsb := hpk.out.2.2.1 heq
        have kw := within2_any AX AS nx cx ns cs (bset y) (bset x) w20 R20 (by omega) S20 (by omega)
        rw [decide_eq_true (fun z hz2 => by
          obtain ⟨i, rfl⟩ := bset_nat hz2
          have := mem_bset.1 hz2
          exact mem_bset.2 ⟨this.1, hsb i this.2⟩)] at kw
        replace kw := Lib.hid kw
        clear hp1 hpk hdc2 heq hsb hp0
        go_wp2_with (first
          | (go_at_call 46; (with_reducible refine kw.out.mono ?_); rintro e wz ⟨rfl, hw⟩; obtain rfl := hw)
          | (go_at_call 45; (with_reducible refine ka.out.mono ?_); rintro e w21 ⟨rfl, hb21⟩)
          | fail)
        go_ret
        exact ⟨rfl, B20.trans (hb21.mono B20.size)⟩
end Go.Proofs.YticekkjambkifaaDoor.Fl
