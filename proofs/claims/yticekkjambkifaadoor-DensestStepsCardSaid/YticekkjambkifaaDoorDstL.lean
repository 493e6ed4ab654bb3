/- The law DensestSteps. -/
import Derived.Test.YticekkjambkifaaDoorZam
import Derived.Test.YticekkjambkifaaDoorZao
import Derived.Test.YticekkjambkifaaDoorRefI
import Derived.Test.YticekkjambkifaaDoorDnsD
set_option linter.unusedVariables false
set_option linter.unusedSimpArgs false
namespace Go.Proofs.YticekkjambkifaaDoor.Fl
open Go.RowKit Go.Proofs.YticekkjambkifaaDoor CoBit CoRat Rt

theorem cmpF_lt {a d N D : Nat} (h1 : okF (a : Int) (d : Int) = true) (h2 : okF (N : Int) (D : Int) = true) : cmpF (a : Int) (d : Int) (N : Int) (D : Int) < 0 ↔ a * D < N * d := by
  unfold cmpF
  rw [h1, h2, Bool.and_self, if_pos rfl, Int.sign_neg_iff, ← Int.natCast_mul, ← Int.natCast_mul]
  omega
theorem prc_ok {p q : Nat} (h : okF (p : Int) (q : Int) = true) (hp : p ≤ 1048576) (hq : q ≤ 1048576) : prcE (p : Int) (q : Int) = 0 := by
  unfold prcE
  rw [if_neg (by rw [h]; decide), if_neg (by omega)]
set_option maxRecDepth 100000 in
set_option maxHeartbeats 16000000 in
theorem lawSteps_any (A0 : Option Addr) (m0 c0 : Nat) (l : List Int) (NU DE : Int) (w : World) (hT : Tab w) (h0 : RI w A0 m0 l) (hmc : m0 ≤ c0) (hm0 : m0 ≤ 1152921504606846976) :
    Calls Tryd.prog 11 #[.slice A0 m0 c0, .int .i64 NU, .int .i64 DE] w fun e w' => e = .returned (.bool true) ∧ Below w.heap.size w w' := by
  obtain ⟨X, hX⟩ := Int.eq_ofNat_of_zero_le (show 0 ≤ NU % 10 by omega)
  obtain ⟨Y, hY⟩ := Int.eq_ofNat_of_zero_le (show 0 ≤ 1 + DE % 6 by omega)
  have hX5 : X ≤ 9 := by omega
  have hY5 : 1 ≤ Y ∧ Y ≤ 6 := by omega
  have km1 := fun w => mkmod_any NU 10 w (by omega) (by omega)
  have km2 := fun w => mkmod_any DE 6 w (by omega) (by omega)
  rw [hX] at km1
  have j1 : IntKind.i64.wrap (1 + DE % 6) = (Y : Int) := by rw [hY]; exact IntWalk.i64_in _ ⟨by omega, by omega⟩
  have j2 : 1 + DE % 6 = (Y : Int) := hY
  have hFx := FrV.mk_ X Y (by omega) (by omega) (by omega)
  obtain ⟨a, d, ha, hd, hd0, ha4, hd5, _⟩ := mk_val X Y (by omega) (by omega) (by omega)
  rw [ha, hd] at hFx
  have hokx := hFx.1
  have kof1 := fun w => of_f (X : Int) (Y : Int) w (by omega) (by omega) (by omega) (by omega)
  rw [ha, hd] at kof1
  replace km1 := Lib.hid km1
  replace km2 := Lib.hid km2
  replace kof1 := Lib.hid kof1
  replace hokx := Lib.hid hokx
  have had : Hid (a ≤ 9 ∧ d ≤ 6 ∧ 0 < d) := Lib.hid ⟨by omega, by omega, hd0⟩
  replace j2 := Lib.hid j2
  clear hX hY hFx ha hd ha4 hd5 hd0 hX5 hY5
  go_enter Tryd.func11, Tryd.ntmps11
  go_wp2_with fail
  refine (new_any A0 m0 c0 l w h0 hmc hm0).mono ?_
  rintro e w1 ⟨rfl, hd1, hb1, hs1⟩
  go_wp2_with fail
  refine (mkgraph_any _ 8 _ hd1 (by omega)).mono ?_
  rintro e w2 ⟨n, es, A, m, c, rfl, hmcc, hr2, hf2, hsrt, hn9, hd2, hg2⟩
  have hz := Lib.hid (chk_of_srt hsrt (show (0 : Int) ≤ n by omega) (by omega))
  have hlen : m ≤ 81 := by
    have h1 := srt_len hsrt
    have h2 := hr2.len
    have h3 : n * n ≤ 9 * 9 := Nat.mul_le_mul (by omega) (by omega)
    omega
  have hel := Lib.hid (show es.length ≤ 4096 by have := hr2.len; omega)
  have hb2 : Below w.heap.size w w2 := hb1.grown hg2 (by omega) (fun k hk => by injection hk with hk; omega)
  have hs2 := hb2.size
  clear hs1 hb1 hf2 hg2 h0 hd1 hd2 hsrt
  go_upto_region 2 with fail
  have G3 := Blk.new w2 25 #[.int .i64 n, .slice A m c]
  have E3 := hr2.alloc (.cells #[.int .i64 n, .slice A m c] 25)
  have B3 := hb2.alloc hs2 (.cells #[.int .i64 n, .slice A m c] 25)
  clear hr2 hb2
  generalize w2.alloc (.cells #[.int .i64 n, .slice A m c] 25) = w3 at *
  generalize w2.heap.size = gg at *
  obtain ⟨d0, d1⟩ := blkG G3
  have hT3 := hT.keep B3
  have kb := Lib.hid (best_any A m c n es w3 E3 hT3 (by omega) hz.out (by omega))
  go_upto_region 3 with (first
    | (go_at_call 40; (with_reducible refine kb.out.mono ?_); intro e w4 hq; obtain ⟨x, N, D, ps, AS, ns, cs, AP, np, cp, rfl, hDB, hns, hnp, hS4, hP4, hb4⟩ := hq)
    | fail)
  have hnl := Lib.hid (show ns = pop x by rw [← hS4.len]; unfold bset; rw [nts_length, pop_bl])
  have hns64 : ns ≤ 64 := by rw [hnl.out]; exact pop_le x
  have hok := Lib.hid (hDB.ok hel.out)
  have hpr := prc_ok hok.out (by have := hDB.lim; omega) (by have := hDB.lim; omega)
  replace hDB := Lib.hid hDB
  have G5 := (G3.below hb4 G3.lt).alloc (.cells #[.slice AS ns cs, .int .i64 (N : Nat), .int .i64 (D : Nat), .int .i64 (D : Nat), .slice AP np cp] 48)
  have E5 := (E3.below hb4 (Nat.le_refl _)).alloc (.cells #[.slice AS ns cs, .int .i64 (N : Nat), .int .i64 (D : Nat), .int .i64 (D : Nat), .slice AP np cp] 48)
  have S5 := hS4.alloc (.cells #[.slice AS ns cs, .int .i64 (N : Nat), .int .i64 (D : Nat), .int .i64 (D : Nat), .slice AP np cp] 48)
  have D5 := Blk.new w4 48 #[.slice AS ns cs, .int .i64 (N : Nat), .int .i64 (D : Nat), .int .i64 (D : Nat), .slice AP np cp]
  have B5 := (B3.trans (hb4.mono B3.size)).alloc (B3.trans (hb4.mono B3.size)).size (.cells #[.slice AS ns cs, .int .i64 (N : Nat), .int .i64 (D : Nat), .int .i64 (D : Nat), .slice AP np cp] 48)
  clear G3 E3 B3 hS4 hP4 hb4 kb hT3 d0 d1 hnp
  generalize w4.alloc (.cells #[.slice AS ns cs, .int .i64 (N : Nat), .int .i64 (D : Nat), .int .i64 (D : Nat), .slice AP np cp] 48) = w5 at *
  generalize w4.heap.size = gd at *
  have kv := fun w => Rt.rvalid_any (N : Int) (D : Int) w
  rw [hok.out] at kv
  replace kv := Lib.hid kv
  have q0 := Blk.cell D5 0
  have q1 := Blk.cell D5 1
  have q2 := Blk.cell D5 2
  simp at q0 q1 q2
  go_upto_region 5 with (first
    | (go_at_call 43; (with_reducible refine (kv.out _).mono ?_); rintro e w6 ⟨rfl, hb6⟩)
    | fail)
  have G6 := G5.below hb6 G5.lt
  have D6 := D5.below hb6 D5.lt
  have E6 := E5.below hb6 (Nat.le_refl _)
  have S6 := S5.below hb6 (Nat.le_refl _)
  have B6 := B5.trans (hb6.mono B5.size)
  clear G5 D5 E5 S5 B5 hb6 kv q0 q1 q2
  obtain ⟨d0, d1⟩ := blkG G6
  have q1 := Blk.cell D6 1
  have q2 := Blk.cell D6 2
  simp at q1 q2
  have kd := Lib.hid (denser_ok A m c n es N D w6 E6 (hT.keep B6) (by omega) hz.out (by omega) hpr)
  replace hpr := Lib.hid hpr
  go_upto_region 6 with (first
    | (go_at_call 50; (with_reducible refine kd.out.mono ?_); intro e w7 hq; obtain ⟨y, AY, ny, cy, rfl, hmy, hny, hY7, hb7⟩ := hq
       obtain ⟨hyx, hno⟩ := hDB.out.own (show n ≤ 64 by omega) hmy
       subst hyx
       rw [decide_eq_false hno])
    | fail)
  have G7 := G6.below hb7 G6.lt
  have D7 := D6.below hb7 D6.lt
  have E7 := E6.below hb7 (Nat.le_refl _)
  have S7 := S6.below hb7 (Nat.le_refl _)
  have B7 := B6.trans (hb7.mono B6.size)
  clear G6 D6 E6 S6 B6 hb7 kd q1 q2 d0 d1 hmy hno
  go_upto_region 7 with (first
    | (go_at_call 49; with_reducible refine (km1.out _).mono ?_; rintro e wq ⟨rfl, hq⟩; obtain rfl := hq.symm)
    | (go_at_call 49; with_reducible refine (km2.out _).mono ?_; rintro e wq ⟨rfl, hq⟩; obtain rfl := hq.symm)
    | (go_at_call 26; with_reducible refine (kof1.out _).mono ?_; rintro e w8 ⟨rfl, hb8⟩)
    | fail)
  have F8 := Blk.new w8 36 #[.int .i64 (a : Nat), .int .i64 (d : Nat)]
  have G8 := (G7.below hb8 G7.lt).alloc (.cells #[.int .i64 (a : Nat), .int .i64 (d : Nat)] 36)
  have D8 := (D7.below hb8 D7.lt).alloc (.cells #[.int .i64 (a : Nat), .int .i64 (d : Nat)] 36)
  have E8 := (E7.below hb8 (Nat.le_refl _)).alloc (.cells #[.int .i64 (a : Nat), .int .i64 (d : Nat)] 36)
  have S8 := (S7.below hb8 (Nat.le_refl _)).alloc (.cells #[.int .i64 (a : Nat), .int .i64 (d : Nat)] 36)
  have Y8 := (hY7.below hb8 (Nat.le_refl _)).alloc (.cells #[.int .i64 (a : Nat), .int .i64 (d : Nat)] 36)
  have B8 := (B7.trans (hb8.mono B7.size)).alloc (B7.trans (hb8.mono B7.size)).size (.cells #[.int .i64 (a : Nat), .int .i64 (d : Nat)] 36)
  clear G7 D7 E7 S7 hY7 B7 hb8 km1 km2 kof1 j1
  generalize w8.alloc (.cells #[.int .i64 (a : Nat), .int .i64 (d : Nat)] 36) = w9 at *
  generalize w8.heap.size = gf at *
  obtain ⟨d0, d1⟩ := blkG G8
  have f0 := Blk.cell F8 0
  have f1 := Blk.cell F8 1
  simp at f0 f1
  have hpr2 := prc_ok hokx.out (by have := had.out; omega) (by have := had.out; omega)
  have kd := Lib.hid (denser_ok A m c n es a d w9 E8 (hT.keep B8) (by omega) hz.out (by omega) hpr2)
  replace hpr2 := Lib.hid hpr2
  have kcm := fun w => Rt.rCmp_any (a : Int) (d : Int) (N : Int) (D : Int) w
  have hcl := cmpF_lt hokx.out hok.out
  generalize cmpF (a : Int) (d : Int) (N : Int) (D : Int) = C at *
  replace kcm := Lib.hid kcm
  replace hcl := Lib.hid hcl
  go_upto_region 8 with (first
    | (go_at_call 50; (with_reducible refine kd.out.mono ?_); intro e w10 hq; obtain ⟨z, AZ, nz, cz, rfl, hmz, hnz, hZ10, hb10⟩ := hq
       have hmore := Lib.hid (hDB.out.more (show n ≤ 64 by omega) had.out.2.2 hmz)
       generalize hbb : decide (a * pop z < insE es (bset z) * d) = bb
       replace hbb := Lib.hid hbb)
    | fail)
  have D10 := D8.below hb10 D8.lt
  have F10 := F8.below hb10 F8.lt
  have S10 := S8.below hb10 (Nat.le_refl _)
  have Y10 := Y8.below hb10 (Nat.le_refl _)
  have B10 := B8.trans (hb10.mono B8.size)
  clear G8 D8 F8 E8 S8 Y8 B8 hb10 kd d0 d1 f0 f1 hmz hZ10 hnz
  have hcase : bb = true ∧ C < 0 ∨ bb = false ∧ ¬ C < 0 := by
    by_cases hl : a * D < N * d
    · left
      refine ⟨?_, hcl.out.2 hl⟩
      rw [← hbb.out]; exact decide_eq_true (hmore.out.2 hl)
    · right
      refine ⟨?_, fun h => hl (hcl.out.1 h)⟩
      rw [← hbb.out]; exact decide_eq_false (fun h => hl (hmore.out.1 h))
  have hny64 : ny ≤ 64 := by rw [← Y10.len, S10.len]; exact hns64
  have ks := same_any AY AS ny cy ns cs (bset y) (bset y) w10 Y10 (by omega) S10 (by omega)
  rw [decide_eq_true rfl] at ks
  replace ks := Lib.hid ks
  have q0 := Blk.cell D10 0
  have q1 := Blk.cell D10 1
  have q2 := Blk.cell D10 2
  have f0 := Blk.cell F10 0
  have f1 := Blk.cell F10 1
  simp at q0 q1 q2 f0 f1
  clear hmore hcl hbb hDB hnl hok hokx had hz S10 Y10 hmcc hns hny
  rcases hcase with ⟨rfl, hC⟩ | ⟨rfl, hC⟩
  all_goals
    go_wp2_with (first
      | (go_at_call 19; (with_reducible refine ks.out.mono ?_); rintro e w11 ⟨rfl, q, rfl⟩
         have B11 := below_drewN B10 q)
      | (go_at_call 21; (with_reducible refine (kcm.out _).mono ?_); rintro e w12 ⟨rfl, hb12⟩
         have B12 := B11.trans (hb12.mono B11.size))
      | (go_at_call 45; (with_reducible refine (awake19_any _ (hT.keep B12)).mono ?_); rintro e w13 ⟨rfl, hb13⟩)
      | fail)
    go_ret
    exact ⟨by first | rfl | (simp [hC]; done) | (simp_all; done), B12.trans (hb13.mono B12.size)⟩
end Go.Proofs.YticekkjambkifaaDoor.Fl
