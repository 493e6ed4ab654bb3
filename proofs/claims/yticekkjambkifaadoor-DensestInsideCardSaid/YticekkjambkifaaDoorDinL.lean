/- The law DensestInside. -/
import Derived.Test.YticekkjambkifaaDoorZam
import Derived.Test.YticekkjambkifaaDoorZao
import Derived.Test.YticekkjambkifaaDoorRefI
set_option linter.unusedVariables false
set_option linter.unusedSimpArgs false
namespace Go.Proofs.YticekkjambkifaaDoor.Fl
open Go.RowKit Go.Proofs.YticekkjambkifaaDoor CoBit CoRat Rt

theorem bset_minus {x i : Nat} (hx : x < 18446744073709551616) (hi : i < 64) : minusL (bset x) [(i : Int)] = bset (clr x i) := by
  unfold minusL
  rw [of_id (bset_sorted x), clr_bset hx hi]
  refine List.filter_congr fun y _ => ?_
  exact decide_eq_decide.2 (by simp)
set_option maxRecDepth 100000 in
set_option maxHeartbeats 16000000 in
theorem lawInside_any (A0 : Option Addr) (m0 c0 : Nat) (l : List Int) (w : World) (hT : Tab w) (h0 : RI w A0 m0 l) (hmc : m0 ≤ c0) (hm0 : m0 ≤ 1152921504606846976) :
    Calls Tryd.prog 9 #[.slice A0 m0 c0] w fun e w' => e = .returned (.bool true) ∧ Below w.heap.size w w' := by
  go_enter Tryd.func9, Tryd.ntmps9
  go_wp2_with fail
  refine (new_any A0 m0 c0 l w h0 hmc hm0).mono ?_
  rintro e w1 ⟨rfl, hd1, hb1, hs1⟩
  go_wp2_with fail
  refine (mkgraph_any _ 9 _ hd1 (by omega)).mono ?_
  rintro e w2 ⟨n, es, A, m, c, rfl, hmcc, hr2, hf2, hsrt, hn9, hd2, hg2⟩
  have hz := Lib.hid (chk_of_srt hsrt (show (0 : Int) ≤ n by omega) (by omega))
  have hlen : m ≤ 81 := by
    have h1 := srt_len hsrt
    have h2 := hr2.len
    have h3 : n * n ≤ 9 * 9 := Nat.mul_le_mul hn9 hn9
    omega
  have hel : es.length ≤ 4096 := by have := hr2.len; omega
  have hb2 : Below w.heap.size w w2 := hb1.grown hg2 (by omega) (fun k hk => by injection hk with hk; omega)
  have hs2 := hb2.size
  clear hs1 hb1 hf2 hg2 h0 hd1 hd2 hsrt
  go_upto_region 2 with fail
  have G3 := Blk.new w2 25 #[.int .i64 n, .slice A m c]
  have E3 := hr2.alloc (.cells #[.int .i64 n, .slice A m c] 25)
  have B3 := hb2.alloc hs2 (.cells #[.int .i64 n, .slice A m c] 25)
  clear hr2 hb2
  generalize w2.alloc (.cells #[.int .i64 n, .slice A m c] 25) = w3 at *
  generalize w2.heap.size = gg at *
  obtain ⟨d0, d1⟩ := blkG G3
  have hT3 := hT.keep B3
  have kb := Lib.hid (best_any A m c n es w3 E3 hT3 (by omega) hz.out (by omega))
  go_upto_region 3 with (first
    | (go_at_call 40; (with_reducible refine kb.out.mono ?_); intro e w4 hq; obtain ⟨x, N, D, ps, AS, ns, cs, AP, np, cp, rfl, hDB, hns, hnp, hS4, hP4, hb4⟩ := hq)
    | fail)
  have hp64 := pop_le x
  have hnl := Lib.hid (show ns = pop x by rw [← hS4.len]; unfold bset; rw [nts_length, pop_bl])
  have hns64 : ns ≤ 64 := by rw [hnl.out]; exact hp64
  have hx64 := hDB.lt (show n ≤ 64 by omega)
  have hN := hDB.lim
  have hok := Lib.hid (hDB.ok hel)
  have G5 := (G3.below hb4 G3.lt).alloc (.cells #[.slice AS ns cs, .int .i64 (N : Nat), .int .i64 (D : Nat), .int .i64 (D : Nat), .slice AP np cp] 48)
  have E5 := (E3.below hb4 (Nat.le_refl _)).alloc (.cells #[.slice AS ns cs, .int .i64 (N : Nat), .int .i64 (D : Nat), .int .i64 (D : Nat), .slice AP np cp] 48)
  have S5 := hS4.alloc (.cells #[.slice AS ns cs, .int .i64 (N : Nat), .int .i64 (D : Nat), .int .i64 (D : Nat), .slice AP np cp] 48)
  have D5 := Blk.new w4 48 #[.slice AS ns cs, .int .i64 (N : Nat), .int .i64 (D : Nat), .int .i64 (D : Nat), .slice AP np cp]
  have B5 := (B3.trans (hb4.mono B3.size)).alloc (B3.trans (hb4.mono B3.size)).size (.cells #[.slice AS ns cs, .int .i64 (N : Nat), .int .i64 (D : Nat), .int .i64 (D : Nat), .slice AP np cp] 48)
  clear G3 E3 B3 hS4 hP4 hb4 kb hT3 d0 d1
  generalize w4.alloc (.cells #[.slice AS ns cs, .int .i64 (N : Nat), .int .i64 (D : Nat), .int .i64 (D : Nat), .slice AP np cp] 48) = w5 at *
  generalize w4.heap.size = gd at *
  have kv := fun w => Rt.rvalid_any (N : Int) (D : Int) w
  rw [hok.out] at kv
  replace kv := Lib.hid kv
  have q0 := Blk.cell D5 0
  have q1 := Blk.cell D5 1
  have q2 := Blk.cell D5 2
  simp at q0 q1 q2
  go_upto_region 5 with (first
    | (go_at_call 43; (with_reducible refine (kv.out _).mono ?_); rintro e w6 ⟨rfl, hb6⟩)
    | fail)
  have G6 := G5.below hb6 G5.lt
  have D6 := D5.below hb6 D5.lt
  have E6 := E5.below hb6 (Nat.le_refl _)
  have S6 := S5.below hb6 (Nat.le_refl _)
  have B6 := B5.trans (hb6.mono B5.size)
  clear G5 D5 E5 S5 B5 hb6 kv q0 q1 q2
  obtain ⟨d0, d1⟩ := blkG G6
  have q0 := Blk.cell D6 0
  have q1 := Blk.cell D6 1
  have q2 := Blk.cell D6 2
  simp at q0 q1 q2
  have gl := G6.lt
  have dl := D6.lt
  have kS : Hid (∀ w' : World, Below w6.heap.size w6 w' → w'.cell? ⟨gg, 0, none⟩ = some (.int .i64 n) ∧ w'.cell? ⟨gg, 1, none⟩ = some (.slice A m c) ∧ w'.cell? ⟨gd, 0, none⟩ = some (.slice AS ns cs)) := Lib.hid (fun w' hb => ⟨(hb.cell (p := ⟨gg, 0, none⟩) gl).trans d0, (hb.cell (p := ⟨gg, 1, none⟩) gl).trans d1, (hb.cell (p := ⟨gd, 0, none⟩) dl).trans q0⟩)
  have hDBh := Lib.hid hDB
  have hT6 := hT.keep B6
  clear hDB
  go_upto_region 6 with fail
  go_loopw [30] (fun i wr => ∃ k : Nat, k ≤ ns ∧ i = .int .i64 (k : Nat) ∧ Below w6.heap.size w6 wr) (fun i _ => ns - (intOf i).toNat)
  case atStart => exact ⟨0, Nat.zero_le _, rfl, Below.refl _ _⟩
  case round =>
    obtain ⟨k, hk, rfl, hb⟩ := hrel
    by_cases hlt : k < ns
    · have i0 : (k : Int) < (ns : Int) := by omega
      have i1 : (0 : Int) ≤ (k : Int) := by omega
      have Sr := S6.below hb (Nat.le_refl _)
      have Er := E6.below hb (Nat.le_refl _)
      obtain ⟨ad, y, rfl, hy, hcy⟩ := Sr.get hlt
      have hym := List.mem_of_getElem? hy.out
      obtain ⟨v, rfl⟩ := bset_nat hym
      obtain ⟨hv64, hvb⟩ := mem_bset.1 hym
      have hdeg := hDBh.out.deg hz.out (by omega) _ hym
      obtain ⟨g, hg⟩ : ∃ g, g = dg (nbG n es) (bset x) (v : Int) := ⟨_, rfl⟩
      rw [← hg] at hdeg
      have hgl : (meetL (nbG n es (v : Int)) (bset x)).length = g := by rw [meet_dg, hg]
      have hg64 : g ≤ 4096 * 2 := by
        rw [hg]
        exact Nat.le_trans (List.length_filter_le _ _) (Nat.le_trans (nbG_length _ _ _) (by omega))
      have hcl : ∀ i, (clr x v).testBit i = true → i < n := fun i hi => by
        rw [clr_bit hx64 hv64, Bool.and_eq_true] at hi
        exact hDBh.out.sub i hi.1
      have hcmp := hDBh.out.cmp_set hel hcl
      have hmin := bset_minus hx64 hv64
      have hpc : (bset (clr x v)).length = pop (clr x v) := by unfold bset; rw [nts_length, pop_bl]
      have hmt : (meetL (minusL (bset x) [(v : Int)]) (rng n)).length = pop (clr x v) := by rw [hmin, bset_meet hcl, hpc]
      have knb := Lib.hid (fun w h => neigh_any A m c n es (v : Int) w h (by omega))
      have kden := fun AL mL cL w h hl hmL => rdensity_any A m c n es AL mL cL (minusL (bset x) [(v : Int)]) w h (by omega) hz.out (by omega) hl hmL
      rw [hmt] at kden
      rw [hmin] at kden
      have hml : (bset (clr x v)).length ≤ 64 := by rw [hpc]; exact pop_le _
      obtain ⟨a, ha⟩ : ∃ a, a = dseN es (bset (clr x v)) (pop (clr x v)) := ⟨_, rfl⟩
      obtain ⟨b, hb_⟩ : ∃ b, b = dseD es (bset (clr x v)) (pop (clr x v)) := ⟨_, rfl⟩
      rw [← ha, ← hb_] at kden hcmp
      have kcm := fun w => Rt.rCmp_any a b (N : Int) (D : Int) w
      obtain ⟨C, hC⟩ : ∃ C, C = cmpF a b (N : Int) (D : Int) := ⟨_, rfl⟩
      rw [← hC] at kcm hcmp
      replace kden := Lib.hid kden
      replace kcm := Lib.hid kcm
      have hC0 : ¬ 0 < C := by omega
      have hgD : g * D ≤ 8192 * 64 := Nat.mul_le_mul hg64 hN.2
      have j1 : -9223372036854775808 ≤ (g : Int) * (D : Int) := by rw [← Int.natCast_mul]; omega
      have j2 : (g : Int) * (D : Int) ≤ 9223372036854775807 := by rw [← Int.natCast_mul]; omega
      have j3 : ¬ (g : Int) * (D : Int) < (N : Int) := by rw [← Int.natCast_mul]; omega
      have hnb : (nbG n es (v : Int)).length ≤ 8192 := Nat.le_trans (nbG_length _ _ _) (by omega)
      obtain ⟨NB, hNB⟩ : ∃ NB, NB = nbG n es (v : Int) := ⟨_, rfl⟩
      replace knb := knb.out
      rw [← hNB] at knb hgl hnb
      replace knb := Lib.hid knb
      replace hgl := Lib.hid hgl
      have hmh := Lib.hid hmin
      clear hg hmin hmt hpc hcmp hdeg hym hy ha hb_ hC hgD hNB hcl
      obtain ⟨r0, r1, r2⟩ := kS.out _ hb
      have BN : Below w6.heap.size w6 wr.drew := hb.drew
      go_upto_region 8 with fail
      go_region_held3 (fun w' => w'.cell? ⟨gg, 0, none⟩ = some (.int .i64 n) ∧ w'.cell? ⟨gg, 1, none⟩ = some (.slice A m c) ∧ w'.cell? ⟨gd, 0, none⟩ = some (.slice (some ad) ns cs))
        ((first | (with_reducible exact kS.out _ BN) | fail))
        ((first
          | (go_at_call 48; (with_reducible refine (knb.out _ (E6.below BN (Nat.le_refl _))).mono ?_); rintro e w7 ⟨A7, n7, c7, rfl, hn7, hr7, hb7, hf7⟩
             replace BN := BN.trans (hb7.mono BN.size))
          | (go_at_call 47; (with_reducible refine (Go.Proofs.YticekkjambkifaaDoor.meet_any A7 _ n7 c7 ns cs NB (bset x) _ hr7 (by have := hr7.len; omega) (S6.below BN (Nat.le_refl _)) (by omega)).mono ?_); rintro e w8 ⟨A8, n8, c8, rfl, hn8, hr8, hb8, hf8⟩
             replace BN := BN.trans (hb8.mono BN.size))
          | fail))
      have hn8 : n8 = g := by rw [← hgl.out]; exact hr8.len.symm
      subst hn8
      have hmn := Lib.hid (And.intro hml True.intro)
      clear knb hr7 hr8 hf7 hf8 hn7 r0 r1 r2
      have BNa : Below w6.heap.size w6 (w8.alloc (.cells #[.int .i64 (v : Nat)] 3)).drew := (BN.alloc BN.size (.cells #[.int .i64 (v : Nat)] 3)).drew
      have BNz : Below w6.heap.size w6 (w8.alloc (.cells #[.int .i64 0, .int .i64 0] 36)).drew := (BN.alloc BN.size (.cells #[.int .i64 0, .int .i64 0] 36)).drew
      have BNaz : Below w6.heap.size w6 ((w8.alloc (.cells #[.int .i64 (v : Nat)] 3)).alloc (.cells #[.int .i64 0, .int .i64 0] 36)).drew := ((BN.alloc BN.size (.cells #[.int .i64 (v : Nat)] 3)).alloc (BN.alloc BN.size (.cells #[.int .i64 (v : Nat)] 3)).size (.cells #[.int .i64 0, .int .i64 0] 36)).drew
      have BNza : Below w6.heap.size w6 ((w8.alloc (.cells #[.int .i64 0, .int .i64 0] 36)).alloc (.cells #[.int .i64 (v : Nat)] 3)).drew := ((BN.alloc BN.size (.cells #[.int .i64 0, .int .i64 0] 36)).alloc (BN.alloc BN.size (.cells #[.int .i64 0, .int .i64 0] 36)).size (.cells #[.int .i64 (v : Nat)] 3)).drew
      have BN0 : Below w6.heap.size w6 w8.drew := BN.drew
      have sz8 := BN.size
      have kma := Go.Proofs.YticekkjambkifaaDoor.minus_any (some ad) (some ⟨w8.heap.size, 0, none⟩) ns cs 1 1 (bset x) [(v : Int)] (w8.alloc (.cells #[.int .i64 (v : Nat)] 3)).drew (S6.below BNa (Nat.le_refl _)) (by omega) (show RI (w8.alloc (.cells #[.int .i64 (v : Nat)] 3)).drew _ 1 [(v : Int)] from RI.one (v : Int)) (by omega)
      rw [hmh.out] at kma
      replace kma := Lib.hid kma
      have kmaz := Go.Proofs.YticekkjambkifaaDoor.minus_any (some ad) (some ⟨w8.heap.size, 0, none⟩) ns cs 1 1 (bset x) [(v : Int)] ((w8.alloc (.cells #[.int .i64 (v : Nat)] 3)).alloc (.cells #[.int .i64 0, .int .i64 0] 36)).drew (S6.below BNaz (Nat.le_refl _)) (by omega) (show RI ((w8.alloc (.cells #[.int .i64 (v : Nat)] 3)).alloc (.cells #[.int .i64 0, .int .i64 0] 36)).drew _ 1 [(v : Int)] from (RI.one (v : Int)).alloc _) (by omega)
      rw [hmh.out] at kmaz
      replace kmaz := Lib.hid kmaz
      have kmza := Go.Proofs.YticekkjambkifaaDoor.minus_any (some ad) (some ⟨w8.heap.size + 1, 0, none⟩) ns cs 1 1 (bset x) [(v : Int)] ((w8.alloc (.cells #[.int .i64 0, .int .i64 0] 36)).alloc (.cells #[.int .i64 (v : Nat)] 3)).drew (S6.below BNza (Nat.le_refl _)) (by omega) (by have := RI.one (w := w8.alloc (.cells #[.int .i64 0, .int .i64 0] 36)) (t := 3) (v : Int); rw [World.size_alloc] at this; exact this) (by omega)
      rw [hmh.out] at kmza
      replace kmza := Lib.hid kmza
      clear BN
      go_upto_region 9 with fail
      go_cut [9] (fun p wx => ∃ gy : Nat, p = .pointer (some ⟨gy, 0, none⟩) ∧ Blk wx gy 36 #[.int .i64 a, .int .i64 b] ∧ Below w6.heap.size w6 wx)
      case first =>
        go_loud (go_region_held3 (fun w' => w'.cell? ⟨gg, 0, none⟩ = some (.int .i64 n) ∧ w'.cell? ⟨gg, 1, none⟩ = some (.slice A m c) ∧ w'.cell? ⟨gd, 0, none⟩ = some (.slice (some ad) ns cs))
          ((first | (with_reducible exact kS.out _ BN0) | (with_reducible exact kS.out _ BNa) | (with_reducible exact kS.out _ BNz) | (with_reducible exact kS.out _ BNaz) | (with_reducible exact kS.out _ BNza) | (with_reducible exact kS.out _ BN9) | (with_reducible exact kS.out _ (BN9.alloc BN9.size _)) | (with_reducible exact kS.out _ BN10) | (with_reducible exact kS.out _ (BN10.alloc BN10.size _)) | (exact kS.out _ ((BN10.setCell hz10 _).setCell hz10 _)) | fail))
          ((first
            | (go_at_call 37; (with_reducible refine kma.out.mono ?_); rintro e w9 ⟨A9, n9, c9, rfl, hn9, hr9, hb9, hf9⟩
               have BN9 := BNa.trans (hb9.mono BNa.size))
            | (go_at_call 37; (with_reducible refine kmaz.out.mono ?_); rintro e w9 ⟨A9, n9, c9, rfl, hn9, hr9, hb9, hf9⟩
               have BN9 := BNaz.trans (hb9.mono BNaz.size)
               have hzb : Blk w9 (w8.heap.size + 1) 36 #[.int .i64 0, .int .i64 0] := Blk.below (show Blk ((w8.alloc (.cells #[.int .i64 (v : Nat)] 3)).alloc (.cells #[.int .i64 0, .int .i64 0] 36)).drew (w8.heap.size + 1) 36 #[.int .i64 0, .int .i64 0] from Blk.new' _ _ _ (by simp)) hb9 (by simp)
               have hz10 : w6.heap.size ≤ w8.heap.size + 1 := by omega)
            | (go_at_call 37; (with_reducible refine kmza.out.mono ?_); rintro e w9 ⟨A9, n9, c9, rfl, hn9, hr9, hb9, hf9⟩
               have BN9 := BNza.trans (hb9.mono BNza.size)
               have hzb : Blk w9 w8.heap.size 36 #[.int .i64 0, .int .i64 0] := Blk.below (show Blk ((w8.alloc (.cells #[.int .i64 0, .int .i64 0] 36)).alloc (.cells #[.int .i64 (v : Nat)] 3)).drew w8.heap.size 36 #[.int .i64 0, .int .i64 0] from (Blk.new w8 36 #[.int .i64 0, .int .i64 0]).alloc (.cells #[.int .i64 (v : Nat)] 3)) hb9 (by simp; omega)
               have hz10 : w6.heap.size ≤ w8.heap.size := by omega)
            | (go_at_call 42; (with_reducible refine (kden.out A9 n9 c9 _ (E6.below BN9 (Nat.le_refl _)) hr9 (by have := hr9.len; have := hmn.out.1; omega)).mono ?_); rintro e w10 ⟨rfl, hb10⟩
               have BN10 := BN9.trans (hb10.mono BN9.size)
               try (replace hzb := Blk.below hzb hb10 hzb.lt; have z0 := Blk.cell hzb 0; have z1 := Blk.cell hzb 1; have f0 := Blk.frozen hzb 0; have f1 := Blk.frozen hzb 1; simp at z0 z1))
            | (go_at_call 42; (with_reducible refine (kden.out A9 n9 c9 _ ((E6.below BN9 (Nat.le_refl _)).alloc (.cells #[.int .i64 0, .int .i64 0] 36)) (hr9.alloc (.cells #[.int .i64 0, .int .i64 0] 36)) (by have := hr9.len; have := hmn.out.1; omega)).mono ?_); rintro e w10 ⟨rfl, hb10⟩
               have BN10 := (BN9.alloc BN9.size (.cells #[.int .i64 0, .int .i64 0] 36)).trans (hb10.mono (BN9.alloc BN9.size (.cells #[.int .i64 0, .int .i64 0] 36)).size)
               have hzb : Blk w10 w9.heap.size 36 #[.int .i64 0, .int .i64 0] := Blk.below (Blk.new w9 36 #[.int .i64 0, .int .i64 0]) hb10 (by simp)
               have hz10 : w6.heap.size ≤ w9.heap.size := BN9.size
               have z0 := Blk.cell hzb 0; have z1 := Blk.cell hzb 1; have f0 := Blk.frozen hzb 0; have f1 := Blk.frozen hzb 1; simp at z0 z1)
            | fail)))
        all_goals go_wp2_with fail
        all_goals go_meet
        all_goals (first
          | exact ⟨_, rfl, Blk.new _ _ _, BN10.alloc BN10.size _⟩
          | exact ⟨_, rfl, Blk.set (Blk.set hzb 0 (.int .i64 a)) 1 (.int .i64 b), (BN10.setCell hz10 (.int .i64 a)).setCell hz10 (.int .i64 b)⟩)
      case rest =>
        obtain ⟨gy, rfl, F10, BX⟩ := hcut
        obtain ⟨W10, rfl⟩ : ∃ W10, W10 = wc := ⟨_, rfl⟩
        obtain ⟨y0, y1⟩ := (⟨Blk.cell F10 0, Blk.cell F10 1⟩ : _ ∧ _)
        simp at y0 y1
        have p0 := Blk.below D6 BX dl
        have p1 := Blk.cell p0 1
        have p2 := Blk.cell p0 2
        simp at p1 p2
        have szx := BX.size
        clear BNa BNz BNaz BNza BN0 kma kmaz kmza kden hmn hmh hgl p0 F10
        go_upto_region 10 with fail
        clear hvb hv64 hx64 hp64 hN hg64 hnb hml hcy Sr Er hel hlen i1 S6 E6 D6 G6 q0 q1 q2 d0 d1 hnl hok hT6 hDBh hz sz8 hn9 hnp hns hs2
        go_wp2_with (first
          | (go_at_call 21; (with_reducible refine (kcm.out _).mono ?_); rintro e w11 ⟨rfl, hb11⟩)
          | fail)
        go_roundw
        case rel => exact ⟨k + 1, by omega, by go_num, BX.trans (hb11.mono BX.size)⟩
        case measure => simp [intOf]; omega
    · obtain rfl : k = ns := by omega
      have i0 : ¬ (k : Int) < (k : Int) := by omega
      obtain ⟨r0, r1, r2⟩ := kS.out _ hb
      have Br := B6.trans (hb.mono B6.size)
      have ka := Lib.hid (awake19_any wr (hT.keep Br))
      by_cases hm1 : 0 < m
      · have j0 : (0 : Int) < (m : Int) := by omega
        clear hDBh hnl
        go_wp2_with (first
          | (go_at_call 45; (with_reducible refine ka.out.mono ?_); rintro e w7 ⟨rfl, hb7⟩)
          | fail)
        go_ret
        exact ⟨rfl, Br.trans (hb7.mono Br.size)⟩
      · have hkn : k = n := by
          have hes : es = [] := List.eq_nil_of_length_eq_zero (by have := E6.len; omega)
          rw [hnl.out]
          have := hDBh.out
          rw [hes] at this
          exact this.all_of_nil (by omega)
        have j0 : ¬ (0 : Int) < (m : Int) := by omega
        have j1 : ((k : Int) == (n : Int)) = true := by rw [hkn]; simp
        clear hDBh hnl hm1 hkn E6 S6 hel hlen hmcc hns hns64 hn9 hk D6 G6 hx64 hp64 hN hnp
        go_wp2_with (first
          | (go_at_call 45; (with_reducible refine ka.out.mono ?_); rintro e w7 ⟨rfl, hb7⟩)
          | fail)
        go_ret
        exact ⟨rfl, Br.trans (hb7.mono Br.size)⟩
end Go.Proofs.YticekkjambkifaaDoor.Fl
