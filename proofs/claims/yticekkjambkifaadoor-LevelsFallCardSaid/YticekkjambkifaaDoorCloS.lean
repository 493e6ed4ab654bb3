/- Package closure: Solve. -/
import Derived.Test.YticekkjambkifaaDoorZag
import Derived.StillTailTactics
set_option linter.unusedVariables false
set_option linter.unusedSimpArgs false
namespace Go.Proofs.YticekkjambkifaaDoor.Fl
open Go.RowKit Go.Proofs.YticekkjambkifaaDoor CoBit

theorem nArcs_lt (bs : List Nat) (F D P : Nat) {c C : Nat} (h : c ≤ C) : (nArcs bs F D P c).length ≤ 2 * C := Nat.le_trans (nArcs_len bs F D P c) (by omega)
/-- The parts that the edges give to their first ends. -/
def partL (es : List (Int × Int)) (bs : List Nat) (C F D P : Nat) (L : List Nat) (i : Nat) : List Int := (List.range i).map fun j => (D : Int) - (flw L ((nArcs bs F D P C).length + 3 * j + 2) : Nat)
def RetBest (w : World) (es : List (Int × Int)) (bs : List Nat) (C F D P : Nat) (e : Ending) (w' : World) : Prop := ∃ (x : Nat) (A : Option Addr) (n c : Nat) (L : List Nat) (S : Nat → Bool), e = .returned (.agg #[.int .u64 (x : Nat), .slice A n c]) ∧ MinCut (netA es bs C F D P) 0 1 L S ∧ (∀ v, x.testBit v = (F.testBit v && S (2 + v))) ∧ RI w' A n (partL es bs C F D P L es.length) ∧ n ≤ c ∧ Fr w.heap.size A ∧ Below w.heap.size w w'
attribute [local irreducible] wpStill wpQuiet in
set_option maxRecDepth 100000 in
set_option maxHeartbeats 8000000 in
theorem solve_any (EA WA BA CA : Option Addr) (ec wc bc cc m C F P D : Nat) (es : List (Int × Int)) (bs : List Nat) (hp : Prb es bs C F) (w : World) (hE : RE w EA m es) (hW : RI w WA m (List.replicate m 1)) (hB : RI w BA C (nts bs)) (hC : RI w CA C (List.replicate C 1)) (hP : P ≤ 1048576) (hD : D ≤ 1048576) :
    Calls Tryd.prog 91 #[.agg #[.slice EA m ec, .slice WA m wc, .slice BA C bc, .slice CA C cc, .int .u64 (F : Nat), .int .u64 0], .agg #[.int .i64 (P : Nat), .int .i64 (D : Nat)]] w (RetBest w es bs C F D P) := by
  have hFl := mask_lt hp.small hp.sub
  have hm : m ≤ 4096 := by rw [← hE.len]; exact hp.elen
  have hC64 := hp.small
  obtain ⟨W, hW0⟩ : ∃ W, W = (((w.alloc (.cells #[.slice EA m ec, .slice WA m wc, .slice BA C bc, .slice CA C cc, .int .u64 (F : Nat), .int .u64 0] 114)).alloc (.cells #[.int .i64 (P : Nat), .int .i64 (D : Nat)] 36)).alloc (.cells #[.int .u64 0, .slice none 0 0] 111)).alloc (.cells #[.int .i64 (2 + (C : Int) + (m : Int)), .int .i64 0, .int .i64 1, .slice none 0 0] 152) := ⟨_, rfl⟩
  have bP : Blk W w.heap.size 114 #[.slice EA m ec, .slice WA m wc, .slice BA C bc, .slice CA C cc, .int .u64 (F : Nat), .int .u64 0] := by rw [hW0]; exact (((Blk.new' _ _ _ (by simp)).alloc _).alloc _).alloc _
  have bF : Blk W (w.heap.size + 1) 36 #[.int .i64 (P : Nat), .int .i64 (D : Nat)] := by rw [hW0]; exact ((Blk.new' _ _ _ (by simp)).alloc _).alloc _
  have bR : Blk W (w.heap.size + 2) 111 #[.int .u64 0, .slice none 0 0] := by rw [hW0]; exact (Blk.new' _ _ _ (by simp)).alloc _
  have bN : Blk W (w.heap.size + 3) 152 #[.int .i64 (2 + (C : Int) + (m : Int)), .int .i64 0, .int .i64 1, .slice none 0 0] := by rw [hW0]; exact Blk.new' _ _ _ (by simp)
  have BW : Below w.heap.size w W := by rw [hW0]; exact ((((Below.refl _ w).alloc (Nat.le_refl _) _).alloc (by simp) _).alloc (by simp; omega) _).alloc (by simp; omega) _
  have hWs : W.heap.size = w.heap.size + 4 := by rw [hW0]; simp
  obtain ⟨NN, hNN⟩ : ∃ NN : Nat, NN = 2 + C + m := ⟨_, rfl⟩
  have hNi : (2 : Int) + (C : Int) + (m : Int) = (NN : Int) := by omega
  rw [hNi] at bN
  replace bP := Lib.hid bP
  replace bF := Lib.hid bF
  replace bR := Lib.hid bR
  replace bN := Lib.hid bN
  replace BW := Lib.hid BW
  replace hWs := Lib.hid hWs
  replace hp := Lib.hid hp
  replace hNN := Lib.hid hNN
  replace hNi := Lib.hid hNi
  replace hW0 := Lib.hid hW0
  go_enter Tryd.func91, Tryd.ntmps91
  go_upto_region 2 with fail
  rw [← hW0.out]
  have hWW : w.heap.size < W.heap.size := by have := hWs.out; omega
  generalize hq3 : w.heap.size + 1 + 1 + 1 = b3
  generalize hq2 : w.heap.size + 1 + 1 = b2
  generalize hq1 : w.heap.size + 1 = b1
  generalize hq0 : w.heap.size = b0
  have hb : Hid (b0 = w.heap.size ∧ b1 = b0 + 1 ∧ b2 = b0 + 2 ∧ b3 = b0 + 3 ∧ W.heap.size = b0 + 4) := Lib.hid ⟨hq0.symm, by omega, by omega, by omega, by have := hWs.out; omega⟩
  have cP := bP.out
  have cF := bF.out
  have cR := bR.out
  have cN := bN.out
  rw [show w.heap.size + 3 = b3 by omega] at cN
  rw [show w.heap.size + 2 = b2 by omega] at cR
  rw [hq1] at cF
  rw [hq0] at cP hWW
  clear hq0 hq1 hq2 hq3 hWs hW0 bP bF bR bN
  have p0 := Blk.cell cP 0
  have p1 := Blk.cell cP 1
  have p2 := Blk.cell cP 2
  have p3 := Blk.cell cP 3
  have p4 := Blk.cell cP 4
  have p5 := Blk.cell cP 5
  have q0 := Blk.cell cF 0
  have q1 := Blk.cell cF 1
  simp at p0 p1 p2 p3 p4 p5 q0 q1
  clear cP cF
  replace cR := Lib.hid cR
  go_upto_region 4 with fail
  go_loopw [35] (fun i wr => ∃ (k : Nat) (v : Value), k ≤ C ∧ i = .int .i64 (k : Nat) ∧ Blk wr b3 152 #[.int .i64 (NN : Nat), .int .i64 0, .int .i64 1, v] ∧ OS AE 154 wr (b3 + 1) v (nArcs bs F D P k) ∧ Same (fun k => k = b3) W wr) (fun i _ => C - (intOf i).toNat)
  case atStart => exact ⟨0, _, Nat.zero_le _, rfl, cN, OS.nil_, Same.refl _ _⟩
  case round =>
    obtain ⟨k, v, hk, rfl, hN, hO, hs⟩ := hrel
    by_cases hlt : k < C
    -- BL1
    · have i0 : (k : Int) < (C : Int) := by omega
      have i1 : (0 : Int) ≤ (k : Int) := by omega
      have hx := hb.out
      have hbw : Below w.heap.size w wr := BW.out.trans (hs.below (by omega) (fun k hk => by omega))
      have kp : ∀ {b o : Nat} {u : Value}, b = b0 ∨ b = b1 → W.cell? ⟨b, o, none⟩ = some u → wr.cell? ⟨b, o, none⟩ = some u := fun {b o u} hbb hu => (hs.cell (p := ⟨b, o, none⟩) (show b < W.heap.size by omega) (show ¬ b = b3 by omega)).trans hu
      obtain ⟨cd, yc, rfl, hyc, hcc⟩ := (RI.below hC hbw (Nat.le_refl _)).get hlt
      obtain rfl : yc = 1 := by
        have := hyc.out
        rw [List.getElem?_replicate, if_pos hlt] at this
        injection this with this; exact this.symm
      have r4 := kp (.inl rfl) p4
      have r5 := kp (.inl rfl) p5
      have r2 := kp (.inl rfl) p2
      have t0 := kp (.inr rfl) q0
      have t1 := kp (.inr rfl) q1
      have e1 := u64_bit' hFl (show k < 64 by omega)
      have kb := Lib.hid (fun w => bit_same k (show k < 64 by omega) w)
      have e2 : ∀ z : Nat, z < 18446744073709551616 → bits .andNot .u64 (z : Int) 0 = (z : Int) := fun z hz => by
        have := u64_andNot_nat z 0 hz (by omega)
        rw [show (18446744073709551615 - 0 : Nat) = 2 ^ 64 - 1 by decide, Nat.and_two_pow_sub_one_of_lt_two_pow (by simpa using hz)] at this
        exact this
      have hpl := two_pow_lt (show k < 64 by omega)
      have hpp : 0 < 2 ^ k := Nat.two_pow_pos k
      cases hF : F.testBit k with
      | false =>
        rw [hF, if_neg (by simp)] at e1
        have e3 : bits .andNot .u64 0 0 = 0 := e2 0 (by omega)
        have hst : Hid (nArcs bs F D P (k + 1) = nArcs bs F D P k) := Lib.hid (by rw [nArcs_succ]; unfold nArc; rw [hF, if_neg (by simp), List.append_nil])
        clear e2 hx kp hbw hpl hpp hF
        go_wp2_with fail
        go_quiet (first | (go_at_call 97; exact Calls.quiet_of_same (kb.out _)) | fail)
        go_wp2_with fail
        go_roundw
        case rel => exact ⟨k + 1, v, by omega, by go_num, hN.drewN _, by rw [hst.out]; exact hO.drewN _, hs.drewN _⟩
        case measure => simp [intOf]; omega
      | true =>
        rw [hF, if_pos rfl] at e1
        have e3 := e2 (2 ^ k) hpl
        generalize (2 : Nat) ^ k = pk at *
        have e4 : ((pk : Int) != 0) = true := by simp; omega
        obtain ⟨bd, yb, rfl, hyb, hcb⟩ := (RI.below hB hbw (Nat.le_refl _)).get hlt
        obtain ⟨b, rfl, hbb⟩ := nts_nat hyb.out
        have hbm : b ≤ 4096 := hp.out.bsm b (List.mem_of_getElem? hbb)
        have hst : Hid (nArcs bs F D P (k + 1) = nArcs bs F D P k ++ [(0, 2 + k, b * D)] ++ [(2 + k, 1, P)]) := Lib.hid (by
          rw [nArcs_succ]; unfold nArc; rw [hF, if_pos rfl, getD_nat hbb, List.append_assoc]; rfl)
        have hbD : b * D ≤ 4096 * 1048576 := Nat.mul_le_mul hbm hD
        have hmul : IntKind.i64.wrap ((b : Int) * (D : Int)) = ((b * D : Nat) : Int) := by
          rw [← Int.natCast_mul]
          generalize b * D = z at *
          simp [IntKind.wrap, IntKind.bits, IntKind.signed]; omega
        have hln := nArcs_lt bs F D P hk
        have hbo : bd.block < w.heap.size := by
          obtain ⟨ad', hA', hb'⟩ := hB.2 (by omega)
          injection hA' with hA'; rw [hA']; exact hb'.1
        generalize b * D = bD at *
        clear e2 hpl hpp hF kp hyb hbb hbD hx
        go_upto_region 6 with fail
        go_quiet (first | (go_at_call 97; exact Calls.quiet_of_same (kb.out _)) | fail)
        have hN1 := hN.drewN nq
        have hO1 := hO.drewN nq
        have hs1 := hs.drewN nq
        have x2 : (wr.drewN nq).cell? ⟨b0, 2, none⟩ = some (.slice (some bd) C bc) := r2
        have x3 : (wr.drewN nq).cell? ⟨b1, 1, none⟩ = some (.int .i64 (D : Nat)) := t1
        have x4 : (wr.drewN nq).cell? (bd.add k) = some (.int .i64 (b : Nat)) := hcb
        have x5 : (wr.drewN nq).cell? ⟨b1, 0, none⟩ = some (.int .i64 (P : Nat)) := t0
        clear hN hO hs r4 r5 r2 t0 t1 hcb hcc
        generalize wr.drewN nq = w1 at *
        go_upto_region 7 with fail
        have hB3 : b3 + 1 = W.heap.size := by have := hb.out; omega
        have k1 := Lib.hid (arc_at b3 (b3 + 1) 0 (2 + k) bD NN v (nArcs bs F D P k) w1.drew hN1 hO1 (Nat.lt_succ_self _) (by rw [hB3]; exact hs1.size) (by omega) 0 (2 + (k : Int)) (bD : Int) (by simp) (by omega) rfl)
        refine wp_region_still_tail 11 (by kernel_rfl) (by kernel_rfl) ?_
        simp only [List.take_succ_cons, List.take_zero, List.drop_succ_cons, List.drop_zero]
        change wpStill _ _ w1.drew _ _ _
        repeat still_step
        refine wpStill_nil ?_
        change wpList _ _ _ _ _ w1.drew
        have y5 : w1.drew.cell? ⟨b1, 0, none⟩ = some (.int .i64 (P : Nat)) := x5
        have hs2 := hs1.drew
        have hvb := hO1.block_lt
        clear x2 x3 x4 x5 hN1 hO1 hs1
        generalize w1.drew = X1 at *
        replace hB3 := Lib.hid hB3
        go_upto_region 8 with (first | (go_at_call 116; (with_reducible refine k1.out.mono ?_); intro e w2 hq; obtain ⟨v2, rfl, hN2, hO2, s2, ho2⟩ := hq) | fail)
        clear k1
        have hb' := hb.out
        have y6 := (s2.cell (p := ⟨b1, 0, none⟩) (World.block_lt_of_cell? X1 _ y5) (fun e => by rcases e with e | e; (· have e' : b1 = b3 := e; omega); (· have := hvb b1 e; omega))).trans y5
        have hs3 : Same (fun k => k = b3) W w2 := hs2.trans s2 (fun k' hk' e => by
          rcases e with e | e
          · exact e
          · have h1 := (hvb k' e).1
            omega)
        have k2 := Lib.hid (arc_at b3 (b3 + 1) (2 + k) 1 P NN v2 (nArcs bs F D P k ++ [(0, 2 + k, bD)]) w2 hN2 hO2 (Nat.lt_succ_self _) (by rw [hB3.out]; exact hs3.size) (by rw [List.length_append]; simp; omega) (2 + (k : Int)) 1 (P : Int) (by omega) (by simp) rfl)
        have hvb2 := hO2.block_lt
        clear hb' hs2 s2 ho2 y5 hN2 hO2 hvb
        go_upto_region 9 with (first | (go_at_call 116; (with_reducible refine k2.out.mono ?_); intro e w3 hq; obtain ⟨v3, rfl, hN3, hO3, s3, ho3⟩ := hq) | fail)
        rw [← hst.out] at hO3
        have hs4 : Same (fun k => k = b3) W w3 := hs3.trans s3 (fun k' hk' e => by
          rcases e with e | e
          · exact e
          · have h1 := (hvb2 k' e).1
            have h2 := hB3.out
            omega)
        clear hs3 s3 ho3 y6 hvb2 k2
        go_wp2_with fail
        go_roundw
        case rel => exact ⟨k + 1, v3, by omega, by go_num, hN3, hO3, hs4⟩
        case measure => simp [intOf]; omega
    -- EL1
    · obtain rfl : C = k := by omega
      have i0 : ¬ (C : Int) < (C : Int) := by omega
      have hx := hb.out
      have kp : ∀ {b o : Nat} {u : Value}, b = b0 ∨ b = b1 → W.cell? ⟨b, o, none⟩ = some u → wr.cell? ⟨b, o, none⟩ = some u := fun {b o u} hbb hu => (hs.cell (p := ⟨b, o, none⟩) (show b < W.heap.size by omega) (show ¬ b = b3 by omega)).trans hu
      have r0 := kp (.inl rfl) p0
      obtain ⟨o, ho⟩ : ∃ o, o = (nArcs bs F D P C).length := ⟨_, rfl⟩
      have hol : o ≤ 128 := by have := nArcs_lt bs F D P (Nat.le_refl C); omega
      obtain ⟨A0, hA0⟩ : ∃ A0, A0 = nArcs bs F D P C := ⟨_, rfl⟩
      rw [← hA0] at hO ho
      replace ho := Lib.hid ho
      replace hA0 := Lib.hid hA0
      have hvb := hO.block_lt
      obtain ⟨w4, rfl⟩ : ∃ w4, w4 = wr := ⟨_, rfl⟩
      clear hx kp cN hk hlt
      go_upto_region 10 with fail
      go_upto_region 11 with (at_make; refine wpList_makeP rfl _ _ rfl rfl rfl (n := m) rfl rfl (by omega) ?_; intro w5 cs hg hcs hgr)
      have hwg := hgr.size
      have hb5 := grown_none_below hgr w4.heap.size (Nat.le_refl _)
      have hN5 := Blk.below hN hb5 hN.lt
      have hO5 := hO.below hb5 (Nat.le_refl _)
      have hs5 := hs.bel hb5 hs.size
      have hng : ∀ k, v.ownBlock = some k → k ≠ w4.heap.size := fun k hk e => by have := (hvb k hk).2; omega
      have hg3 : w4.heap.size ≠ b3 := by have := hN.lt; omega
      have hgW : W.heap.size ≤ w4.heap.size := hs.size
      generalize hg1 : w4.heap.size = g1 at *
      have hB3 : Hid (b3 + 1 = W.heap.size) := Lib.hid (by have := hb.out; omega)
      have r0' := (hs5.cell (p := ⟨b0, 0, none⟩) (show b0 < W.heap.size by omega) (show ¬ b0 = b3 by have := hb.out; omega)).trans p0
      replace hcs := Lib.hid hcs
      replace hng := Lib.hid hng
      clear hO hN hs hgr hb5 hwg hg1 r0 hvb
      go_upto_region 12 with fail
      go_loopw [77] (fun i wr => ∃ (k : Nat) (v : Value) (cs : Array Value), k ≤ m ∧ i = .int .i64 (k : Nat) ∧ Blk wr b3 152 #[.int .i64 (NN : Nat), .int .i64 0, .int .i64 1, v] ∧ OS AE 154 wr (b3 + 1) v (A0 ++ eArcs es C D k) ∧ Blk wr g1 157 cs ∧ Hid (cs.size = m * 2 ∧ FS cs o k) ∧ Hid (∀ q, v.ownBlock = some q → q ≠ g1) ∧ Same (fun k => k = b3) W wr) (fun i _ => m - (intOf i).toNat)
      case atStart => exact ⟨0, _, _, Nat.zero_le _, rfl, hN5, by rw [show eArcs es C D 0 = [] from rfl, List.append_nil]; exact hO5, hg, Lib.hid ⟨hcs.out, fun j hj => absurd hj (Nat.not_lt_zero _)⟩, hng, hs5⟩
      case round =>
        clear hN5 hO5 hg hcs hng hs5
        obtain ⟨k, v, cs, hk, rfl, hN, hO, hg, hcs, hng, hs⟩ := hrel
        by_cases hlt : k < m
        -- BL2
        · have i0 : (k : Int) < (m : Int) := by omega
          have i1 : (0 : Int) ≤ (k : Int) := by omega
          have hx := hb.out
          have hbw : Below w.heap.size w wr := BW.out.trans (hs.below (by omega) (fun k hk => by omega))
          have kp : ∀ {b o : Nat} {u : Value}, b = b0 ∨ b = b1 → W.cell? ⟨b, o, none⟩ = some u → wr.cell? ⟨b, o, none⟩ = some u := fun {b o u} hbb hu => (hs.cell (p := ⟨b, o, none⟩) (show b < W.heap.size by omega) (show ¬ b = b3 by omega)).trans hu
          obtain ⟨ad, a, b, rfl, hab, he, e0, e1⟩ := (RE.below hE hbw (Nat.le_refl _)).get hlt
          obtain ⟨u, v', huv, h2, h3, h4, h5⟩ := hp.out.at_ (i := k) (by rw [hE.len]; exact hlt)
          have hek : es.getD k (0, 0) = (a, b) := by rw [List.getD_eq_getElem?_getD, he.out]; rfl
          rw [hek] at huv
          injection huv with hu hv
          subst hu; subst hv
          obtain ⟨wd, y, rfl, hy, hcy⟩ := (RI.below hW hbw (Nat.le_refl _)).get hlt
          obtain rfl : y = 1 := by
            have := hy.out
            rw [List.getElem?_replicate, if_pos hlt] at this
            injection this with this; exact this.symm
          have r1 := kp (.inl rfl) p1
          have r3 := kp (.inl rfl) p3
          have r5 := kp (.inl rfl) p5
          have t1 := kp (.inr rfl) q1
          have hst : Hid (eArcs es C D (k + 1) = eArcs es C D k ++ [(0, 2 + C + k, D)] ++ [(2 + C + k, 2 + u, D)] ++ [(2 + C + k, 2 + v', D)]) := Lib.hid (by
            rw [eArcs_succ, hek]; simp [eArc])
          have hwb : wd.block < w.heap.size := by
            obtain ⟨ad', hA', hb'⟩ := hW.2 (by omega)
            injection hA' with hA'; rw [hA']; exact hb'.1
          have hal : Hid ((A0 ++ eArcs es C D k).length = o + 3 * k) := Lib.hid (by rw [List.length_append, eArcs_len, ho.out])
          have hsw := hs.size
          have hgw := hg.lt
          have hvb := hO.block_lt
          clear hek he hy hx kp hbw
          go_upto_region 14 with fail
          have bE := Blk.new wr 73 #[.int .i64 (u : Nat), .int .i64 (v' : Nat)]
          have N6 := hN.alloc (.cells #[.int .i64 (u : Nat), .int .i64 (v' : Nat)] 73)
          have O6 := hO.alloc (.cells #[.int .i64 (u : Nat), .int .i64 (v' : Nat)] 73)
          have G6 := hg.alloc (.cells #[.int .i64 (u : Nat), .int .i64 (v' : Nat)] 73)
          have S6 := hs.alloc (.cells #[.int .i64 (u : Nat), .int .i64 (v' : Nat)] 73)
          have z1 := kept_alloc r1 (.cells #[.int .i64 (u : Nat), .int .i64 (v' : Nat)] 73)
          have z3 := kept_alloc r3 (.cells #[.int .i64 (u : Nat), .int .i64 (v' : Nat)] 73)
          have zt := kept_alloc t1 (.cells #[.int .i64 (u : Nat), .int .i64 (v' : Nat)] 73)
          have zc := (World.cell?_alloc_lt wr (.cells #[.int .i64 (u : Nat), .int .i64 (v' : Nat)] 73) _ (World.block_lt_of_cell? wr _ hcy)).trans hcy
          clear hN hO hg hs r1 r3 r5 t1 hcy e0 e1
          generalize wr.alloc (.cells #[.int .i64 (u : Nat), .int .i64 (v' : Nat)] 73) = w6 at *
          generalize wr.heap.size = eb at *
          have ee0 := Blk.cell bE 0
          have ee1 := Blk.cell bE 1
          simp at ee0 ee1
          go_upto_region 15 with fail
          go_quiet (fail)
          have N7 := N6.drewN nq
          have O7 := O6.drewN nq
          have G7 := G6.drewN nq
          have S7 := S6.drewN nq
          have ef0 : (w6.drewN nq).cell? ⟨eb, 0, none⟩ = some (.int .i64 (u : Nat)) := ee0
          have ef1 : (w6.drewN nq).cell? ⟨eb, 1, none⟩ = some (.int .i64 (v' : Nat)) := ee1
          have bE7 := bE.drewN nq
          clear N6 O6 G6 S6 z1 z3 zt zc ee0 ee1 bE
          generalize w6.drewN nq = w7 at *
          have k1 := Lib.hid (arc_at b3 (b3 + 1) 0 (2 + C + k) D NN v (A0 ++ eArcs es C D k) w7 N7 O7 (Nat.lt_succ_self _) (by rw [hB3.out]; exact S7.size) (by have := hal.out; omega) 0 (2 + (C : Int) + (k : Int)) (D : Int) (by simp) (by omega) rfl)
          go_upto_region 16 with fail
          go_upto_region 17 with (first | (go_at_call 116; (with_reducible refine k1.out.mono ?_); intro e w8 hq; obtain ⟨v8, rfl, N8, O8, s8, o8⟩ := hq) | fail)
          clear k1
          have hvW : ∀ q, v.ownBlock = some q → W.heap.size ≤ q := fun q hq => by have := (hvb q hq).1; have := hB3.out; omega
          obtain ⟨S8, G8, ng8⟩ := arc_keep S7 s8 hvW G7 hg3 hng.out o8
          have bE8 := s8.blk bE7 (fun e => by
            rcases e with e | e
            · have e' : eb = b3 := e
              have := hB3.out; omega
            · have := (hvb eb e).2; omega)
          have hcz := hcs.out.1
          obtain ⟨x0, hx0⟩ : ∃ x0, cs[k * 2]? = some x0 := ⟨_, Array.getElem?_eq_getElem (by omega)⟩
          obtain ⟨x1, hx1⟩ : ∃ x1, cs[k * 2 + 1]? = some x1 := ⟨_, Array.getElem?_eq_getElem (by omega)⟩
          have g0 := (Blk.cell G8 (k * 2)).trans hx0
          have g2 := (Blk.cell G8 (k * 2 + 1)).trans hx1
          have gf0 := Blk.frozen G8 (k * 2)
          have gf1 := Blk.frozen G8 (k * 2 + 1)
          have ef2 := Blk.cell bE8 0
          have ef3 := Blk.cell bE8 1
          simp at ef2 ef3
          replace hvW := Lib.hid hvW
          replace ng8 := Lib.hid ng8
          replace o8 := Lib.hid o8
          clear hcz hx0 hx1 S7 s8 N7 O7 G7 ef0 ef1 bE7 hvb
          obtain ⟨Sa, Na, Oa, Ga⟩ := cell_keep S8 N8 O8 G8 hgW hg3 ng8.out (k * 2) (.int .i64 (-1))
          obtain ⟨S9, N9, O9, G9⟩ := cell_keep Sa Na Oa Ga hgW hg3 ng8.out (k * 2 + 1) (.int .i64 (-1))
          have bE9 : Blk ((w8.setCell ⟨g1, k * 2, none⟩ (.int .i64 (-1))).setCell ⟨g1, k * 2 + 1, none⟩ (.int .i64 (-1))) eb 73 #[.int .i64 (u : Nat), .int .i64 (v' : Nat)] := (bE8.far (p := ⟨g1, k * 2, none⟩) (show eb ≠ g1 by omega) _).far (p := ⟨g1, k * 2 + 1, none⟩) (show eb ≠ g1 by omega) _
          have hcs9 : Hid (((cs.setIfInBounds (k * 2) (.int .i64 (-1))).setIfInBounds (k * 2 + 1) (.int .i64 (-1))).size = m * 2 ∧ FS ((cs.setIfInBounds (k * 2) (.int .i64 (-1))).setIfInBounds (k * 2 + 1) (.int .i64 (-1))) o k) := Lib.hid ⟨by rw [Array.size_setIfInBounds, Array.size_setIfInBounds]; exact hcs.out.1, (hcs.out.2.set (Nat.le_refl _) _).set (by omega) _⟩
          clear Sa Na Oa Ga S8 N8 O8 G8 bE8
          go_upto_region 18 with fail
          clear g0 g2 gf0 gf1 ef2 ef3
          have ef4 := Blk.cell bE9 0
          have ef5 := Blk.cell bE9 1
          simp at ef4 ef5
          generalize (w8.setCell ⟨g1, k * 2, none⟩ (.int .i64 (-1))).setCell ⟨g1, k * 2 + 1, none⟩ (.int .i64 (-1)) = w9 at *
          generalize (cs.setIfInBounds (k * 2) (.int .i64 (-1))).setIfInBounds (k * 2 + 1) (.int .i64 (-1)) = cs9 at *
          have x0 : ∀ w, (Instr.index 157 (.agg #[.int .i64 (u : Nat), .int .i64 (v' : Nat)]) (.int .i64 0)).run Tryd.prog w = .ok (.int .i64 (u : Nat)) w := fun _ => by kernel_rfl
          have x1 : ∀ w, (Instr.index 157 (.agg #[.int .i64 (u : Nat), .int .i64 (v' : Nat)]) (.int .i64 1)).run Tryd.prog w = .ok (.int .i64 (v' : Nat)) w := fun _ => by kernel_rfl
          go_upto_region 19 with fail
          clear ef4 ef5 bE9
          go_loopw [109] (fun i wr => ∃ (v : Value) (cs : Array Value) (al : List Ar), Blk wr b3 152 #[.int .i64 (NN : Nat), .int .i64 0, .int .i64 1, v] ∧ OS AE 154 wr (b3 + 1) v al ∧ Blk wr g1 157 cs ∧ Hid (cs.size = m * 2 ∧ FS cs o k) ∧ Hid (∀ q, v.ownBlock = some q → q ≠ g1) ∧ Same (fun k => k = b3) W wr ∧
            ((i = .int .i64 0 ∧ Hid (al = A0 ++ eArcs es C D k ++ [(0, 2 + C + k, D)])) ∨ (i = .int .i64 1 ∧ Hid (al = A0 ++ eArcs es C D k ++ [(0, 2 + C + k, D)] ++ [(2 + C + k, 2 + u, D)] ∧ cs[k * 2]? = some (.int .i64 ((o + 3 * k + 1 : Nat) : Int)))) ∨ (i = .int .i64 2 ∧ Hid (al = A0 ++ eArcs es C D k ++ [(0, 2 + C + k, D)] ++ [(2 + C + k, 2 + u, D)] ++ [(2 + C + k, 2 + v', D)] ∧ cs[k * 2]? = some (.int .i64 ((o + 3 * k + 1 : Nat) : Int)) ∧ cs[k * 2 + 1]? = some (.int .i64 ((o + 3 * k + 2 : Nat) : Int)))))) (fun i _ => 2 - (intOf i).toNat)
          case atStart => exact ⟨_, _, _, N9, O9, G9, hcs9, ng8, S9, .inl ⟨rfl, Lib.hid rfl⟩⟩
          case round =>
            clear N9 O9 G9 hcs9 ng8 S9
            obtain ⟨v, cs, al, N9, O9, G9, hcs9, hng9, S9, hcase⟩ := hrel
            rcases hcase with ⟨rfl, hal9⟩ | ⟨rfl, hal9⟩ | ⟨rfl, hal9⟩
            -- R1
            · have hal2 : Hid (al.length = o + 3 * k + 1) := Lib.hid (by rw [hal9.out, List.length_append, hal.out]; rfl)
              have r5 := (S9.cell (p := ⟨b0, 5, none⟩) (show b0 < W.heap.size by have := hb.out; omega) (show ¬ b0 = b3 by have := hb.out; omega)).trans p5
              have kb := Lib.hid (fun w => bit_same u (show u < 64 by omega) w)
              have e5 : bits .and .u64 ((bitN u : Nat) : Int) 0 = 0 := by
                have := u64_bit' (x := 0) (v := u) (by omega) (show u < 64 by omega)
                rw [Nat.zero_testBit, if_neg (by simp)] at this; exact this
              have hvb := O9.block_lt
              generalize bitN u = bx at *
              go_upto_region 21 with fail
              go_quiet (first | (go_at_call 97; exact Calls.quiet_of_same (kb.out _)) | fail)
              have N10 := N9.drewN nq
              have O10 := O9.drewN nq
              have G10 := G9.drewN nq
              have S10 := S9.drewN nq
              clear N9 O9 G9 S9 r5 e5 kb
              generalize wr.drewN nq = w10 at *
              go_upto_region 22 with fail
              have k1 := Lib.hid (arc_at b3 (b3 + 1) (2 + C + k) (2 + u) D NN v al w10.drew N10 O10 (Nat.lt_succ_self _) (by rw [hB3.out]; exact S10.size) (by have := hal2.out; omega) (2 + (C : Int) + (k : Int)) (IntKind.i64.wrap (2 + (u : Int))) (D : Int) (by omega) (by simp [IntKind.wrap, IntKind.bits, IntKind.signed]; omega) rfl)
              have hcz := hcs9.out.1
              obtain ⟨y0, hy0⟩ : ∃ y0, cs[k * 2]? = some y0 := ⟨_, Array.getElem?_eq_getElem (by omega)⟩
              have hvW : Hid (∀ q, v.ownBlock = some q → W.heap.size ≤ q) := Lib.hid fun q hq => by have := (hvb q hq).1; have := hB3.out; omega
              have S11 := S10.drew
              have G11 : Blk w10.drew g1 157 cs := G10
              replace hy0 := Lib.hid hy0
              clear hvb N10 O10 G10 S10 hcz
              go_region_held3 (fun _ => True) (trivial)
                ((first
                  | (go_at_call 116; (with_reducible refine k1.out.mono ?_); intro e w12 hq; obtain ⟨v12, rfl, N12, O12, s12, o12⟩ := hq; obtain ⟨S12, G12, ng12⟩ := arc_keep S11 s12 hvW.out G11 hg3 hng9.out o12; have g0 := (Blk.cell G12 (k * 2)).trans hy0.out; have gf0 := Blk.frozen G12 (k * 2); replace ng12 := Lib.hid ng12; clear s12 o12)
                  | fail))
              clear k1 S11 G11
              obtain ⟨S13, N13, O13, G13⟩ := cell_keep S12 N12 O12 G12 hgW hg3 ng12.out (k * 2) (.int .i64 (al.length : Nat))
              have hcs13 : Hid ((cs.setIfInBounds (k * 2) (.int .i64 (al.length : Nat))).size = m * 2 ∧ FS (cs.setIfInBounds (k * 2) (.int .i64 (al.length : Nat))) o k) := Lib.hid ⟨by rw [Array.size_setIfInBounds]; exact hcs9.out.1, hcs9.out.2.set (by omega) _⟩
              have hset : Hid ((cs.setIfInBounds (k * 2) (.int .i64 (al.length : Nat)))[k * 2]? = some (.int .i64 ((o + 3 * k + 1 : Nat) : Int))) := Lib.hid (by rw [Array.getElem?_setIfInBounds, if_pos rfl, if_pos (by have := hcs9.out.1; omega), hal2.out])
              go_wp2_with fail
              go_roundw
              case rel => exact ⟨_, _, _, N13, O13, G13, hcs13, ng12, S13, .inr (.inl ⟨by go_num, Lib.hid ⟨by rw [hal9.out], hset.out⟩⟩)⟩
              case measure => simp [intOf]
            · have hk0 := Lib.hid hal9.out.2
              replace hal9 := Lib.hid hal9.out.1
              have hal2 : Hid (al.length = o + 3 * k + 2) := Lib.hid (by rw [hal9.out, List.length_append, List.length_append, hal.out]; rfl)
              have r5 := (S9.cell (p := ⟨b0, 5, none⟩) (show b0 < W.heap.size by have := hb.out; omega) (show ¬ b0 = b3 by have := hb.out; omega)).trans p5
              have kb := Lib.hid (fun w => bit_same v' (show v' < 64 by omega) w)
              have e5 : bits .and .u64 ((bitN v' : Nat) : Int) 0 = 0 := by
                have := u64_bit' (x := 0) (v := v') (by omega) (show v' < 64 by omega)
                rw [Nat.zero_testBit, if_neg (by simp)] at this; exact this
              have hvb := O9.block_lt
              generalize bitN v' = bx at *
              go_upto_region 21 with fail
              go_quiet (first | (go_at_call 97; exact Calls.quiet_of_same (kb.out _)) | fail)
              have N10 := N9.drewN nq
              have O10 := O9.drewN nq
              have G10 := G9.drewN nq
              have S10 := S9.drewN nq
              clear N9 O9 G9 S9 r5 e5 kb
              generalize wr.drewN nq = w10 at *
              go_upto_region 22 with fail
              have k1 := Lib.hid (arc_at b3 (b3 + 1) (2 + C + k) (2 + v') D NN v al w10.drew N10 O10 (Nat.lt_succ_self _) (by rw [hB3.out]; exact S10.size) (by have := hal2.out; omega) (2 + (C : Int) + (k : Int)) (IntKind.i64.wrap (2 + (v' : Int))) (D : Int) (by omega) (by simp [IntKind.wrap, IntKind.bits, IntKind.signed]; omega) rfl)
              have hcz := hcs9.out.1
              obtain ⟨y0, hy0⟩ : ∃ y0, cs[k * 2 + 1]? = some y0 := ⟨_, Array.getElem?_eq_getElem (by omega)⟩
              have hvW : Hid (∀ q, v.ownBlock = some q → W.heap.size ≤ q) := Lib.hid fun q hq => by have := (hvb q hq).1; have := hB3.out; omega
              have S11 := S10.drew
              have G11 : Blk w10.drew g1 157 cs := G10
              replace hy0 := Lib.hid hy0
              clear hvb N10 O10 G10 S10 hcz
              go_region_held3 (fun _ => True) (trivial)
                ((first
                  | (go_at_call 116; (with_reducible refine k1.out.mono ?_); intro e w12 hq; obtain ⟨v12, rfl, N12, O12, s12, o12⟩ := hq; obtain ⟨S12, G12, ng12⟩ := arc_keep S11 s12 hvW.out G11 hg3 hng9.out o12; have g0 := (Blk.cell G12 (k * 2 + 1)).trans hy0.out; have gf0 := Blk.frozen G12 (k * 2 + 1); replace ng12 := Lib.hid ng12; clear s12 o12)
                  | fail))
              clear k1 S11 G11
              obtain ⟨S13, N13, O13, G13⟩ := cell_keep S12 N12 O12 G12 hgW hg3 ng12.out (k * 2 + 1) (.int .i64 (al.length : Nat))
              have hcs13 : Hid ((cs.setIfInBounds (k * 2 + 1) (.int .i64 (al.length : Nat))).size = m * 2 ∧ FS (cs.setIfInBounds (k * 2 + 1) (.int .i64 (al.length : Nat))) o k) := Lib.hid ⟨by rw [Array.size_setIfInBounds]; exact hcs9.out.1, hcs9.out.2.set (by omega) _⟩
              have hset : Hid ((cs.setIfInBounds (k * 2 + 1) (.int .i64 (al.length : Nat)))[k * 2 + 1]? = some (.int .i64 ((o + 3 * k + 2 : Nat) : Int))) := Lib.hid (by rw [Array.getElem?_setIfInBounds, if_pos rfl, if_pos (by have := hcs9.out.1; omega), hal2.out])
              have hset0 : Hid ((cs.setIfInBounds (k * 2 + 1) (.int .i64 (al.length : Nat)))[k * 2]? = some (.int .i64 ((o + 3 * k + 1 : Nat) : Int))) := Lib.hid (by rw [Array.getElem?_setIfInBounds, if_neg (by omega)]; exact hk0.out)
              go_wp2_with fail
              go_roundw
              case rel => exact ⟨_, _, _, N13, O13, G13, hcs13, ng12, S13, .inr (.inr ⟨by go_num, Lib.hid ⟨by rw [hal9.out], hset0.out, hset.out⟩⟩)⟩
              case measure => simp [intOf]
            -- E1
            · rw [hal9.out.1, List.append_assoc, List.append_assoc, List.append_assoc, ← List.append_assoc [(0, 2 + C + k, D)]] at O9
              have hst2 : Hid (A0 ++ (eArcs es C D k ++ ([(0, 2 + C + k, D)] ++ [(2 + C + k, 2 + u, D)] ++ [(2 + C + k, 2 + v', D)])) = A0 ++ eArcs es C D (k + 1)) := Lib.hid (by rw [hst.out]; simp)
              have hcs10 : Hid (cs.size = m * 2 ∧ FS cs o (k + 1)) := Lib.hid ⟨hcs9.out.1, hcs9.out.2.next hal9.out.2.1 hal9.out.2.2⟩
              clear hcs9 hal9
              go_wp2_with fail
              go_roundw
              case rel => exact ⟨k + 1, v, cs, by omega, by go_num, N9, by rw [← hst2.out]; exact O9, G9, hcs10, hng9, S9⟩
              case measure => simp [intOf]; omega
        -- EL2
        · obtain rfl : m = k := by omega
          have i0 : ¬ (m : Int) < (m : Int) := by omega
          have hac : Hid (A0 ++ eArcs es C D m = netA es bs C F D P) := Lib.hid (by unfold netA; rw [hA0.out, hE.len])
          rw [hac.out] at hO
          obtain ⟨AA, An, Ac, rfl, hAn, hAc, -, hAr, -⟩ := hO.form
          have hlA : (netA es bs C F D P).length = o + 3 * m := by rw [← hac.out, List.length_append, eArcs_len, ho.out]
          have hlE := hE.len
          have hcap : CapB (netA es bs C F D P) := fun k hk => by
            have hmem : (netA es bs C F D P).getD k (0, 0, 0) ∈ netA es bs C F D P := by rw [List.getD_eq_getElem?_getD, List.getElem?_eq_getElem hk]; exact List.getElem_mem hk
            exact netA_cap hp.out hP hD _ hmem
          have kB := Lib.hid (both_at NN (netA es bs C F D P) 0 1 AA An Ac wr hAr (by have := hNN.out; omega) (by omega) (fun a ha => by have := netA_ends hp.out a ha; have := hNN.out; omega) hcap (by have := hNN.out; omega) (by have := hNN.out; omega) (by omega) (NN : Int) 0 1 rfl (by simp) (by simp))
          have n0 := Blk.cell hN 0
          have n1 := Blk.cell hN 1
          have n2 := Blk.cell hN 2
          have n3 := Blk.cell hN 3
          simp at n0 n1 n2 n3
          have hswr := hs.size
          have hgs := hg.lt
          obtain ⟨w11, rfl⟩ : ∃ w11, w11 = wr := ⟨_, rfl⟩
          replace hAn := Lib.hid hAn
          replace hlA := Lib.hid hlA
          clear hO hAr hcap
          go_wp2_with fail
          with_reducible refine kB.out.mono ?_
          clear kB
          intro e w12 hq
          obtain ⟨FA, fm, fc, g6, val, L, R, rfl, hfr, hAB, hRl, hmin, hb12⟩ := hq
          have S12 : Same (fun k => k = b3) W w12 := hs.bel hb12 hswr
          have B12 : Below w.heap.size w w12 := BW.out.trans (S12.below (by have := hb.out; omega) (fun k hk e => by have := hb.out; omega))
          have hx := hb.out
          have kp : ∀ {b o : Nat} {u : Value}, b = b0 ∨ b = b1 → W.cell? ⟨b, o, none⟩ = some u → w12.cell? ⟨b, o, none⟩ = some u := fun {b o u} hbb hu => (S12.cell (p := ⟨b, o, none⟩) (show b < W.heap.size by omega) (show ¬ b = b3 by omega)).trans hu
          replace p0 := kp (.inl rfl) p0
          replace p1 := kp (.inl rfl) p1
          replace p2 := kp (.inl rfl) p2
          replace p3 := kp (.inl rfl) p3
          replace p4 := kp (.inl rfl) p4
          replace p5 := kp (.inl rfl) p5
          replace q0 := kp (.inr rfl) q0
          replace q1 := kp (.inr rfl) q1
          have G12 := Blk.below hg hb12 hgs
          have cR12 := Lib.hid (S12.blk cR.out (show ¬ b2 = b3 by omega))
          have hsz := hb12.size
          have hg6 := hAB.lt
          clear hx kp hg hs hN n0 n1 n2 n3 hb12 S12
          replace hfr := Lib.hid hfr
          replace hmin := Lib.hid hmin
          replace hRl := Lib.hid hRl
          go_upto_region 27 with fail
          have bB := Blk.new w12 111 #[.int .u64 0, .slice none 0 0]
          have hA13 := hAB.alloc (.cells #[.int .u64 0, .slice none 0 0] 111)
          have G13 := G12.alloc (.cells #[.int .u64 0, .slice none 0 0] 111)
          have cR13 := Lib.hid (cR12.out.alloc (.cells #[.int .u64 0, .slice none 0 0] 111))
          have B13 := B12.alloc B12.size (.cells #[.int .u64 0, .slice none 0 0] 111)
          have hfr13 := Lib.hid (RI.alloc hfr.out (.cells #[.int .u64 0, .slice none 0 0] 111))
          replace p0 := kept_alloc p0 (.cells #[.int .u64 0, .slice none 0 0] 111)
          replace p1 := kept_alloc p1 (.cells #[.int .u64 0, .slice none 0 0] 111)
          replace p2 := kept_alloc p2 (.cells #[.int .u64 0, .slice none 0 0] 111)
          replace p3 := kept_alloc p3 (.cells #[.int .u64 0, .slice none 0 0] 111)
          replace p4 := kept_alloc p4 (.cells #[.int .u64 0, .slice none 0 0] 111)
          replace p5 := kept_alloc p5 (.cells #[.int .u64 0, .slice none 0 0] 111)
          replace q0 := kept_alloc q0 (.cells #[.int .u64 0, .slice none 0 0] 111)
          replace q1 := kept_alloc q1 (.cells #[.int .u64 0, .slice none 0 0] 111)
          have hgB : Hid (b0 < w12.heap.size ∧ b1 < w12.heap.size ∧ g6 < w12.heap.size ∧ g1 < w12.heap.size ∧ w.heap.size ≤ w12.heap.size ∧ b2 < w12.heap.size) := Lib.hid ⟨by have := hb.out; omega, by have := hb.out; omega, hg6, by omega, B12.size, by have := hb.out; omega⟩
          have hFb : Hid (∀ ad, FA = some ad → 0 < fm → ad.block < w12.heap.size) := Lib.hid fun ad hA hp => by
            obtain ⟨ad', hA', hb'⟩ := hfr.out.2 hp
            rw [hA] at hA'; injection hA' with hA'; rw [hA']; exact hb'.1
          clear hAB G12 B12 hfr cR12
          generalize w12.alloc (.cells #[.int .u64 0, .slice none 0 0] 111) = w13 at *
          generalize w12.heap.size = gB at *
          have hgBs := bB.lt
          go_upto_region 28 with fail
          go_loopw [144] (fun i wr => ∃ (k x : Nat), k ≤ C ∧ i = .int .i64 (k : Nat) ∧ Blk wr gB 111 #[.int .u64 (x : Nat), .slice none 0 0] ∧ Hid (MK F (fun u => !R.getD u false) k x) ∧ Same (fun k => k = gB) w13 wr) (fun i _ => C - (intOf i).toNat)
          case atStart => exact ⟨0, 0, Nat.zero_le _, rfl, bB, Lib.hid (MK.zero _ _), Same.refl _ _⟩
          case round =>
            clear bB
            obtain ⟨k, x, hk, rfl, hBb, hM, hs⟩ := hrel
            by_cases hlt : k < C
            -- BL3
            · have i0 : (k : Int) < (C : Int) := by omega
              have i1 : (0 : Int) ≤ (k : Int) := by omega
              have hx := hgB.out
              have r4 := (hs.cell (p := ⟨b0, 4, none⟩) (show b0 < w13.heap.size by omega) (show ¬ b0 = gB by omega)).trans p4
              have r5 := (hs.cell (p := ⟨b0, 5, none⟩) (show b0 < w13.heap.size by omega) (show ¬ b0 = gB by omega)).trans p5
              have hA : AB wr g6 (R.map fun b => !b) := hs.blk hA13 (fun e => by have e' : g6 = gB := e; omega)
              obtain ⟨k2, hk2⟩ : ∃ k2, k2 = 2 + k := ⟨_, rfl⟩
              have hkR : k2 < R.length := by have := hRl.out; have := hNN.out; omega
              have sc := hA.cell (i := k2) (by rw [List.length_map]; exact hkR)
              rw [map_not_get hkR] at sc
              have e1 := u64_bit' hFl (show k < 64 by omega)
              have kb := Lib.hid (fun w => bit_same k (show k < 64 by omega) w)
              have hpl := two_pow_lt (show k < 64 by omega)
              have hpp : 0 < 2 ^ k := Nat.two_pow_pos k
              have hyes := fun hf => hM.out.yes (k := k) hf
              have hno := fun hf => hM.out.no (k := k) hf
              have hor := u64_orB (hM.out.lt (by omega)) (show k < 64 by omega)
              have hj0 : (0 : Int) ≤ (k2 : Int) := by omega
              have hj1 : (k2 : Int) < (NN : Int) := by have := hNN.out; omega
              have hw2 : IntKind.i64.wrap (2 + (k : Int)) = (k2 : Int) := by
                have : (2 : Int) + (k : Int) = (k2 : Int) := by omega
                rw [this]; simp [IntKind.wrap, IntKind.bits, IntKind.signed]; omega
              simp only [← hk2] at hyes hno
              generalize R.getD k2 false = rb at *
              generalize x ||| 2 ^ k = xk at *
              replace hyes := Lib.hid hyes
              replace hno := Lib.hid hno
              replace hk2 := Lib.hid hk2
              have h1s := hBb.lt
              cases hF : F.testBit k with
              | false =>
                rw [hF, if_neg (by simp)] at e1
                have e3 : bits .andNot .u64 0 0 = 0 := u64_and0 0 (by omega)
                have hM2 := Lib.hid (hno.out (by rw [hF]; rfl))
                clear hyes hno hpl hpp hF hx sc hA hkR hor
                go_wp2_with fail
                go_quiet (first | (go_at_call 97; exact Calls.quiet_of_same (kb.out _)) | fail)
                go_wp2_with fail
                go_roundw
                case rel => exact ⟨k + 1, x, by omega, by go_num, hBb.drewN _, hM2, hs.drewN _⟩
                case measure => simp [intOf]; omega
              | true =>
                rw [hF, if_pos rfl] at e1
                have e3 := u64_and0 (2 ^ k) hpl
                generalize (2 : Nat) ^ k = pk at *
                have e4 : ((pk : Int) != 0) = true := by simp; omega
                cases rb with
                | true =>
                  have hM2 := Lib.hid (hno.out (by rw [hF]; rfl))
                  simp only [Bool.not_true] at sc
                  clear hyes hno hpl hpp hF hx hA hkR hor
                  go_wp2_with fail
                  go_quiet (first | (go_at_call 97; exact Calls.quiet_of_same (kb.out _)) | fail)
                  go_wp2_with fail
                  go_roundw
                  case rel => exact ⟨k + 1, x, by omega, by go_num, hBb.drewN _, hM2, hs.drewN _⟩
                  case measure => simp [intOf]; omega
                | false =>
                  have hM2 := Lib.hid (hyes.out (by rw [hF]; rfl))
                  simp only [Bool.not_false] at sc
                  clear hyes hno hpl hpp hF hx hA hkR
                  go_wp2_with fail
                  go_quiet (first | (go_at_call 97; exact Calls.quiet_of_same (kb.out _)) | fail)
                  have hB2 := hBb.drewN nq
                  have hs2 := hs.drewN nq
                  clear hBb hs sc r4 r5
                  generalize wr.drewN nq = w14 at *
                  go_upto_region 31 with fail
                  have c0 := Blk.cell hB2 0
                  have f0 := Blk.frozen hB2 0
                  simp at c0
                  have hset := Blk.set hB2.drew 0 (.int .u64 (xk : Nat))
                  simp at hset
                  have hs3 := hs2.drew.trans (Same.set w14.drew gB 0 (.int .u64 (xk : Nat))) (fun k _ e => e)
                  refine wp_region_still_tail 6 (by kernel_rfl) (by kernel_rfl) ?_
                  simp only [List.take_succ_cons, List.take_zero, List.drop_succ_cons, List.drop_zero]
                  change wpStill _ _ w14.drew _ _ _
                  repeat (first | still_step | (refine wpStill_step (fun K hK => ?_); go_simp; refine ⟨_, kb.out _, ?_⟩; refine hK _ ?_; clear hK K))
                  refine wpStill_nil ?_
                  change wpList _ _ _ _ _ w14.drew
                  have c1 : w14.drew.cell? ⟨gB, 0, none⟩ = some (.int .u64 (x : Nat)) := c0
                  have f1 : w14.drew.frozen? ⟨gB, 0, none⟩ = false := f0
                  clear c0 f0 hB2 hs2
                  generalize w14.drew = w15 at *
                  go_wp2_with fail
                  go_roundw
                  case rel => exact ⟨k + 1, xk, by omega, by go_num, hset, hM2, hs3⟩
                  case measure => simp [intOf]; omega
            -- EL3
            · obtain rfl : C = k := by omega
              have i0 : ¬ (C : Int) < (C : Int) := by omega
              have hx := hgB.out
              have hM2 : Hid (∀ v, x.testBit v = (F.testBit v && !R.getD (2 + v) false)) := Lib.hid fun v => by
                rw [hM.out v]
                by_cases h : v < C
                · rw [decide_eq_true h, Bool.true_and]
                · rw [decide_eq_false h, Bool.false_and]
                  cases hF : F.testBit v with
                  | false => rfl
                  | true => exact absurd (hp.out.sub v hF) h
              have kq : ∀ {b o : Nat} {u : Value}, b = b0 ∨ b = b1 → w13.cell? ⟨b, o, none⟩ = some u → wr.cell? ⟨b, o, none⟩ = some u := fun {b o u} hbb hu => (hs.cell (p := ⟨b, o, none⟩) (show b < w13.heap.size by omega) (show ¬ b = gB by omega)).trans hu
              have r0 := kq (.inl rfl) p0
              have hfl : Hid (∀ a, a < o + 3 * m → (flws (netA es bs C F D P) L)[a]? = some (flw L a) ∧ flw L a ≤ 1099511627776) := Lib.hid fun a ha => by
                have hl : a < (netA es bs C F D P).length := by rw [hlA.out]; exact ha
                refine ⟨by unfold flws; rw [List.getElem?_map, List.getElem?_range hl]; rfl, ?_⟩
                have h1 := hmin.out.ok.cap hl
                have h2 := netA_cap hp.out hP hD ((netA es bs C F D P).getD a (0, 0, 0)) (by rw [List.getD_eq_getElem?_getD, List.getElem?_eq_getElem hl]; exact List.getElem_mem hl)
                have h3 : cpA (netA es bs C F D P) a = ((netA es bs C F D P).getD a (0, 0, 0)).2.2 := rfl
                omega
              have hfmE : Hid (fm = o + 3 * m) := Lib.hid (by
                have := hfr13.out.len
                unfold flws at this
                rw [nts_length, List.length_map, List.length_range, hlA.out] at this; omega)
              have hfm : fm ≤ 1048576 := by have := hfmE.out; omega
              have hgBe : Hid (b0 < w13.heap.size ∧ b1 < w13.heap.size ∧ g1 < w13.heap.size ∧ w.heap.size ≤ w13.heap.size ∧ b2 < w13.heap.size ∧ w.heap.size ≤ b2) := Lib.hid ⟨by omega, by omega, by omega, by omega, by omega, by have := hb.out; omega⟩
              have hkq := hk
              clear hx kq hM hA13
              obtain ⟨w20, rfl⟩ : ∃ w20, w20 = wr := ⟨_, rfl⟩
              go_upto_region 34 with fail
              go_loopw [173] (fun i wr => ∃ (k : Nat) (v : Value), k ≤ m ∧ i = .int .i64 (k : Nat) ∧ Blk wr gB 111 #[.int .u64 (x : Nat), v] ∧ OI wr w13.heap.size v (partL es bs C F D P L k) ∧ Same (fun k => k = gB) w13 wr) (fun i _ => m - (intOf i).toNat)
              case atStart => exact ⟨0, _, Nat.zero_le _, rfl, hBb, OI.nil_, hs⟩
              case round =>
                clear hBb hs r0
                obtain ⟨k, v, hk, rfl, hB2, hO2, hs2⟩ := hrel
                by_cases hlt : k < m
                · have i0 : (k : Int) < (m : Int) := by omega
                  have i1 : (0 : Int) ≤ (k : Int) := by omega
                  have hx := hgB.out
                  have bw : Below w.heap.size w wr := B13.trans (hs2.below B13.size (fun q hq e => by have e' : q = gB := e; omega))
                  obtain ⟨wd, y, rfl, hy, zw⟩ := (RI.below hW bw (Nat.le_refl _)).get hlt
                  obtain rfl : y = 1 := by
                    have := hy.out
                    rw [List.getElem?_replicate, if_pos hlt] at this
                    injection this with this; exact this.symm
                  have hwb : wd.block < w.heap.size := by
                    obtain ⟨ad', hA', hb'⟩ := hW.2 (by omega)
                    injection hA' with hA'; rw [hA']; exact hb'.1
                  have kq : ∀ {b o : Nat} {u : Value}, b = b0 ∨ b = b1 → w13.cell? ⟨b, o, none⟩ = some u → wr.cell? ⟨b, o, none⟩ = some u := fun {b o u} hbb hu => (hs2.cell (p := ⟨b, o, none⟩) (show b < w13.heap.size by omega) (show ¬ b = gB by omega)).trans hu
                  have z0 := kq (.inl rfl) p0
                  have z1 := kq (.inl rfl) p1
                  have z2 := kq (.inl rfl) p2
                  have z3 := kq (.inl rfl) p3
                  have z4 := kq (.inl rfl) p4
                  have z5 := kq (.inl rfl) p5
                  have zd := kq (.inr rfl) q1
                  have G16 := hs2.blk G13 (show ¬ g1 = gB by omega)
                  have ga := (Blk.cell G16 (k * 2)).trans (hcs.out.2 k hlt).1
                  have gb := (Blk.cell G16 (k * 2 + 1)).trans (hcs.out.2 k hlt).2
                  obtain ⟨hf0, hfb0⟩ := hfl.out (o + 3 * k + 1) (by omega)
                  obtain ⟨hf1, hfb1⟩ := hfl.out (o + 3 * k + 2) (by omega)
                  have hst : partL es bs C F D P L (k + 1) = partL es bs C F D P L k ++ [(D : Int) - (flw L (o + 3 * k + 2) : Nat)] := by
                    unfold partL
                    rw [List.range_succ, List.map_append, ← hA0.out, ← ho.out]; rfl
                  have hFr := Lib.hid (hs2.ri hfr13.out (fun ad hA hp e => by have := hFb.out ad hA hp; have e' : ad.block = gB := e; omega))
                  have hpl : Hid ((partL es bs C F D P L k).length = k) := Lib.hid (by unfold partL; rw [List.length_map, List.length_range])
                  generalize flw L (o + 3 * k + 1) = f0 at *
                  generalize flw L (o + 3 * k + 2) = f1 at *
                  generalize o + 3 * k + 1 = a0 at *
                  generalize o + 3 * k + 2 = a1 at *
                  replace hf0 := Lib.hid hf0
                  replace hf1 := Lib.hid hf1
                  replace hst := Lib.hid hst
                  obtain ⟨PA, pn, pc, rfl, hpn, hpc, -, -⟩ := hO2.form
                  replace hpn := Lib.hid hpn
                  have c1 := Blk.cell hB2 1
                  simp at c1
                  clear hx kq bw G16 hy
                  obtain ⟨w16, rfl⟩ : ∃ w16, w16 = wr := ⟨_, rfl⟩
                  go_upto_region 36 with fail
                  -- R2
                  obtain ⟨SS, hSS⟩ : ∃ SS : World → Prop, ∀ w', SS w' ↔ (w'.cell? ⟨gB, 1, none⟩ = some (.slice PA pn pc) ∧ w'.cell? ⟨b0, 0, none⟩ = some (.slice EA m ec) ∧ w'.cell? ⟨b0, 1, none⟩ = some (.slice (some wd) m wc) ∧ w'.cell? ⟨b0, 2, none⟩ = some (.slice BA C bc) ∧ w'.cell? ⟨b0, 3, none⟩ = some (.slice CA C cc) ∧ w'.cell? ⟨b0, 4, none⟩ = some (.int .u64 (F : Nat)) ∧ w'.cell? ⟨b0, 5, none⟩ = some (.int .u64 0) ∧ w'.cell? ⟨g1, k * 2, none⟩ = some (.int .i64 (a0 : Nat)) ∧ w'.cell? ⟨g1, k * 2 + 1, none⟩ = some (.int .i64 (a1 : Nat)) ∧ w'.cell? (wd.add k) = some (.int .i64 1) ∧ w'.cell? ⟨b1, 1, none⟩ = some (.int .i64 (D : Nat))) := ⟨fun w' => _, fun _ => Iff.rfl⟩
                  replace hSS := Lib.hid hSS
                  refine wp_region_TS (T := fun j w' => j = 21 ∨ SS w') (by kernel_rfl) ?_
                  intro QQ hQQ hQP
                  have s0 : SS w16.drew := (hSS.out _).2 ⟨c1, z0, z1, z2, z3, z4, z5, ga, gb, zw, zd⟩
                  have Od := hO2.drew
                  have bBd : Blk w16.drew gB 111 #[.int .u64 (x : Nat), .slice PA pn pc] := hB2
                  have hsd := hs2.drew
                  have kp := Lib.hid (part_any EA (some wd) BA CA ec wc bc cc m C F (k : Int) a0 a1 f0 f1 D FA fm fc (flws (netA es bs C F D P) L) w16.drew hFr.out hf0.out hf1.out hfb0 hfb1 (by omega) hfm)
                  clear c1 z0 z1 z2 z3 z4 z5 ga gb zw zd hO2 hB2 hs2 hFr
                  generalize w16.drew = X at *
                  refine takeS (i := 0) (S := SS) (m := 21) (d := some 176) (v := .pointer (some ⟨gB, 1, none⟩)) rfl rfl (by kernel_rfl) (by kernel_rfl) (by kernel_rfl) hQP.out (by kernel_rfl) (Or.inl ⟨by rfl, fun w' hS => ?_⟩) s0 ?_
                  · obtain ⟨y0, y1, y2, y3, y4, y5, y6, y7, y8, y9, y10⟩ := (hSS.out _).1 hS
                    go_simp
                  (try simp only [Act.put, List.setIfInBounds_toArray, List.set_cons_zero, List.set_cons_succ])
                  refine takeS (i := 1) (S := SS) (m := 21) (d := some 177) (v := .slice PA pn pc) rfl rfl (by kernel_rfl) (by kernel_rfl) (by kernel_rfl) hQP.out (by kernel_rfl) (Or.inl ⟨by rfl, fun w' hS => ?_⟩) s0 ?_
                  · obtain ⟨y0, y1, y2, y3, y4, y5, y6, y7, y8, y9, y10⟩ := (hSS.out _).1 hS
                    go_simp
                  (try simp only [Act.put, List.setIfInBounds_toArray, List.set_cons_zero, List.set_cons_succ])
                  refine takeS (i := 2) (S := SS) (m := 21) (d := some 178) (v := .agg #[.slice EA m ec, .slice (some wd) m wc, .slice BA C bc, .slice CA C cc, .int .u64 (F : Nat), .int .u64 0]) rfl rfl (by kernel_rfl) (by kernel_rfl) (by kernel_rfl) hQP.out (by kernel_rfl) (Or.inl ⟨by rfl, fun w' hS => ?_⟩) s0 ?_
                  · obtain ⟨y0, y1, y2, y3, y4, y5, y6, y7, y8, y9, y10⟩ := (hSS.out _).1 hS
                    go_simp
                  (try simp only [Act.put, List.setIfInBounds_toArray, List.set_cons_zero, List.set_cons_succ])
                  refine takeS (i := 3) (S := SS) (m := 21) (d := some 179) (v := .int .i64 (k : Nat)) rfl rfl (by kernel_rfl) (by kernel_rfl) (by kernel_rfl) hQP.out (by kernel_rfl) (Or.inl ⟨by rfl, fun w' hS => ?_⟩) s0 ?_
                  · obtain ⟨y0, y1, y2, y3, y4, y5, y6, y7, y8, y9, y10⟩ := (hSS.out _).1 hS
                    go_simp
                  (try simp only [Act.put, List.setIfInBounds_toArray, List.set_cons_zero, List.set_cons_succ])
                  refine takeS (i := 4) (S := SS) (m := 21) (d := some 180) (v := .slice (some ⟨g1, 0, none⟩) m m) rfl rfl (by kernel_rfl) (by kernel_rfl) (by kernel_rfl) hQP.out (by kernel_rfl) (Or.inl ⟨by rfl, fun w' hS => ?_⟩) s0 ?_
                  · obtain ⟨y0, y1, y2, y3, y4, y5, y6, y7, y8, y9, y10⟩ := (hSS.out _).1 hS
                    go_simp
                  (try simp only [Act.put, List.setIfInBounds_toArray, List.set_cons_zero, List.set_cons_succ])
                  refine takeS (i := 5) (S := SS) (m := 21) (d := some 181) (v := .int .i64 (k : Nat)) rfl rfl (by kernel_rfl) (by kernel_rfl) (by kernel_rfl) hQP.out (by kernel_rfl) (Or.inl ⟨by rfl, fun w' hS => ?_⟩) s0 ?_
                  · obtain ⟨y0, y1, y2, y3, y4, y5, y6, y7, y8, y9, y10⟩ := (hSS.out _).1 hS
                    go_simp
                  (try simp only [Act.put, List.setIfInBounds_toArray, List.set_cons_zero, List.set_cons_succ])
                  refine takeS (i := 6) (S := SS) (m := 21) (d := some 182) (v := .pointer (some ⟨g1, k * 2, none⟩)) rfl rfl (by kernel_rfl) (by kernel_rfl) (by kernel_rfl) hQP.out (by kernel_rfl) (Or.inl ⟨by rfl, fun w' hS => ?_⟩) s0 ?_
                  · obtain ⟨y0, y1, y2, y3, y4, y5, y6, y7, y8, y9, y10⟩ := (hSS.out _).1 hS
                    go_simp
                  (try simp only [Act.put, List.setIfInBounds_toArray, List.set_cons_zero, List.set_cons_succ])
                  refine takeS (i := 7) (S := SS) (m := 21) (d := some 183) (v := .agg #[.int .i64 (a0 : Nat), .int .i64 (a1 : Nat)]) rfl rfl (by kernel_rfl) (by kernel_rfl) (by kernel_rfl) hQP.out (by kernel_rfl) (Or.inl ⟨by rfl, fun w' hS => ?_⟩) s0 ?_
                  · obtain ⟨y0, y1, y2, y3, y4, y5, y6, y7, y8, y9, y10⟩ := (hSS.out _).1 hS
                    go_simp
                  (try simp only [Act.put, List.setIfInBounds_toArray, List.set_cons_zero, List.set_cons_succ])
                  refine takeS (i := 8) (S := SS) (m := 21) (d := some 184) (v := .slice FA fm fc) rfl rfl (by kernel_rfl) (by kernel_rfl) (by kernel_rfl) hQP.out (by kernel_rfl) (Or.inl ⟨by rfl, fun w' hS => ?_⟩) s0 ?_
                  · obtain ⟨y0, y1, y2, y3, y4, y5, y6, y7, y8, y9, y10⟩ := (hSS.out _).1 hS
                    go_simp
                  (try simp only [Act.put, List.setIfInBounds_toArray, List.set_cons_zero, List.set_cons_succ])
                  refine takeS (i := 9) (S := SS) (m := 21) (d := some 185) (v := .pointer (some ⟨b0, 1, none⟩)) rfl rfl (by kernel_rfl) (by kernel_rfl) (by kernel_rfl) hQP.out (by kernel_rfl) (Or.inl ⟨by rfl, fun w' hS => ?_⟩) s0 ?_
                  · obtain ⟨y0, y1, y2, y3, y4, y5, y6, y7, y8, y9, y10⟩ := (hSS.out _).1 hS
                    go_simp
                  (try simp only [Act.put, List.setIfInBounds_toArray, List.set_cons_zero, List.set_cons_succ])
                  refine takeS (i := 10) (S := SS) (m := 21) (d := some 186) (v := .slice (some wd) m wc) rfl rfl (by kernel_rfl) (by kernel_rfl) (by kernel_rfl) hQP.out (by kernel_rfl) (Or.inl ⟨by rfl, fun w' hS => ?_⟩) s0 ?_
                  · obtain ⟨y0, y1, y2, y3, y4, y5, y6, y7, y8, y9, y10⟩ := (hSS.out _).1 hS
                    go_simp
                  (try simp only [Act.put, List.setIfInBounds_toArray, List.set_cons_zero, List.set_cons_succ])
                  refine takeS (i := 11) (S := SS) (m := 21) (d := some 187) (v := .int .i64 (k : Nat)) rfl rfl (by kernel_rfl) (by kernel_rfl) (by kernel_rfl) hQP.out (by kernel_rfl) (Or.inl ⟨by rfl, fun w' hS => ?_⟩) s0 ?_
                  · obtain ⟨y0, y1, y2, y3, y4, y5, y6, y7, y8, y9, y10⟩ := (hSS.out _).1 hS
                    go_simp
                  (try simp only [Act.put, List.setIfInBounds_toArray, List.set_cons_zero, List.set_cons_succ])
                  refine takeS (i := 12) (S := SS) (m := 21) (d := some 188) (v := .pointer (some (wd.add k))) rfl rfl (by kernel_rfl) (by kernel_rfl) (by kernel_rfl) hQP.out (by kernel_rfl) (Or.inl ⟨by rfl, fun w' hS => ?_⟩) s0 ?_
                  · obtain ⟨y0, y1, y2, y3, y4, y5, y6, y7, y8, y9, y10⟩ := (hSS.out _).1 hS
                    go_simp
                  (try simp only [Act.put, List.setIfInBounds_toArray, List.set_cons_zero, List.set_cons_succ])
                  refine takeS (i := 13) (S := SS) (m := 21) (d := some 189) (v := .int .i64 1) rfl rfl (by kernel_rfl) (by kernel_rfl) (by kernel_rfl) hQP.out (by kernel_rfl) (Or.inl ⟨by rfl, fun w' hS => ?_⟩) s0 ?_
                  · obtain ⟨y0, y1, y2, y3, y4, y5, y6, y7, y8, y9, y10⟩ := (hSS.out _).1 hS
                    go_simp
                  (try simp only [Act.put, List.setIfInBounds_toArray, List.set_cons_zero, List.set_cons_succ])
                  refine takeS (i := 14) (S := SS) (m := 21) (d := some 190) (v := .pointer (some ⟨b1, 1, none⟩)) rfl rfl (by kernel_rfl) (by kernel_rfl) (by kernel_rfl) hQP.out (by kernel_rfl) (Or.inl ⟨by rfl, fun w' hS => ?_⟩) s0 ?_
                  · obtain ⟨y0, y1, y2, y3, y4, y5, y6, y7, y8, y9, y10⟩ := (hSS.out _).1 hS
                    go_simp
                  (try simp only [Act.put, List.setIfInBounds_toArray, List.set_cons_zero, List.set_cons_succ])
                  refine takeS (i := 15) (S := SS) (m := 21) (d := some 191) (v := .int .i64 (D : Nat)) rfl rfl (by kernel_rfl) (by kernel_rfl) (by kernel_rfl) hQP.out (by kernel_rfl) (Or.inl ⟨by rfl, fun w' hS => ?_⟩) s0 ?_
                  · obtain ⟨y0, y1, y2, y3, y4, y5, y6, y7, y8, y9, y10⟩ := (hSS.out _).1 hS
                    go_simp
                  (try simp only [Act.put, List.setIfInBounds_toArray, List.set_cons_zero, List.set_cons_succ])
                  refine takeS (i := 16) (S := SS) (m := 21) (d := some 192) (v := .int .i64 (D : Nat)) rfl rfl (by kernel_rfl) (by kernel_rfl) (by kernel_rfl) hQP.out (by kernel_rfl) (Or.inl ⟨by rfl, fun w' hS => ?_⟩) s0 ?_
                  · obtain ⟨y0, y1, y2, y3, y4, y5, y6, y7, y8, y9, y10⟩ := (hSS.out _).1 hS
                    go_simp
                    simp [IntKind.wrap, IntKind.bits, IntKind.signed]
                    omega
                  (try simp only [Act.put, List.setIfInBounds_toArray, List.set_cons_zero, List.set_cons_succ])
                  refine wpAnyT_ready (rs := [17]) (by kernel_rfl) (by simp) ?_
                  intro j hj
                  rw [List.mem_singleton] at hj
                  subst hj
                  refine wpOpT_step (T := fun j w' => j = 21 ∨ SS w') (by rfl) (fun K hK => ?_)
                  go_simp
                  (with_reducible refine kp.out.mono ?_)
                  clear kp
                  rintro e w17 ⟨rfl, hb17⟩
                  have s1 : SS w17 := by
                    obtain ⟨y0, y1, y2, y3, y4, y5, y6, y7, y8, y9, y10⟩ := (hSS.out _).1 s0
                    exact (hSS.out _).2 ⟨kpB hb17 y0, kpB hb17 y1, kpB hb17 y2, kpB hb17 y3, kpB hb17 y4, kpB hb17 y5, kpB hb17 y6, kpB hb17 y7, kpB hb17 y8, (hb17.cell (World.block_lt_of_cell? X _ y9)).trans y9, kpB hb17 y10⟩
                  have O17 := Od.below hb17 (by have := hsd.size; omega)
                  have B17 := Blk.below bBd hb17 bBd.lt
                  have S17 := hsd.bel hb17 hsd.size
                  clear s0 Od bBd hsd hb17
                  refine hK.out _ _ ?_ ?_
                  · exact .inr s1
                  clear hK K
                  (try simp only [Act.put, List.setIfInBounds_toArray, List.set_cons_zero, List.set_cons_succ])
                  refine wpAnyT_ready (rs := [18]) (by kernel_rfl) (by simp) ?_
                  intro j hj
                  rw [List.mem_singleton] at hj
                  subst hj
                  refine wpOpT_step (T := fun j w' => j = 21 ∨ SS w') (by rfl) (fun K hK => ?_)
                  go_simp
                  have s2 : SS (w17.alloc (.cells #[.int .i64 ((D : Int) - (f1 : Nat))] 3)) := by
                    obtain ⟨y0, y1, y2, y3, y4, y5, y6, y7, y8, y9, y10⟩ := (hSS.out _).1 s1
                    exact (hSS.out _).2 ⟨kept_alloc y0 _, kept_alloc y1 _, kept_alloc y2 _, kept_alloc y3 _, kept_alloc y4 _, kept_alloc y5 _, kept_alloc y6 _, kept_alloc y7 _, kept_alloc y8 _, (World.cell?_alloc_lt w17 _ _ (World.block_lt_of_cell? w17 _ y9)).trans y9, kept_alloc y10 _⟩
                  refine hK.out _ _ ?_ ?_
                  · exact .inr s2
                  clear hK K s2
                  (try simp only [Act.put, List.setIfInBounds_toArray, List.set_cons_zero, List.set_cons_succ])
                  refine wpAnyT_ready (rs := [19]) (by kernel_rfl) (by simp) ?_
                  intro j hj
                  rw [List.mem_singleton] at hj
                  subst hj
                  refine wpOpT_step (T := fun j w' => j = 21 ∨ SS w') (by rfl) (fun K hK => ?_)
                  refine step_pushO (w := w17) (y := (D : Int) - (f1 : Nat)) (T := 3) (H := w17.heap.size) (B := w13.heap.size) (v := .slice PA pn pc) (by rfl) (.tmp 177) (.tmp 194) (by rfl) (by rfl) (by rfl) rfl O17 (by have := hpl.out; omega) S17.size ?_
                  intro v18 w18 O18 g18 e18
                  have hvb := O17.block_lt
                  obtain ⟨P2, pn2, pc2, rfl, hp2, -, -, -⟩ := O18.form
                  have nn : ∀ g, g < w13.heap.size → some g ≠ Value.ownBlock (.slice PA pn pc) := fun g hg e => by have := (hvb g e.symm).1; omega
                  have B18 := B17.grown g18 (nn gB hgBs)
                  have S18 : Same (fun k => k = gB) w13 w18 := S17.grown g18 (fun q hq hlt => by have := (hvb q hq).1; omega)
                  have t0 := Blk.cell B18 1
                  have t1 := Blk.frozen B18 1
                  simp at t0
                  have s2 : SS w18 := by
                    obtain ⟨y0, y1, y2, y3, y4, y5, y6, y7, y8, y9, y10⟩ := (hSS.out _).1 s1
                    have hx := hgBe.out
                    exact (hSS.out _).2 ⟨t0, g18.cell y1 (nn b0 (by omega)), g18.cell y2 (nn b0 (by omega)), g18.cell y3 (nn b0 (by omega)), g18.cell y4 (nn b0 (by omega)), g18.cell y5 (nn b0 (by omega)), g18.cell y6 (nn b0 (by omega)), g18.cell y7 (nn g1 (by omega)), g18.cell y8 (nn g1 (by omega)), (World.cell?_of_block (g18.block (wd.add k).block (World.block_lt_of_cell? w17 _ y9) (nn _ (by rw [block_of_add]; omega)))).trans y9, g18.cell y10 (nn b1 (by omega))⟩
                  replace hp2 := Lib.hid hp2
                  clear s1 B17 S17 e18 g18
                  replace O18 := Lib.hid O18
                  refine hK.out _ _ ?_ ?_
                  · exact .inr s2
                  clear hK K
                  (try simp only [Act.put, List.setIfInBounds_toArray, List.set_cons_zero, List.set_cons_succ])
                  refine wpAnyT_ready (rs := [20]) (by kernel_rfl) (by simp) ?_
                  intro j hj
                  rw [List.mem_singleton] at hj
                  subst hj
                  refine wpOpT_step (T := fun j w' => j = 21 ∨ SS w') (by rfl) (fun K hK => ?_)
                  go_simp
                  refine hK.out _ _ ?_ ?_
                  · exact .inr s2
                  clear hK K
                  (try simp only [Act.put, List.setIfInBounds_toArray, List.set_cons_zero, List.set_cons_succ])
                  refine wpAnyT_ready (rs := [21]) (by kernel_rfl) (by simp) ?_
                  intro j hj
                  rw [List.mem_singleton] at hj
                  subst hj
                  refine wpOpT_step (T := fun j w' => j = 21 ∨ SS w') (by rfl) (fun K hK => ?_)
                  go_simp
                  refine hK.out _ _ ?_ ?_
                  · exact .inl rfl
                  clear hK K
                  (try simp only [Act.put, List.setIfInBounds_toArray, List.set_cons_zero, List.set_cons_succ])
                  refine wpAnyT_done (by kernel_rfl) (hQQ.out _ _ ?_) _
                  clear hQQ hQP QQ s2 hSS SS
                  -- E2
                  have hgs2 := hgBs
                  have Bn := B18.set 1 (.slice P2 pn2 pc2)
                  simp at Bn
                  have On := ownsRow_setCell_below O18.out (show (⟨gB, 1, none⟩ : Addr).block < w13.heap.size from hgs2) (.slice P2 pn2 pc2)
                  have Sn := S18.trans (Same.set w18 gB 1 (.slice P2 pn2 pc2)) (fun q _ e => e)
                  replace On := Lib.hid On
                  clear B18 S18 O18 t0 t1 nn hvb
                  go_wp2_with fail
                  go_roundw
                  case rel => exact ⟨k + 1, _, by omega, by go_num, Bn, by rw [hst.out]; exact On.out, Sn⟩
                  case measure => simp [intOf]; omega
                · obtain rfl : m = k := by omega
                  have i0 : ¬ (m : Int) < (m : Int) := by omega
                  have hx := hgBe.out
                  obtain ⟨PA, pn, pc, rfl, hpn, hpc, -, -⟩ := hO2.form
                  have hx2 := hgB.out
                  have hRb := hs2.blk cR13.out (show ¬ b2 = gB by omega)
                  have RB := (hRb.set 0 (.int .u64 (x : Nat))).set 1 (.slice PA pn pc)
                  simp at RB
                  have t0 := Blk.cell RB 0
                  have t1 := Blk.cell RB 1
                  simp at t0 t1
                  have c0 := Blk.cell hB2 0
                  have c1 := Blk.cell hB2 1
                  have d0 := Blk.cell hRb 0
                  have d1 := Blk.cell hRb 1
                  have e0 := Blk.frozen hRb 0
                  have e1 := Blk.frozen hRb 1
                  simp at c0 c1 d0 d1
                  have bw : Below w.heap.size w wr := B13.trans (hs2.below B13.size (fun q hq e => by have e' : q = gB := e; omega))
                  have bw2 := (bw.setCell (p := ⟨b2, 0, none⟩) (show w.heap.size ≤ b2 by omega) (.int .u64 (x : Nat))).setCell (p := ⟨b2, 1, none⟩) (show w.heap.size ≤ b2 by omega) (.slice PA pn pc)
                  have On := ownsRow_setCell_below (ownsRow_setCell_below hO2 (show (⟨b2, 0, none⟩ : Addr).block < w13.heap.size by show b2 < _; omega) (.int .u64 (x : Nat))) (show (⟨b2, 1, none⟩ : Addr).block < w13.heap.size by show b2 < _; omega) (.slice PA pn pc)
                  have hlE := hE.len
                  have hrd := Lib.hid (RI.own ((fun l (hl : l = (partL es bs C F D P L m).length) => by subst hl; exact On : ∀ l, l = (partL es bs C F D P L m).length → World.ownsRow _ w13.heap.size 3 1 (.slice PA pn pc) l (ints (partL es bs C F D P L m))) pn hpn))
                  have hFA := Lib.hid ((OI.fresh hO2 hpn).mono (show w.heap.size ≤ w13.heap.size by omega))
                  replace bw2 := Lib.hid bw2
                  replace hpn := Lib.hid hpn
                  clear hx hx2 hB2 hO2 hs2 hRb RB bw On hlE
                  replace t0 := Lib.hid t0
                  replace t1 := Lib.hid t1
                  go_wp2_with fail
                  have t0' := t0.out
                  have t1' := t1.out
                  refine bodyPost_ret (v := .agg #[.int .u64 (x : Nat), .slice PA pn pc]) (by simp [results, Tryd.results91, go_sem, t0', t1']) rfl ?_
                  exact ⟨x, PA, pn, pc, L, fun u => !R.getD u false, rfl, hmin.out, hM2.out, by rw [hE.len]; exact hrd.out, hpc, hFA.out, bw2.out⟩
end Go.Proofs.YticekkjambkifaaDoor.Fl
