/- Package core, fourth part: Check. -/
import Derived.Test.YtciehcageghggaaDoorCorC
import Derived.Test.YtciehcageghggaaDoorRCoF
set_option linter.unusedVariables false
namespace Go.Proofs.YtciehcageghggaaDoor
open Go.RowKit CoBit

theorem Tab.below2 {w w' : World} {b : Nat} (h : Tab w) (hb : Below b w w') (hB : w.heap.size ≤ b) : Tab w' := h.keep (hb.mono hB)
set_option maxRecDepth 100000 in
set_option maxHeartbeats 8000000 in
theorem cchk_walk (A : Option Addr) (m c : Nat) (n : Nat) (es : List (Int × Int)) (A1 : Option Addr) (m1 c1 : Nat) (ns : List Int) (A2 : Option Addr) (m2 c2 : Nat) (o : List Int) (w : World) (hT : Tab w) (h : RE w A m es) (hm : m ≤ 68719476736)
    (h1 : RI w A1 m1 ns) (h2 : RI w A2 m2 o) (hmc : m2 ≤ c2) (hz : chkG n es = 0) (hln : m1 = n) (ho : OrdI o n) (hn64 : n ≤ 64) :
    Calls Tryd.prog 14 #[.agg #[.int .i64 n, .slice A m c], .slice A1 m1 c1, .slice A2 m2 c2] w fun e w' => ∃ x, e = .returned (.int .i64 x) ∧ ((x = 0 ∧ okTo (nbG n es) ns o o.length) ∨ (x = 12 ∧ ¬ okTo (nbG n es) ns o o.length)) ∧ Below w.heap.size w w' := by
  have herr : errL n es o = 0 := by unfold errL; rw [if_pos hz, if_pos ho]
  have hper := ordI_per.1 ho
  have hm2 : m2 = n := by rw [← h2.len]; exact hper.1
  have ck := fun w h h2 => cLater_any A m c n es A2 m2 c2 o w h hm h2 hmc (by omega)
  have hls0 : ∀ ls, LaterL n es o ls → IsLater (nbG n es) n o ls := fun ls h => h.1 herr
  have hnr := fun v x hx => nbG_range hz (v := v) (x := x) hx
  have hrow := fun v : Nat => row_nb hz hn64 v
  have hrl := rowsL_length n es
  have hrlt := rows_lt es hn64
  rw [herr] at ck
  subst hln
  clear hz ho herr
  replace hrow := Lib.hid hrow
  replace hrl := Lib.hid hrl
  replace hrlt := Lib.hid hrlt
  replace hls0 := Lib.hid hls0
  replace hnr := Lib.hid hnr
  replace ck := Lib.hid ck
  replace hper := Lib.hid hper
  have hml := Lib.hid h.len
  have hol := Lib.hid h2.len
  have hnl := Lib.hid h1.len
  have hm2' : m2 ≤ m1 ∧ m1 ≤ m2 := by omega
  clear hm2
  have q1 : ((m1 : Int) != (m1 : Int)) = false := by simp
  go_enter Tryd.func14, Tryd.ntmps14
  go_wp2_with fail
  refine (ck.out _ (h.alloc _) (h2.alloc _)).mono ?_
  rintro e w1 ⟨ls, ⟨A5, n5, c5, rfl, hn5, hr5, hb1, hf5⟩, hls⟩
  replace hls := hls0.out ls hls
  simp only [World.size_alloc] at hb1
  have hG : Blk w1 w.heap.size 28 #[.int .i64 m1, .slice A m c] := Blk.below (Blk.new _ _ _) hb1 (by simp)
  have hb0 : Below w.heap.size w w1 := ((Below.refl _ _).alloc (Nat.le_refl _) _).trans (hb1.mono (by simp))
  have hl5 : n5 = m1 := by rw [← hr5.len]; exact hls.1
  have hl5' : n5 ≤ m1 ∧ m1 ≤ n5 := by omega
  clear hl5 hf5 hb1
  replace hls := Lib.hid hls
  have g0 := Blk.cell hG 0
  have g1 := Blk.cell hG 1
  simp at g0 g1
  have h4 := RE.below h hb0 (Nat.le_refl _)
  have hs0 := hb0.size
  go_wp2_with fail
  refine (rows_any A m c m1 es _ h4 (by omega) hn64).mono ?_
  rintro e w5 ⟨gr, rfl, hgr, hR, hb5⟩
  replace hr5 := RI.below hr5 hb5 (Nat.le_refl _)
  replace hb0 := hb0.trans (hb5.mono hs0)
  have hs5 := hb0.size
  have hT5 := hT.keep hb0
  generalize hrows : rowsL m1 es = rows at *
  replace hrows := Lib.hid hrows
  clear hb5 g0 g1 h4 hG
  have hok : okTo (nbG m1 es) ns o 0 := fun i v hi => by omega
  replace hok := Lib.hid hok
  go_wp2_with fail
  go_loopw [35] (fun i wr => ∃ k : Nat, k ≤ m2 ∧ i = .int .i64 k ∧ Hid (okTo (nbG m1 es) ns o k) ∧ Below w5.heap.size w5 wr) (fun i _ => m2 - (intOf i).toNat)
  case atStart => exact ⟨0, Nat.zero_le _, rfl, hok, Below.refl _ _⟩
  case round =>
    obtain ⟨k, hk, rfl, hok2, hbr⟩ := hrel
    clear hok
    have hbw := hb0.trans (hbr.mono hs5)
    have hsr := hbr.size
    by_cases hlt : k < m2
    · have r2 := RI.below h2 hbw (Nat.le_refl _)
      obtain ⟨ad2, v, rfl, hv, hcv⟩ := r2.get hlt
      have hv0 := hper.out.2.2 v (mem_at hv.out)
      obtain ⟨x, rfl⟩ := Int.eq_ofNat_of_zero_le hv0.1
      have hxn : x < m1 := by omega
      have r1 := RI.below h1 hbw (Nat.le_refl _)
      have r5 := RI.below hr5 hbr (Nat.le_refl _)
      obtain ⟨ad1, a, rfl, ha, hca⟩ := r1.get hxn
      obtain ⟨ad5, l, rfl, hl, hcl⟩ := r5.get (show x < n5 by omega)
      have hav := Lib.hid (getD_at ha.out)
      have hlv := Lib.hid (getD_at hl.out)
      have hdl : l = (dg (nbG m1 es) (o.drop (k + 1)) x : Int) := by
        have := hls.out.2 k x hv.out
        rw [Int.toNat_natCast] at this
        rw [← hlv.out, this]
      replace hdl := Lib.hid hdl
      have i2 : (0 : Int) ≤ (x : Int) := Int.natCast_nonneg _
      have i3 : (x : Int) < (m1 : Int) := by omega
      have i4 : (x : Int) < (n5 : Int) := by omega
      have hR2 := hR.below hbr hR.lt
      have hTr := hT5.below2 hbr (Nat.le_refl _)
      have hcr := Lib.hid (fun q : Nat => (AU.drewN hR2 q).cell (i := x) (by rw [hrl.out]; exact hxn))
      have hr64 := getD_lt hrlt.out x
      have hnbs := hrow.out x
      generalize rows.getD x 0 = R at *
      replace hnbs := Lib.hid hnbs
      have hpre : (∃ p, (p ≤ a ↔ ∀ u, 0 < k → o[k - 1]? = some u → ns.getD u.toNat 0 ≤ a) ∧ ((¬ 0 < k ∧ p = a) ∨ (0 < k ∧ ∃ u : Nat, (u : Int) < m1 ∧ wr.cell? (ad2.add (k - 1)) = some (.int .i64 u) ∧ wr.cell? (ad1.add u) = some (.int .i64 p)))) := by
        by_cases hk0 : 0 < k
        · obtain ⟨ad2', u, had, hu, hcu⟩ := r2.get (show k - 1 < m2 by omega)
          obtain rfl : ad2 = ad2' := by injection had
          clear had
          have hu0 := hper.out.2.2 u (mem_at hu.out)
          obtain ⟨u, rfl⟩ := Int.eq_ofNat_of_zero_le hu0.1
          obtain ⟨ad1', p, had, hp, hcp⟩ := r1.get (show u < m1 by omega)
          obtain rfl : ad1 = ad1' := by injection had
          clear had
          refine ⟨p, ⟨fun hh u' _ hu' => ?_, fun hh => ?_⟩, .inr ⟨hk0, u, hu0.2, hcu, hcp⟩⟩
          · rw [hu.out] at hu'
            injection hu' with hu'
            subst hu'
            rwa [Int.toNat_natCast, getD_at hp.out]
          · have := hh u hk0 hu.out
            rwa [Int.toNat_natCast, getD_at hp.out] at this
        · exact ⟨a, ⟨fun _ u h => absurd h hk0, fun _ => Int.le_refl _⟩,   .inl ⟨hk0, rfl⟩⟩
      obtain ⟨p, hpd, hpk⟩ := hpre
      have hokdef : okAt (nbG m1 es) ns o k x ↔ p ≤ a ∧ l ≤ a ∧ a ≤ (hi (nbG m1 es) ns x : Int) := by
        unfold okAt
        rw [Int.toNat_natCast, hav.out, ← hdl.out, hpd]
      replace hokdef := Lib.hid hokdef
      clear hpd
      have hhi : hi (nbG m1 es) ns x = ((nbG m1 es x).filter fun w => decide (a ≤ ns.getD w.toNat 0)).length := by unfold hi; rw [Int.toNat_natCast, hav.out]
      have hnr2 := Lib.hid (fun y hy => hnr.out x y hy)
      rw [← hnbs.out] at hhi hnr2
      replace hhi := Lib.hid hhi
      have hnlen : (nts (bl R)).length ≤ 64 := by rw [nts_length]; exact bl_length R
      generalize hH0 : hi (nbG m1 es) ns x = H0 at *
      replace hH0 := Lib.hid hH0
      have hw6 := Lib.hid (fun q : Nat => list_any R hr64 (wr.drewN q) (hTr.drewN q))
      generalize nts (bl R) = nbs at *
      rcases hpk with ⟨hk0, hpa⟩ | ⟨hk0, u, hu1, hcu, hcp⟩
      · have j4 : decide ((0 : Int) < (k : Int)) = false := by simp; omega
        have hpa' : p ≤ a := by omega
        clear hpa
        by_cases hla : l ≤ a
        · have e2 : decide (a < l) = false := by simp; omega
          go_wp2_with fail
          go_quiet (fail)
          have hcr2 := hcr.out nq
          go_wp2_with fail
          refine (hw6.out _).mono ?_
          rintro e w6 ⟨A6, n6, c6, rfl, hn6, hr6, hb6, hf6⟩
          have hbr6 : Below w5.heap.size w5 w6 := (below_drewN hbr nq).trans (hb6.mono (by simp; omega))
          have hbw6 := hb0.trans (hbr6.mono hs5)
          have hl6 := Lib.hid hr6.len
          have hl6' : n6 ≤ 64 := by have := hr6.len; omega
          have s1 := RI.below h1 hbw6 (Nat.le_refl _)
          obtain ⟨ad1'', a', had, ha', hca6⟩ := s1.get hxn
          obtain rfl : ad1 = ad1'' := by injection had
          obtain rfl : a = a' := by have := ha.out; rw [ha'.out] at this; injection this with this; exact this.symm
          clear had ha' hb6 hf6 hcr2 hw6 hca hcl hcv r1 r2 r5 hcr hTr hR2 hbr hbw
          go_wp2_with fail
          go_loopw [12, 74] (fun q i wr => ∃ (j d H : Nat), j ≤ n6 ∧ H ≤ j ∧ i = .int .i64 j ∧ q = .int .i64 H ∧ Hid (H = ((nbs.take j).filter fun w => decide (a ≤ ns.getD w.toNat 0)).length) ∧ wr = w6.drewN d) (fun _ i _ => n6 - (intOf i).toNat)
          case atStart => exact ⟨0, 0, 0, Nat.zero_le _, Nat.le_refl _, rfl, rfl, Lib.hid rfl, rfl⟩
          case round =>
            obtain ⟨j, d, H, hj, hHj, rfl, rfl, hH, rfl⟩ := hrel
            by_cases hltj : j < n6
            · obtain ⟨ad6, y, rfl, hy, hcy⟩ := hr6.get hltj
              have hy0 := hnr2.out y (mem_at hy.out)
              obtain ⟨y, rfl⟩ := Int.eq_ofNat_of_zero_le hy0.1
              obtain ⟨ad1', b, had, hbb, hcb⟩ := s1.get (show y < m1 by omega)
              obtain rfl : ad1 = ad1' := by injection had
              clear had
              have hst := hi_take (ns := ns) (a := a) hy.out
              rw [Int.toNat_natCast, getD_at hbb.out, ← hH.out] at hst
              have i0 : (0 : Int) ≤ (y : Int) := Int.natCast_nonneg _
              have i1 : (y : Int) < (m1 : Int) := hy0.2
              by_cases hab : a ≤ b
              · rw [if_pos hab] at hst
                have hq : decide (a ≤ b) = true := by simpa using hab
                replace hst := Lib.hid hst
                go_wp2_with fail
                go_quiet (fail)
                go_wp2_with fail
                go_roundw
                case rel => exact ⟨j + 1, _, H + 1, by omega, by omega, by go_num, by go_num, Lib.hid hst.out.symm, by first | rfl | rw [World.drewN_drewN]⟩
                case measure => simp [intOf]; omega
              · rw [if_neg hab] at hst
                have hq : decide (a ≤ b) = false := by simpa using hab
                replace hst := Lib.hid hst
                go_wp2_with fail
                go_quiet (fail)
                go_wp2_with fail
                go_roundw
                case rel => exact ⟨j + 1, _, H, by omega, by omega, by go_num, rfl, Lib.hid hst.out.symm, by first | rfl | rw [World.drewN_drewN]⟩
                case measure => simp [intOf]; omega
            · have hHv : H0 = H := by
                rw [hhi.out, hH.out, List.take_of_length_le (by rw [hl6.out]; omega)]
              by_cases haH : a ≤ (H : Int)
              · have hst := Lib.hid (okTo_step hok2.out hv.out (hokdef.out.2 ⟨hpa', hla, by rw [hHv]; exact haH⟩))
                have e3 : decide ((H : Int) < a) = false := by simp; omega
                clear hHv haH
                go_wp2_with fail
                go_roundw
                case rel => exact ⟨k + 1, by omega, by go_num, hst, below_drewN hbr6 _⟩
                case measure => simp [intOf]; omega
              · have hst := Lib.hid (okTo_bad hv.out (fun h => haH (by have := (hokdef.out.1 h).2.2; rw [hHv] at this; exact this)))
                have e3 : decide ((H : Int) < a) = true := by simp; omega
                clear hHv haH
                go_wp2_with fail
                go_ret
                exact ⟨12, rfl, .inr ⟨rfl, hst.out⟩, below_drewN hbw6 _⟩
        · have e2 : decide (a < l) = true := by simp; omega
          have hst := Lib.hid (okTo_bad hv.out (fun h => hla (hokdef.out.1 h).2.1))
          clear hla
          go_wp2_with fail
          go_quiet (fail)
          go_wp2_with fail
          go_ret
          exact ⟨12, rfl, .inr ⟨rfl, hst.out⟩, below_drewN hbw _⟩
      · have i5 : (0 : Int) ≤ (u : Int) := Int.natCast_nonneg _
        have j0 : (0 : Int) ≤ (k : Int) - 1 := by omega
        have j1 : (k : Int) - 1 < (m2 : Int) := by omega
        have j2 : ((k : Int) - 1).toNat = k - 1 := by omega
        have j3 : IntKind.i64.wrap ((k : Int) - 1) = (k : Int) - 1 := IntWalk.i64_in _ ⟨by omega, by omega⟩
        have j4 : decide ((0 : Int) < (k : Int)) = true := by simp; omega
        have j5 : (1 : Int) ≤ (k : Int) := by omega
        have j6 : (k : Int) ≤ (m2 : Int) := by omega
        have j7 : k - 1 < m2 := by omega
        by_cases hpa' : p ≤ a
        · have e1 : decide (a < p) = false := by simp; omega
          by_cases hla : l ≤ a
          · have e2 : decide (a < l) = false := by simp; omega
            go_wp2_with fail
            go_quiet (fail)
            have hcr2 := hcr.out nq
            go_wp2_with fail
            refine (hw6.out _).mono ?_
            rintro e w6 ⟨A6, n6, c6, rfl, hn6, hr6, hb6, hf6⟩
            have hbr6 : Below w5.heap.size w5 w6 := (below_drewN hbr nq).trans (hb6.mono (by simp; omega))
            have hbw6 := hb0.trans (hbr6.mono hs5)
            have hl6 := Lib.hid hr6.len
            have hl6' : n6 ≤ 64 := by have := hr6.len; omega
            have s1 := RI.below h1 hbw6 (Nat.le_refl _)
            obtain ⟨ad1'', a', had, ha', hca6⟩ := s1.get hxn
            obtain rfl : ad1 = ad1'' := by injection had
            obtain rfl : a = a' := by have := ha.out; rw [ha'.out] at this; injection this with this; exact this.symm
            clear hcu hcp had ha' hb6 hf6 hcr2 hw6 hca hcl hcv r1 r2 r5 hcr hTr hR2 hbr hbw
            go_wp2_with fail
            go_loopw [12, 74] (fun q i wr => ∃ (j d H : Nat), j ≤ n6 ∧ H ≤ j ∧ i = .int .i64 j ∧ q = .int .i64 H ∧ Hid (H = ((nbs.take j).filter fun w => decide (a ≤ ns.getD w.toNat 0)).length) ∧ wr = w6.drewN d) (fun _ i _ => n6 - (intOf i).toNat)
            case atStart => exact ⟨0, 0, 0, Nat.zero_le _, Nat.le_refl _, rfl, rfl, Lib.hid rfl, rfl⟩
            case round =>
              obtain ⟨j, d, H, hj, hHj, rfl, rfl, hH, rfl⟩ := hrel
              by_cases hltj : j < n6
              · obtain ⟨ad6, y, rfl, hy, hcy⟩ := hr6.get hltj
                have hy0 := hnr2.out y (mem_at hy.out)
                obtain ⟨y, rfl⟩ := Int.eq_ofNat_of_zero_le hy0.1
                obtain ⟨ad1', b, had, hbb, hcb⟩ := s1.get (show y < m1 by omega)
                obtain rfl : ad1 = ad1' := by injection had
                clear had
                have hst := hi_take (ns := ns) (a := a) hy.out
                rw [Int.toNat_natCast, getD_at hbb.out, ← hH.out] at hst
                have i0 : (0 : Int) ≤ (y : Int) := Int.natCast_nonneg _
                have i1 : (y : Int) < (m1 : Int) := hy0.2
                by_cases hab : a ≤ b
                · rw [if_pos hab] at hst
                  have hq : decide (a ≤ b) = true := by simpa using hab
                  replace hst := Lib.hid hst
                  go_wp2_with fail
                  go_quiet (fail)
                  go_wp2_with fail
                  go_roundw
                  case rel => exact ⟨j + 1, _, H + 1, by omega, by omega, by go_num, by go_num, Lib.hid hst.out.symm, by first | rfl | rw [World.drewN_drewN]⟩
                  case measure => simp [intOf]; omega
                · rw [if_neg hab] at hst
                  have hq : decide (a ≤ b) = false := by simpa using hab
                  replace hst := Lib.hid hst
                  go_wp2_with fail
                  go_quiet (fail)
                  go_wp2_with fail
                  go_roundw
                  case rel => exact ⟨j + 1, _, H, by omega, by omega, by go_num, rfl, Lib.hid hst.out.symm, by first | rfl | rw [World.drewN_drewN]⟩
                  case measure => simp [intOf]; omega
              · have hHv : H0 = H := by
                  rw [hhi.out, hH.out, List.take_of_length_le (by rw [hl6.out]; omega)]
                by_cases haH : a ≤ (H : Int)
                · have hst := Lib.hid (okTo_step hok2.out hv.out (hokdef.out.2 ⟨hpa', hla, by rw [hHv]; exact haH⟩))
                  have e3 : decide ((H : Int) < a) = false := by simp; omega
                  clear hHv haH
                  go_wp2_with fail
                  go_roundw
                  case rel => exact ⟨k + 1, by omega, by go_num, hst, below_drewN hbr6 _⟩
                  case measure => simp [intOf]; omega
                · have hst := Lib.hid (okTo_bad hv.out (fun h => haH (by have := (hokdef.out.1 h).2.2; rw [hHv] at this; exact this)))
                  have e3 : decide ((H : Int) < a) = true := by simp; omega
                  clear hHv haH
                  go_wp2_with fail
                  go_ret
                  exact ⟨12, rfl, .inr ⟨rfl, hst.out⟩, below_drewN hbw6 _⟩
          · have e2 : decide (a < l) = true := by simp; omega
            have hst := Lib.hid (okTo_bad hv.out (fun h => hla (hokdef.out.1 h).2.1))
            clear hla
            go_wp2_with fail
            go_quiet (fail)
            go_wp2_with fail
            go_ret
            exact ⟨12, rfl, .inr ⟨rfl, hst.out⟩, below_drewN hbw _⟩
        · have e1 : decide (a < p) = true := by simp; omega
          have hst := Lib.hid (okTo_bad hv.out (fun h => hpa' (hokdef.out.1 h).1))
          clear hpa'
          go_wp2_with fail
          go_quiet (fail)
          go_wp2_with fail
          go_ret
          exact ⟨12, rfl, .inr ⟨rfl, hst.out⟩, below_drewN hbw _⟩
    · have hst : okTo (nbG m1 es) ns o o.length := by
        rw [hol.out, show m2 = k by omega]; exact hok2.out
      replace hst := Lib.hid hst
      go_wp2_with fail
      go_ret
      exact ⟨0, rfl, .inl ⟨rfl, hst.out⟩, hbw⟩
end Go.Proofs.YtciehcageghggaaDoor
