/- The reference's cores (cohesionref10), sixth part: Check. -/
import Derived.Test.YtciehcageghggaaDoorRCoE
set_option linter.unusedVariables false
namespace Go.Proofs.YtciehcageghggaaDoor
open Go.RowKit

theorem hi_take {nb : List Int} {ns : List Int} {a : Int} {j : Nat} {x : Int} (h : nb[j]? = some x) : ((nb.take (j + 1)).filter fun w => decide (a ≤ ns.getD w.toNat 0)).length = ((nb.take j).filter fun w => decide (a ≤ ns.getD w.toNat 0)).length + (if a ≤ ns.getD x.toNat 0 then 1 else 0) := by
  rw [take_at h, List.filter_append, List.length_append]
  congr 1
  by_cases hx : a ≤ ns.getD x.toNat 0
  · rw [if_pos hx, List.filter_cons, if_pos (decide_eq_true hx)]; rfl
  · rw [if_neg hx, List.filter_cons, if_neg (fun e => hx (of_decide_eq_true e))]; rfl
theorem okTo_step {nb : Int → List Int} {ns o : List Int} {k : Nat} {v : Int} (h : okTo nb ns o k) (hv : o[k]? = some v) (hk : okAt nb ns o k v) : okTo nb ns o (k + 1) := by
  intro i u hi hu
  by_cases he : i = k
  · subst he
    rw [hv] at hu
    injection hu with hu
    subst hu
    exact hk
  · exact h i u (by omega) hu
theorem okTo_bad {nb : Int → List Int} {ns o : List Int} {k : Nat} {v : Int} (hv : o[k]? = some v) (hk : ¬ okAt nb ns o k v) : ¬ okTo nb ns o o.length := fun h => hk (h k v (List.getElem?_eq_some_iff.1 hv).1 hv)
theorem nbG_range {n : Nat} {es : List (Int × Int)} (hc : chkG n es = 0) {v x : Int} (h : x ∈ nbG n es v) : 0 ≤ x ∧ x < n := by
  have hlt := chkE_lt (chkG_zero hc).2.2
  unfold nbG at h
  rw [if_pos hc, mem_of] at h
  unfold nbl at h
  rw [List.mem_flatMap] at h
  obtain ⟨e, he, hx⟩ := h
  have h1 := hlt e he
  rw [List.mem_append] at hx
  rcases hx with hx | hx
  · split at hx
    · rw [List.mem_singleton.1 hx]; omega
    · cases hx
  · split at hx
    · rw [List.mem_singleton.1 hx]; omega
    · cases hx
theorem getD_at {xs : List Int} {k : Nat} {y : Int} (h : xs[k]? = some y) : xs.getD k 0 = y := by rw [List.getD_eq_getElem?_getD, h]; rfl

set_option maxRecDepth 100000 in
set_option maxHeartbeats 8000000 in
theorem rchk_walk (A : Option Addr) (m c : Nat) (n : Nat) (es : List (Int × Int)) (A1 : Option Addr) (m1 c1 : Nat) (ns : List Int) (A2 : Option Addr) (m2 c2 : Nat) (o : List Int) (w : World) (h : RE w A m es) (hm : m ≤ 68719476736)
    (h1 : RI w A1 m1 ns) (h2 : RI w A2 m2 o) (hmc : m2 ≤ c2) (hz : chkG n es = 0) (hln : m1 = n) (ho : OrdI o n) (hn64 : n ≤ 64) :
    Calls Tryd.prog 17 #[.agg #[.int .i64 n, .slice A m c], .slice A1 m1 c1, .slice A2 m2 c2] w fun e w' => ∃ x, e = .returned (.int .i64 x) ∧ ((x = 0 ∧ okTo (nbG n es) ns o o.length) ∨ (x = 12 ∧ ¬ okTo (nbG n es) ns o o.length)) ∧ Below w.heap.size w w' := by
  have ck := fun w h => rcheck_any A m c n es w h (by omega)
  have hper := ordI_per.1 ho
  have hb : decide (OrdI o n) = true := decide_eq_true ho
  have hm2 : m2 = n := by rw [← h2.len]; exact hper.1
  have hnr := fun v x hx => nbG_range hz (v := v) (x := x) hx
  rw [hz] at ck
  subst hln
  clear hz ho
  replace hnr := Lib.hid hnr
  replace ck := Lib.hid ck
  replace hb := Lib.hid hb
  replace hper := Lib.hid hper
  have hml := Lib.hid h.len
  have hol := Lib.hid h2.len
  have hnl := Lib.hid h1.len
  have hm2' : m2 ≤ m1 ∧ m1 ≤ m2 := by omega
  clear hm2
  have q1 : ((m1 : Int) != (m1 : Int)) = false := by simp
  go_enter Tryd.func17, Tryd.ntmps17
  go_wp2_with fail
  refine (ck.out _ (h.alloc _)).mono ?_
  rintro e w1 ⟨rfl, hb1⟩
  simp only [World.size_alloc] at hb1
  have hG : Blk w1 w.heap.size 28 #[.int .i64 m1, .slice A m c] := Blk.below (Blk.new _ _ _) hb1 (by simp)
  have hb0 : Below w.heap.size w w1 := ((Below.refl _ _).alloc (Nat.le_refl _) _).trans (hb1.mono (by simp))
  have g0 := Blk.cell hG 0
  have g1 := Blk.cell hG 1
  simp at g0 g1
  have h3 := RI.below h2 hb0 (Nat.le_refl _)
  have hs0 := hb0.size
  have hGl := hG.lt
  clear hb1
  go_wp2_with fail
  refine (rAll_any A2 m2 c2 o m1 _ h3 (by omega)).mono ?_
  rintro e w2 ⟨rfl, hb2⟩
  rw [hb.out]
  replace hG := Blk.below hG hb2 hGl
  replace hb0 := hb0.trans (hb2.mono hs0)
  clear hb2 g0 g1 h3
  have g0 := Blk.cell hG 0
  have g1 := Blk.cell hG 1
  simp at g0 g1
  have h3 := RI.below h2 hb0 (Nat.le_refl _)
  have h4 := RE.below h hb0 (Nat.le_refl _)
  have hs2 := hb0.size
  replace hGl := hG.lt
  go_wp2_with fail
  refine (rlater_any A m c m1 es A2 m2 c2 o _ h4 hm (by omega) h3 hmc hper.out).mono ?_
  rintro e w5 ⟨ls, ⟨A5, n5, c5, rfl, hn5, hr5, hb5, hf5⟩, hls⟩
  have hl5 : n5 = m1 := by rw [← hr5.len]; exact hls.1
  have hl5' : n5 ≤ m1 ∧ m1 ≤ n5 := by omega
  clear hl5
  replace hG := Blk.below hG hb5 hGl
  replace hb0 := hb0.trans (hb5.mono hs2)
  have hs5 := hb0.size
  replace hls := Lib.hid hls
  clear hb5 g0 g1 h3 h4 hf5
  have hok : okTo (nbG m1 es) ns o 0 := fun i v hi => by omega
  replace hok := Lib.hid hok
  go_wp2_with fail
  go_loopw [36] (fun i wr => ∃ k : Nat, k ≤ m2 ∧ i = .int .i64 k ∧ Hid (okTo (nbG m1 es) ns o k) ∧ Blk wr w.heap.size 28 #[.int .i64 m1, .slice A m c] ∧ Below w5.heap.size w5 wr) (fun i _ => m2 - (intOf i).toNat)
  case atStart => exact ⟨0, Nat.zero_le _, rfl, hok, hG, Below.refl _ _⟩
  case round =>
    obtain ⟨k, hk, rfl, hok2, hG2, hbr⟩ := hrel
    clear hok hG
    have hbw := hb0.trans (hbr.mono hs5)
    have hsr := hbr.size
    by_cases hlt : k < m2
    · have hr2 := RI.below h2 hbw (Nat.le_refl _)
      obtain ⟨ad2, v, rfl, hv, hcv⟩ := hr2.get hlt
      have hv0 := hper.out.2.2 v (mem_at hv.out)
      obtain ⟨x, rfl⟩ := Int.eq_ofNat_of_zero_le hv0.1
      have hxn : x < m1 := by omega
      have g0 := Blk.cell hG2 0
      have g1 := Blk.cell hG2 1
      simp at g0 g1
      have hRE := RE.below h hbw (Nat.le_refl _)
      have hnl2 := nbG_length m1 es x
      replace hnl2 : (nbG m1 es x).length ≤ 2 * m := by have := hml.out; omega
      go_wp2_with fail
      refine (neigh_any A m c m1 es x _ hRE (by omega)).mono ?_
      rintro e w6 ⟨A6, n6, c6, rfl, hn6, hr6, hb6, hf6⟩
      have hG6 := Blk.below hG2 hb6 hG2.lt
      have hb56 := hbr.trans (hb6.mono hsr)
      have hbw6 := hbw.trans (hb6.mono hbw.size)
      have hl6 := Lib.hid hr6.len
      have hl6' : n6 ≤ 2 * m := by have := hr6.len; omega
      have r1 := RI.below h1 hbw6 (Nat.le_refl _)
      have r2 := RI.below h2 hbw6 (Nat.le_refl _)
      have r5 := RI.below hr5 hb56 (Nat.le_refl _)
      obtain ⟨ad1, a, rfl, ha, hca⟩ := r1.get hxn
      obtain ⟨ad5, l, rfl, hl, hcl⟩ := r5.get (show x < n5 by omega)
      have hav := Lib.hid (getD_at ha.out)
      have hlv := Lib.hid (getD_at hl.out)
      have hhi : hi (nbG m1 es) ns x = ((nbG m1 es x).filter fun w => decide (a ≤ ns.getD w.toNat 0)).length := by unfold hi; rw [Int.toNat_natCast, hav.out]
      replace hhi := Lib.hid hhi
      have hnr2 := Lib.hid (fun y hy => hnr.out x y hy)
      have hdl : l = (dg (nbG m1 es) (o.drop (k + 1)) x : Int) := by
        have := hls.out.2 k x hv.out
        rw [Int.toNat_natCast] at this
        rw [← hlv.out, this]
      replace hdl := Lib.hid hdl
      clear hb6 hf6 hRE g0 g1 hG2 hbr hbw hr2
      generalize nbG m1 es x = nbs at *
      go_wp2_with fail
      go_loopw [11, 45] (fun q i wr => ∃ (j d H : Nat), j ≤ n6 ∧ H ≤ j ∧ i = .int .i64 j ∧ q = .int .i64 H ∧ Hid (H = ((nbs.take j).filter fun w => decide (a ≤ ns.getD w.toNat 0)).length) ∧ wr = w6.drewN d) (fun _ i _ => n6 - (intOf i).toNat)
      case atStart => exact ⟨0, 0, 0, Nat.zero_le _, Nat.le_refl _, rfl, rfl, Lib.hid rfl, rfl⟩
      case round =>
        obtain ⟨j, d, H, hj, hHj, rfl, rfl, hH, rfl⟩ := hrel
        by_cases hltj : j < n6
        · obtain ⟨ad6, y, rfl, hy, hcy⟩ := hr6.get hltj
          have hy0 := hnr2.out y (mem_at hy.out)
          obtain ⟨y, rfl⟩ := Int.eq_ofNat_of_zero_le hy0.1
          obtain ⟨ad1', b, had, hbb, hcb⟩ := r1.get (show y < m1 by omega)
          obtain rfl : ad1 = ad1' := by injection had
          clear had
          have hst := hi_take (ns := ns) (a := a) hy.out
          rw [Int.toNat_natCast, getD_at hbb.out, ← hH.out] at hst
          have i0 : (0 : Int) ≤ (y : Int) := Int.natCast_nonneg _
          have i1 : (y : Int) < (m1 : Int) := hy0.2
          have i2 : (0 : Int) ≤ (x : Int) := Int.natCast_nonneg _
          have i3 : (x : Int) < (m1 : Int) := by omega
          by_cases hab : a ≤ b
          · rw [if_pos hab] at hst
            have hq : decide (a ≤ b) = true := by simpa using hab
            replace hst := Lib.hid hst
            go_wp2_with fail
            go_quiet (fail)
            go_wp2_with fail
            go_roundw
            case rel => exact ⟨j + 1, _, H + 1, by omega, by omega, by go_num, by go_num, Lib.hid hst.out.symm, by first | rfl | rw [World.drewN_drewN]⟩
            case measure => simp [intOf]; omega
          · rw [if_neg hab] at hst
            have hq : decide (a ≤ b) = false := by simpa using hab
            replace hst := Lib.hid hst
            go_wp2_with fail
            go_quiet (fail)
            go_wp2_with fail
            go_roundw
            case rel => exact ⟨j + 1, _, H, by omega, by omega, by go_num, rfl, Lib.hid hst.out.symm, by first | rfl | rw [World.drewN_drewN]⟩
            case measure => simp [intOf]; omega
        · have hHv : hi (nbG m1 es) ns x = H := by
            rw [hhi.out, hH.out, List.take_of_length_le (by rw [hl6.out]; omega)]
          have i2 : (0 : Int) ≤ (x : Int) := Int.natCast_nonneg _
          have i3 : (x : Int) < (m1 : Int) := by omega
          have i4 : (x : Int) < (n5 : Int) := by omega
          have hbw7 := Lib.hid (fun d => below_drewN hbw6 d)
          have hG7 := Lib.hid (fun d => Blk.drewN hG6 d)
          have hb57 := Lib.hid (fun d => below_drewN hb56 d)
          clear hbw6 hG6 hb56 hH hhi
          have hokdef : okAt (nbG m1 es) ns o k x ↔ (∀ u, 0 < k → o[k - 1]? = some u → ns.getD u.toNat 0 ≤ a) ∧ l ≤ a ∧ a ≤ (H : Int) := by
            unfold okAt
            rw [Int.toNat_natCast, hav.out, ← hdl.out, hHv]
          replace hHv := Lib.hid hHv
          replace hokdef := Lib.hid hokdef
          by_cases hk0 : 0 < k
          · obtain ⟨ad2', u, had, hu, hcu⟩ := r2.get (show k - 1 < m2 by omega)
            obtain rfl : ad2 = ad2' := by injection had
            clear had
            have hu0 := hper.out.2.2 u (mem_at hu.out)
            obtain ⟨u, rfl⟩ := Int.eq_ofNat_of_zero_le hu0.1
            obtain ⟨ad1', p, had, hp, hcp⟩ := r1.get (show u < m1 by omega)
            obtain rfl : ad1 = ad1' := by injection had
            clear had
            have hpd : (∀ u, 0 < k → o[k - 1]? = some u → ns.getD u.toNat 0 ≤ a) ↔ p ≤ a := by
              constructor
              · intro hh
                have := hh u hk0 hu.out
                rwa [Int.toNat_natCast, getD_at hp.out] at this
              · intro hh u' _ hu'
                rw [hu.out] at hu'
                injection hu' with hu'
                subst hu'
                rwa [Int.toNat_natCast, getD_at hp.out]
            have hokd2 := hokdef.out
            rw [hpd] at hokd2
            replace hokd2 := Lib.hid hokd2
            clear hokdef hpd
            have i5 : (0 : Int) ≤ (u : Int) := Int.natCast_nonneg _
            have i6 : (u : Int) < (m1 : Int) := hu0.2
            have j0 : (0 : Int) ≤ (k : Int) - 1 := by omega
            have j1 : (k : Int) - 1 < (m2 : Int) := by omega
            have j2 : ((k : Int) - 1).toNat = k - 1 := by omega
            have j3 : IntKind.i64.wrap ((k : Int) - 1) = (k : Int) - 1 := IntWalk.i64_in _ ⟨by omega, by omega⟩
            have j4 : decide ((0 : Int) < (k : Int)) = true := by simp; omega
            have j5 : (1 : Int) ≤ (k : Int) := by omega
            have j6 : (k : Int) ≤ (m2 : Int) := by omega
            have j7 : k - 1 < m2 := by omega
            have hways : (p ≤ a ∧ l ≤ a ∧ a ≤ (H : Int)) ∨ (¬ (p ≤ a ∧ l ≤ a ∧ a ≤ (H : Int)) ∧ ((decide (a < p) = true) ∨ (decide (a < p) = false ∧ decide (a < l) = true) ∨ (decide (a < p) = false ∧ decide (a < l) = false ∧ decide ((H : Int) < a) = true))) := by
              by_cases hh : p ≤ a ∧ l ≤ a ∧ a ≤ (H : Int)
              · exact .inl hh
              · exact .inr ⟨hh, by simp; omega⟩
            rcases hways with hgood | ⟨hbad, hw⟩
            · have hst := Lib.hid (okTo_step hok2.out hv.out (hokd2.out.2 hgood))
              have e1 : decide (a < p) = false := by simp; omega
              have e2 : decide (a < l) = false := by simp; omega
              have e3 : decide ((H : Int) < a) = false := by simp; omega
              clear hgood
              go_wp2_with fail
              go_quiet (fail)
              go_wp2_with fail
              go_roundw
              case rel => exact ⟨k + 1, by omega, by go_num, hst, hG7.out _, hb57.out _⟩
              case measure => simp [intOf]; omega
            · have hst := Lib.hid (okTo_bad hv.out (fun h => hbad (hokd2.out.1 h)))
              clear hbad
              rcases hw with e1 | ⟨e1, e2⟩ | ⟨e1, e2, e3⟩
              all_goals
                go_wp2_with fail
                go_quiet (fail)
                go_wp2_with fail
                go_ret
                exact ⟨12, rfl, .inr ⟨rfl, hst.out⟩, below_drewN (hbw7.out _) _⟩
          · have hpd : (∀ u, 0 < k → o[k - 1]? = some u → ns.getD u.toNat 0 ≤ a) ↔ True := ⟨fun _ => trivial, fun _ u h => absurd h hk0⟩
            have hokd2 := hokdef.out
            rw [hpd, true_and] at hokd2
            replace hokd2 := Lib.hid hokd2
            clear hokdef hpd
            have j4 : decide ((0 : Int) < (k : Int)) = false := by simp; omega
            have hways : (l ≤ a ∧ a ≤ (H : Int)) ∨ (¬ (l ≤ a ∧ a ≤ (H : Int)) ∧ ((decide (a < l) = true) ∨ (decide (a < l) = false ∧ decide ((H : Int) < a) = true))) := by
              by_cases hh : l ≤ a ∧ a ≤ (H : Int)
              · exact .inl hh
              · exact .inr ⟨hh, by simp; omega⟩
            rcases hways with hgood | ⟨hbad, hw⟩
            · have hst := Lib.hid (okTo_step hok2.out hv.out (hokd2.out.2 hgood))
              have e2 : decide (a < l) = false := by simp; omega
              have e3 : decide ((H : Int) < a) = false := by simp; omega
              clear hgood
              go_wp2_with fail
              go_quiet (fail)
              go_wp2_with fail
              go_roundw
              case rel => exact ⟨k + 1, by omega, by go_num, hst, hG7.out _, hb57.out _⟩
              case measure => simp [intOf]; omega
            · have hst := Lib.hid (okTo_bad hv.out (fun h => hbad (hokd2.out.1 h)))
              clear hbad
              rcases hw with e2 | ⟨e2, e3⟩
              all_goals
                go_wp2_with fail
                go_quiet (fail)
                go_wp2_with fail
                go_ret
                exact ⟨12, rfl, .inr ⟨rfl, hst.out⟩, below_drewN (hbw7.out _) _⟩
    · have hst : okTo (nbG m1 es) ns o o.length := by
        rw [hol.out, show m2 = k by omega]; exact hok2.out
      replace hst := Lib.hid hst
      go_wp2_with fail
      go_ret
      exact ⟨0, rfl, .inl ⟨rfl, hst.out⟩, hbw⟩

set_option maxRecDepth 100000 in
set_option maxHeartbeats 4000000 in
theorem rCheck_any (A : Option Addr) (m c : Nat) (n : Int) (es : List (Int × Int)) (A1 : Option Addr) (m1 c1 : Nat) (ns : List Int) (A2 : Option Addr) (m2 c2 : Nat) (o : List Int) (w : World) (h : RE w A m es) (hm : m ≤ 68719476736)
    (h1 : RI w A1 m1 ns) (h2 : RI w A2 m2 o) (hmc : m2 ≤ c2) (hm2 : m2 ≤ 1099511627776) :
    Calls Tryd.prog 17 #[.agg #[.int .i64 n, .slice A m c], .slice A1 m1 c1, .slice A2 m2 c2] w fun e w' => ∃ x, e = .returned (.int .i64 x) ∧ IsChk n es ns o x ∧ Below w.heap.size w w' := by
  have ck := fun w h => rcheck_any A m c n es w h (by omega)
  have hnl := h1.len
  by_cases hz : chkG n es = 0
  · obtain ⟨z0, z1, _⟩ := chkG_zero hz
    obtain ⟨n, rfl⟩ := Int.eq_ofNat_of_zero_le z0
    by_cases hln : m1 = n
    · by_cases ho : OrdI o n
      · refine (rchk_walk A m c n es A1 m1 c1 ns A2 m2 c2 o w h hm h1 h2 hmc hz hln ho (by omega)).mono ?_
        rintro e w' ⟨x, rfl, hx, hb⟩
        refine ⟨x, rfl, ⟨fun h => absurd hz h, fun _ hh => ?_, fun _ _ _ => hx⟩, hb⟩
        rcases hh with hh | hh
        · exact absurd (by rw [hnl, hln]) hh
        · exact absurd ho hh
      · have hdef : IsChk n es ns o 4 := ⟨fun h => absurd hz h, fun _ _ => rfl, fun _ _ h => absurd h ho⟩
        have hb : decide (OrdI o n) = false := decide_eq_false ho
        rw [hz] at ck
        subst hln
        clear hz ho
        replace hdef := Lib.hid hdef
        replace ck := Lib.hid ck
        replace hb := Lib.hid hb
        replace hnl := Lib.hid hnl
        have q1 : ((m1 : Int) != (m1 : Int)) = false := by simp
        go_enter Tryd.func17, Tryd.ntmps17
        go_wp2_with fail
        refine (ck.out _ (h.alloc _)).mono ?_
        rintro e w1 ⟨rfl, hb1⟩
        simp only [World.size_alloc] at hb1
        have hG : Blk w1 w.heap.size 28 #[.int .i64 m1, .slice A m c] := Blk.below (Blk.new _ _ _) hb1 (by simp)
        have hb0 : Below w.heap.size w w1 := ((Below.refl _ _).alloc (Nat.le_refl _) _).trans (hb1.mono (by simp))
        have g0 := Blk.cell hG 0
        have g1 := Blk.cell hG 1
        simp at g0 g1
        have h3 := RI.below h2 hb0 (Nat.le_refl _)
        have hs0 := hb0.size
        clear hb1
        go_wp2_with fail
        refine (rAll_any A2 m2 c2 o m1 _ h3 hm2).mono ?_
        rintro e w2 ⟨rfl, hb2⟩
        rw [hb.out]
        replace hb0 := hb0.trans (hb2.mono hs0)
        clear hb2 g0 g1 h3
        go_wp2_with fail
        go_ret
        exact ⟨4, rfl, hdef.out, hb0⟩
    · have hdef : IsChk n es ns o 4 := ⟨fun h => absurd hz h, fun _ _ => rfl, fun _ h _ => absurd h (by omega)⟩
      have q1 : ((m1 : Int) != (n : Int)) = true := by simp; omega
      rw [hz] at ck
      clear hz hln
      replace hdef := Lib.hid hdef
      replace ck := Lib.hid ck
      replace hnl := Lib.hid hnl
      go_enter Tryd.func17, Tryd.ntmps17
      go_wp2_with fail
      refine (ck.out _ (h.alloc _)).mono ?_
      rintro e w1 ⟨rfl, hb1⟩
      simp only [World.size_alloc] at hb1
      have hG : Blk w1 w.heap.size 28 #[.int .i64 n, .slice A m c] := Blk.below (Blk.new _ _ _) hb1 (by simp)
      have hb0 : Below w.heap.size w w1 := ((Below.refl _ _).alloc (Nat.le_refl _) _).trans (hb1.mono (by simp))
      have g0 := Blk.cell hG 0
      have g1 := Blk.cell hG 1
      simp at g0 g1
      clear hb1
      go_wp2_with fail
      go_ret
      exact ⟨4, rfl, hdef.out, hb0⟩
  · have hdef : IsChk n es ns o (chkG n es) := ⟨fun _ => rfl, fun h => absurd h hz, fun h => absurd h hz⟩
    have hz' : (chkG n es != 0) = true := by simpa using hz
    clear hz
    generalize hzz : chkG n es = z at *
    replace hzz := Lib.hid hzz
    replace hdef := Lib.hid hdef
    replace ck := Lib.hid ck
    replace hnl := Lib.hid hnl
    go_enter Tryd.func17, Tryd.ntmps17
    go_wp2_with fail
    refine (ck.out _ (h.alloc _)).mono ?_
    rintro e w1 ⟨rfl, hb1⟩
    simp only [World.size_alloc] at hb1
    have hb0 : Below w.heap.size w w1 := ((Below.refl _ _).alloc (Nat.le_refl _) _).trans (hb1.mono (by simp))
    clear hb1
    go_wp2
    go_ret
    exact ⟨z, rfl, hdef.out, hb0⟩
end Go.Proofs.YtciehcageghggaaDoor
