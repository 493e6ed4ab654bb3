/- Package core, seventh part: the peeling. -/
import Derived.Test.YtdibfecejgjfmaaGreatDoorCorF
import Derived.Test.YtdibfecejgjfmaaGreatDoorRCoD
set_option linter.unusedVariables false
namespace Go.Proofs.YtdibfecejgjfmaaGreatDoor
open Go.RowKit CoBit

set_option maxRecDepth 100000 in
set_option maxHeartbeats 8000000 in
theorem peel_any (A : Option Addr) (m c : Nat) (n : Nat) (es : List (Int × Int)) (w : World) (hT : Tab w) (h : RE w A m es) (hm : m ≤ 68719476736) (hn : n ≤ 64) (hc : chkG n es = 0) :
    Calls Tryz.prog 34 #[.agg #[.int .i64 n, .slice A m c]] w fun e w' => ∃ (o ns : List Int) (A1 : Option Addr) (n1 c1 : Nat) (A2 : Option Addr) (n2 c2 : Nat), e = .returned (.tuple #[.slice A1 n1 c1, .slice A2 n2 c2]) ∧ n1 ≤ c1 ∧ n2 ≤ c2 ∧ RI w' A1 n1 o ∧ RI w' A2 n2 ns ∧ Fr w.heap.size A1 ∧ Fr w.heap.size A2 ∧ Below w.heap.size w w' ∧ PS (nbG n es) n o ∧ o.length = n ∧ IsNums (nbG n es) n ns := by
  have hrl := rowsL_length n es
  have hrlt := Lib.hid (rows_lt es hn)
  have hdeg := Lib.hid (row_deg (es := es) hc hn)
  have hus := Lib.hid (fun (o : List Int) v left hl i => us_mem (es := es) (o := o) (v := v) (left := left) hc hn hl i)
  replace hc := Lib.hid hc
  replace hrl := Lib.hid hrl
  have hall : 2 ^ n - 1 < 18446744073709551616 := by
    have h1 : (2 : Nat) ^ n ≤ 2 ^ 64 := Nat.pow_le_pow_right (by omega) hn
    rw [show (2 : Nat) ^ 64 = 18446744073709551616 by decide +kernel] at h1
    have := Nat.two_pow_pos n
    omega
  go_enter Tryz.func34, Tryz.ntmps34
  go_wp2
  go_step3
  go_wp2_with fail
  refine (rows_any A m c n es _ (h.alloc _) (by omega) hn).mono ?_
  rintro e w1 ⟨gr, rfl, hgr, hR, hb1⟩
  simp only [World.size_alloc] at hb1 hgr
  have hb0 : Below w.heap.size w w1 := ((Below.refl _ _).alloc (Nat.le_refl _) _).trans (hb1.mono (by simp))
  have hrl1 := hR.lt
  have hs0 := hb0.size
  generalize hrows : rowsL n es = rows at *
  replace hrows := Lib.hid hrows
  clear hb1
  go_wp2_with (at_make; refine wpList_makeI rfl _ _ rfl rfl rfl (n := n) (by omega) (by omega) (by omega) ?_; intro w2 hD0 hg2; have hB0 : AW (w1.alloc _) w1.heap.size (List.replicate 64 0) := Blk.new _ _ _; have hB1 := AW.grown hB0 hg2 (by simp); have hR1 := AU.grown (AU.alloc hR _) hg2 (by simp))
  have hb2 : Below w.heap.size w w2 := (hb0.alloc hs0 _).trans (grown_none_below hg2 _ (by simp; omega))
  simp only [World.size_alloc] at hD0
  have F0 : FW w w2 gr w1.heap.size (w1.heap.size + 1) rows (List.replicate 64 0) (List.replicate n 0) := ⟨hR1, hB1, hD0, hb2, by omega⟩
  clear hB0 hB1 hR1 hR hg2 hb2 hD0 hb0
  generalize hgbe : w1.heap.size = gb at *
  generalize hgde : gb + 1 = gd at *
  replace hgbe := Lib.hid hgbe
  replace hgde := Lib.hid hgde
  have hbk0 := Lib.hid (bk_start n)
  generalize List.replicate 64 0 = bu0 at *
  generalize List.replicate n (0 : Int) = de0 at *
  go_loopw [22] (fun i wr => ∃ (k : Nat) (bu : List Nat) (de : List Int), k ≤ n ∧ i = .int .i64 k ∧ FW w wr gr gb gd rows bu de ∧ Hid (Bk n bu de (fun i => i < k)) ∧ Hid (∀ i, i < k → de.getD i 0 = (pop (rows.getD i 0) : Int))) (fun i _ => n - (intOf i).toNat)
  case atStart => exact ⟨0, bu0, de0, Nat.zero_le _, rfl, F0, Lib.hid (hbk0.out.congr fun i => by simp), Lib.hid (fun i hi => by omega)⟩
  case round =>
    obtain ⟨k, bu, de, hk, rfl, hF, hbk, hde⟩ := hrel
    clear F0 hbk0
    by_cases hlt : k < n
    · have hX := getD_lt hrlt.out k
      have hd := (hdeg.out k hlt).1
      have hcx := hF.fr.cell (i := k) (by rw [hrl.out]; exact hlt)
      generalize hXe : rows.getD k 0 = X at *
      have hfd := hF.fd.frozen k
      have hcd := hF.fd.cell (i := k) (by rw [hbk.out.dl]; exact hlt)
      generalize de.getD k 0 = dk at hcd
      have hpe : pop (rows.getD k 0) = pop X := by rw [hXe]
      generalize hde0 : pop X = d at *
      replace hXe := Lib.hid hXe
      have hbk1 := Lib.hid (fill_bk hbk.out hlt hn hd)
      have hde1 := Lib.hid (fill_de hbk.out hlt hpe hde.out)
      have F1 := hF.setD k d
      have hck := F1.fd.cell (i := k) (by simp [hbk.out.dl]; exact hlt)
      rw [getD_set (by rw [hbk.out.dl]; exact hlt), if_pos rfl] at hck
      have hcb := F1.fb.cell (i := d) (by rw [hbk.out.bl]; exact hd)
      have hfb := F1.fb.frozen d
      have ho := u64_orN (getD_lt hbk.out.lt d) (show k < 64 by omega)
      have F2 := F1.setB d (bu.getD d 0 ||| 2 ^ k)
      generalize bu.getD d 0 ||| 2 ^ k = Y at *
      generalize bu.getD d 0 = Z at *
      replace hpe := Lib.hid hpe
      replace hde0 := Lib.hid hde0
      have i0 : (0 : Int) ≤ (k : Int) := Int.natCast_nonneg _
      have i1 : (k : Int) < (n : Int) := by omega
      have i2 : (0 : Int) ≤ (d : Int) := Int.natCast_nonneg _
      have i3 : (d : Int) < 64 := by omega
      go_wp2_with fail
      refine (count_any X hX _).mono ?_
      rintro e w4 ⟨rfl, rfl⟩
      rw [hde0.out]
      go_wp2_with fail
      generalize wr.setCell ⟨gd, k, none⟩ (.int .i64 (d : Int)) = W at *
      go_region_with (go_at_call 38; refine (bit_any k (by omega) _).mono ?_; rintro e w4 ⟨rfl, rfl⟩)
      all_goals go_wp2_with fail
      all_goals
        go_roundw
        case rel => exact ⟨k + 1, _, _, by omega, by go_num, F2.drew, hbk1, hde1⟩
        case measure => simp [intOf]; omega
    · have hkn : ∀ i, i < k ↔ (i : Int) ∈ rst n [] := fun i => by rw [rst_all]; omega
      have hbk2 := Lib.hid (hbk.out.congr hkn)
      have hdg2 := Lib.hid (fun (i : Nat) (hi : (i : Int) ∈ rst n []) => by
        have h1 := (rst_all i).1 hi
        have h2 := hde.out i ((hkn i).2 hi)
        rw [(hdeg.out i h1).2, ← rst_nil] at h2
        exact h2)
      clear hbk hde hdeg hkn
      have hs1 := hF.fd.lt
      have hFl := hF.l
      go_wp2_with (at_make; refine wpList_makeI rfl _ _ rfl rfl rfl (n := n) (by omega) (by omega) (by omega) ?_; intro w3 hN0 hg3)
      have hbe := grown_none_below hg3 wr.heap.size (Nat.le_refl _)
      have hs3 := hN0.lt
      have hw0 := hF.bw.size
      have P0 : PW w w3 gr gb gd wr.heap.size w3.heap.size rows bu de (List.replicate n 0) (.slice none 0 0) [] := ⟨hF.fr.below hbe (by omega), hF.fb.below hbe (by omega), hF.fd.below hbe hs1, hN0, OI.nil_, hF.bw.trans (hbe.mono hw0), by omega⟩
      have hpm0 := Lib.hid (pm_start (nbG n es) n)
      have hlf0 := Lib.hid (left_all (n := n))
      clear hF hbe hg3 hN0 hgbe hgde
      generalize wr.heap.size = gn at *
      generalize hBe : w3.heap.size = B at *
      replace hBe := Lib.hid hBe
      refine (all_any n hn _).mono ?_
      rintro e w4 ⟨rfl, rfl⟩
      generalize 2 ^ n - 1 = left0 at *
      generalize List.replicate n (0 : Int) = nu0 at *
      go_wp2
      go_step3
      go_wp2
      go_loopg [2, 9, 10] n (fun g vo lf ks wr => ∃ (o : List Int) (bu : List Nat) (de nu : List Int) (left worst : Nat), lf = .int .u64 left ∧ ks = .int .i64 worst ∧ left < 18446744073709551616 ∧ worst < 64 ∧ (rst n o).length ≤ g ∧ PW w wr gr gb gd gn B rows bu de nu vo o ∧ Hid (Bk n bu de (fun i => (i : Int) ∈ rst n o)) ∧ Hid (∀ i : Nat, (i : Int) ∈ rst n o → de.getD i 0 = (dg (nbG n es) (rst n o) i : Int)) ∧ Hid (∀ i : Nat, left.testBit i = true ↔ (i : Int) ∈ rst n o) ∧ Hid (Pm (nbG n es) n nu o worst))
      case atStart => exact ⟨[], bu, de, nu0, left0, 0, rfl, rfl, hall, by omega, rst_len _ _, P0, hbk2, hdg2, hlf0, hpm0⟩
      case round =>
        clear hbk2 hdg2 hlf0 hpm0 P0 hlt hk
        obtain ⟨o, bu, de, nu, left, worst, rfl, rfl, hl64, hw64, hgk, hP, hbk, hdg, hlf, hpm⟩ := hrel
        by_cases h0 : 0 < left
        · have hne := left_pos hlf.out h0
          have hlen : 0 < (rst n o).length := List.length_pos_iff.2 hne
          replace hne := Lib.hid hne
          have hq0 : ((left : Int) != 0) = true := by simp; omega
          cases gk with
          | zero => omega
          | succ g =>
            have hbsome := Lib.hid (fun hh => hne.out (bk_some hbk.out hh))
            go_wp2_with fail
            obtain ⟨wo, rfl⟩ : ∃ wo : World, wo = wr := ⟨_, rfl⟩
            go_loopg [2, 9, 10, 51] 64 (fun g' vo lf ks i wr => ∃ d : Nat, d + g' = 64 ∧ i = .int .i64 d ∧ vo = u2 ∧ lf = .int .u64 left ∧ ks = .int .i64 worst ∧ Hid (∀ e, e < d → bu.getD e 0 = 0) ∧ wr = wo)
            case atStart => exact ⟨0, by omega, rfl, rfl, rfl, rfl, Lib.hid (fun e he => by omega), rfl⟩
            case round =>
              obtain ⟨d, hdg', rfl, rfl, rfl, rfl, hbel, rfl⟩ := hrel
              by_cases hd : d < 64
              · have hZ64 := getD_lt hbk.out.lt d
                have hcb := hP.fb.cell (i := d) (by rw [hbk.out.bl]; exact hd)
                have i0 : (0 : Int) ≤ (d : Int) := Int.natCast_nonneg _
                have i1 : (d : Int) < 64 := by omega
                cases gk with
                | zero => omega
                | succ g' =>
                  by_cases hz : 0 < bu.getD d 0
                  · obtain ⟨hb1, hb2, hb3⟩ := bk_best hbk.out hdg.out hd hbel.out hz
                    have hv64 := ctz_lt _ hz hZ64
                    have hvn := (mem_rst.1 hb1.1).1.2
                    generalize hve : Lib.ctz 64 (bu.getD d 0) = v at *
                    replace hvn : v < n := by omega
                    have hbk1 := Lib.hid ((hbk.out.take hvn hn hd hb3).congr push_iff)
                    have hpm1 := Lib.hid (pm_take hpm.out hb1 hb2)
                    have hlf1 := Lib.hid (left_push hl64 hv64 hlf.out)
                    have hdi := Lib.hid (di_start hb1.1 hdg.out (hus.out (o ++ [(v : Int)]) v (clr left v) hlf1.out))
                    have hlen1 := rst_length_push hb1.1
                    have hol := ps_len hpm.out.ps
                    have hTr := hT.keep hP.bw
                    have hcn := hP.fn.cell (i := v) (by rw [hpm.out.nl]; exact hvn)
                    have hfn := hP.fn.frozen v
                    have hdl := Lib.hid hbk.out.dl
                    have hbl := Lib.hid hbk.out.bl
                    have hnl := Lib.hid hpm.out.nl
                    have hl2 := clr_lt (b := v) hl64
                    have e1 := u64_clr hl64 hv64
                    have e2 := u64_clr hZ64 hv64
                    have hum := Lib.hid (fun i hi => ((hus.out (o ++ [(v : Int)]) v (clr left v) hlf1.out i).1 hi).2)
                    have hmx : (if worst < d then (d : Int) else (worst : Int)) = ((max worst d : Nat) : Int) := by split <;> omega
                    have hW : max worst d < 64 := by omega
                    generalize max worst d = W at *
                    generalize clr left v = left1 at *
                    generalize clr (bu.getD d 0) v = Y at *
                    generalize hZe : bu.getD d 0 = Z at *
                    generalize nu.getD v 0 = nv at *
                    replace hve := Lib.hid hve
                    replace hZe := Lib.hid hZe
                    clear hb1 hb2 hb3 hlf hdg hbsome hbel hpm hne hbk
                    have hz0 : ((Z : Int) == 0) = false := by simp; omega
                    go_wp2_with fail
                    refine (least_any Z hz hZ64 _ hTr).mono ?_
                    rintro e w4 ⟨rfl, rfl⟩
                    rw [hve.out]
                    have P1 := hP.setN v W
                    have j0 : (0 : Int) ≤ (v : Int) := Int.natCast_nonneg _
                    have j1 : (v : Int) < (n : Int) := by omega
                    have hPl := P1.l
                    go_wp2_with (at_builtin; refine wpList_push rfl _ _ rfl rfl rfl (by simp) P1.fo (by omega) (by omega) ?_; intro v' w5 ho' hb' hg')
                    refine (bit_any v hv64 _).mono ?_
                    rintro e w4 ⟨rfl, rfl⟩
                    have P2 := P1.push ho' hb'
                    clear hmx P1 hP hcn hfn hcb hg' ho' hb' hPl hTr
                    have hcb := P2.fb.cell (i := d) (by rw [hbl.out]; exact hd)
                    rw [hZe.out] at hcb
                    have hfb := P2.fb.frozen d
                    have P3 := P2.setB d Y
                    go_wp2_with fail
                    go_cut [] (fun wx => PW w wx gr gb gd gn B rows (bu.set d Y) de (nu.set v (W : Int)) v' (o ++ [(v : Int)]))
                    case first =>
                      go_region_with (go_at_call 38; refine (bit_any v hv64 _).mono ?_; rintro e w4 ⟨rfl, rfl⟩)
                      all_goals go_wp2_with fail
                      all_goals
                        go_meet
                        exact P3.drew
                    case rest =>
                      clear P2 P3 hcb hfb e1 e2 hve hZe hz hz0 hdl hbl hnl hZ64 hlen hq0 hdg'
                      have hPl := hcut.l
                      have hcr := hcut.fr.cell (i := v) (by rw [hrl.out]; exact hvn)
                      have hR64 := getD_lt hrlt.out v
                      have hTc := hT.keep hcut.bw
                      generalize rows.getD v 0 = R at *
                      have e3 := bits_and_u64_nat R left1 hR64 hl2
                      have hq64 : R &&& left1 < 18446744073709551616 := and_lt' hR64
                      generalize R &&& left1 = q at *
                      have hnd := Lib.hid ((bl_sorted q).imp (fun {a b} (h : a < b) => (show a ≠ b by omega)))
                      have hll := bl_length q
                      go_wp2_with fail
                      refine (list_any q hq64 _ hTc).mono ?_
                      rintro e w6 ⟨A6, n6, c6, rfl, hn6, hr6, hb6, hf6⟩
                      replace hcut := hcut.below hb6
                      have hf6' : Fr B A6 := hf6.mono hPl.2.2.2.2.2
                      have hl6 := Lib.hid hr6.len
                      have hl6' : n6 ≤ 64 := by have := hr6.len; rw [nts_length] at this; omega
                      clear hb6 hf6 hcr hTc hPl e3
                      generalize bl q = us at *
                      generalize o ++ [(v : Int)] = o1 at *
                      generalize nu.set v (W : Int) = nu1 at *
                      generalize bu.set d Y = bu1 at *
                      replace hf6' := Lib.hid hf6'
                      go_wp2_with fail
                      go_loopg [92] n6 (fun g'' i wr => ∃ (j : Nat) (bu : List Nat) (de : List Int), j + g'' = n6 ∧ i = .int .i64 j ∧ PW w wr gr gb gd gn B rows bu de nu1 v' o1 ∧ RI wr A6 n6 (nts us) ∧ Hid (Bk n bu de (fun i => (i : Int) ∈ rst n o1)) ∧ Hid (DI (nbG n es) (rst n o1) us j de))
                      case atStart => exact ⟨0, bu1, de, by omega, rfl, hcut, hr6, hbk1, hdi⟩
                      case round =>
                        clear hcut hr6 hbk1 hdi
                        obtain ⟨j, bu, de, hjg, rfl, hP, hr6, hbk, hdi⟩ := hrel
                        have hPl := hP.l
                        cases gk with
                        | zero =>
                          have hjn : n6 ≤ j ∧ j ≤ n6 := by omega
                          have hdg2 := Lib.hid (di_done hdi.out (by have := hl6.out; rw [nts_length] at this; omega))
                          have hjd : decide ((j : Int) < (n6 : Int)) = false := by simp; omega
                          clear hjg hr6 hdi hum
                          go_wp2_with fail
                          go_roundg g
                          case rel => exact ⟨o1, bu, de, nu1, left1, W, rfl, rfl, hl2, hW, by omega, hP, hbk, hdg2, hlf1, hpm1⟩
                          case measure => omega
                        | succ g'' =>
                          have hltj : j < n6 := by omega
                          obtain ⟨ad6, y, rfl, hy, hcy⟩ := hr6.get hltj
                          obtain ⟨u, rfl, hu⟩ := nts_at hy.out
                          have hm := hum.out u (List.mem_of_getElem? hu)
                          have hun := hbk.out.inn u hm
                          have hpos := di_pos hdi.out hu hm
                          have hrg := (hbk.out.rng u hun).2
                          have hdlen := hbk.out.dl
                          have hblen := hbk.out.bl
                          obtain ⟨D, hD⟩ := Int.eq_ofNat_of_zero_le (show 0 ≤ de.getD u 0 by omega)
                          obtain ⟨x, hx⟩ : ∃ x, D = x + 1 := ⟨D - 1, by omega⟩
                          have hD64 : D < 64 := by omega
                          have hu64 : u < 64 := by omega
                          have hbk' := Lib.hid (hbk.out.down' hm hn hx hD64 hD)
                          have hdi' := Lib.hid (di_step' hdi.out hu hnd.out (by rw [hdlen]; exact hun) hx hD)
                          have hcd := hP.fd.cell (i := u) (by rw [hdlen]; exact hun)
                          rw [hD] at hcd
                          have hcb := hP.fb.cell (i := D) (by rw [hblen]; exact hD64)
                          have hfb := hP.fb.frozen D
                          have e1 := u64_clr (getD_lt hbk.out.lt D) hu64
                          have hY1 := clr_lt (b := u) (getD_lt hbk.out.lt D)
                          have P1 := hP.setB D (clr (bu.getD D 0) u)
                          have hr7 := hr6.set hf6'.out (g := gb) D (by omega) (.int .u64 ((clr (bu.getD D 0) u : Nat) : Int))
                          have hlt1 : ∀ y ∈ bu.set D (clr (bu.getD D 0) u), y < 18446744073709551616 := fun y hy => by
                            rcases List.mem_or_eq_of_mem_set hy with hy | rfl
                            · exact hbk.out.lt y hy
                            · exact hY1
                          have hb1len : (bu.set D (clr (bu.getD D 0) u)).length = 64 := by rw [List.length_set]; exact hblen
                          generalize clr (bu.getD D 0) u = Y1 at *
                          generalize bu.getD D 0 = Z1 at *
                          generalize bu.set D Y1 = bu2 at *
                          have hd1len : (de.set u (x : Int)).length = n := by rw [List.length_set]; exact hdlen
                          have hdx : (de.set u (x : Int)).getD u 0 = (x : Int) := by rw [getD_set (by rw [hdlen]; exact hun), if_pos rfl]
                          replace hb1len := Lib.hid hb1len
                          replace hd1len := Lib.hid hd1len
                          replace hdx := Lib.hid hdx
                          replace hlt1 := Lib.hid hlt1
                          replace hdlen := Lib.hid hdlen
                          have hDh := Lib.hid hD
                          clear hblen hD hpos hrg hy hu hbk hdi
                          have i0 : (0 : Int) ≤ (u : Int) := Int.natCast_nonneg _
                          have i1 : (u : Int) < (n : Int) := by omega
                          have i2 : (0 : Int) ≤ (D : Int) := Int.natCast_nonneg _
                          have i3 : (D : Int) < 64 := by omega
                          have i4 : (D : Int) - 1 = (x : Int) := by omega
                          have i5 : IntKind.i64.wrap ((D : Int) - 1) = (x : Int) := by rw [i4]; exact IntWalk.i64_in _ ⟨by omega, by omega⟩
                          have i6 : (0 : Int) ≤ (x : Int) := Int.natCast_nonneg _
                          have i7 : (x : Int) < 64 := by omega
                          have hx64 : x < 64 := by omega
                          replace hx := Lib.hid hx
                          go_wp2_with fail
                          go_cut [] (fun wx => PW w wx gr gb gd gn B rows bu2 de nu1 v' o1 ∧ RI wx (some ad6) n6 (nts us))
                          case first =>
                            go_region_with (go_at_call 38; refine (bit_any u hu64 _).mono ?_; rintro e w4 ⟨rfl, rfl⟩)
                            all_goals go_wp2_with fail
                            all_goals
                              go_meet
                              exact ⟨P1.drew, hr7.drew⟩
                          case rest =>
                            clear P1 hr7 hP hr6 hcb hfb hcy e1
                            obtain ⟨hP, hr6⟩ := hcut
                            have hcd := hP.fd.cell (i := u) (by rw [hdlen.out]; exact hun)
                            rw [hDh.out] at hcd
                            have hfd := hP.fd.frozen u
                            have P4 := hP.setD u (x : Int)
                            have hr8 := hr6.set hf6'.out (g := gd) u (by omega) (.int .i64 (x : Int))
                            have hcx := P4.fd.cell (i := u) (by rw [hd1len.out]; exact hun)
                            rw [hdx.out] at hcx
                            have hcb := P4.fb.cell (i := x) (by rw [hb1len.out]; exact hx64)
                            have hfb := P4.fb.frozen x
                            have e2 := u64_orN (getD_lt hlt1.out x) hu64
                            have P5 := P4.setB x (bu2.getD x 0 ||| 2 ^ u)
                            have hr9 := hr8.set hf6'.out (g := gb) x (by omega) (.int .u64 ((bu2.getD x 0 ||| 2 ^ u : Nat) : Int))
                            generalize bu2.getD x 0 ||| 2 ^ u = Y2 at *
                            generalize bu2.getD x 0 = Z2 at *
                            clear hPl
                            go_wp2_with fail
                            generalize wc.setCell ⟨gd, u, none⟩ (.int .i64 (x : Int)) = W2 at *
                            clear hcd hfd hP hr6 i4 i5
                            go_region_with (go_at_call 38; refine (bit_any u hu64 _).mono ?_; rintro e w4 ⟨rfl, rfl⟩)
                            all_goals go_wp2_with fail
                            all_goals
                              go_roundg g''
                              case rel => exact ⟨j + 1, _, _, by omega, by go_num, P5.drew, hr9.drew, hbk', hdi'⟩
                              case measure => omega
                  · have hz0 : ((bu.getD d 0 : Nat) : Int) = 0 := by omega
                    have hz1 : bu.getD d 0 = 0 := by omega
                    have hbel' := Lib.hid (show ∀ e, e < d + 1 → bu.getD e 0 = 0 from fun e he => by
                      by_cases h : e = d
                      · subst h; exact hz1
                      · exact hbel.out e (by omega))
                    rw [hz1] at hcb
                    clear hz hz0 hz1 hbel hZ64
                    go_wp2_with fail
                    go_roundg g'
                    case rel => exact ⟨d + 1, by omega, by go_num, rfl, rfl, rfl, hbel', rfl⟩
                    case measure => omega
              · exact (hbsome.out fun e he => hbel.out e (by omega)).elim
        · obtain ⟨hnums, hps, hol⟩ := pm_done hpm.out (left_zero hlf.out (by omega))
          have hfin : ∃ (o ns : List Int) (A1 : Option Addr) (n1 c1 : Nat) (A2 : Option Addr) (n2 c2 : Nat), Ending.returned (.tuple #[u2, .slice (some ⟨gn, 0, none⟩) n n]) = .returned (.tuple #[.slice A1 n1 c1, .slice A2 n2 c2]) ∧ n1 ≤ c1 ∧ n2 ≤ c2 ∧ RI wr A1 n1 o ∧ RI wr A2 n2 ns ∧ Fr w.heap.size A1 ∧ Fr w.heap.size A2 ∧ Below w.heap.size w wr ∧ PS (nbG n es) n o ∧ o.length = n ∧ IsNums (nbG n es) n ns := by
            have hPl := hP.l
            obtain ⟨A5, n5, c5, rfl, hn5, hc5, _, hr5⟩ := hP.fo.form
            exact ⟨o, nu, A5, n5, c5, some ⟨gn, 0, none⟩, n, n, rfl, hc5, Nat.le_refl _, hr5, hP.fn.ri hpm.out.nl.symm, (hP.fo.fresh hn5).mono (by omega), (fun ad e => by injection e with e; subst e; show w.heap.size ≤ gn; omega), hP.bw, hps, hol, hnums⟩
          have hq0 : ((left : Int) != 0) = false := by simp; omega
          replace hfin := Lib.hid hfin
          clear hnums hps hol hP hpm hlf hdg hbk
          go_wp2_with fail
          try rw [Exit.noGoto_ret]
          go_ret2
          exact hfin.out
end Go.Proofs.YtdibfecejgjfmaaGreatDoor

namespace Go.Proofs.YtdibfecejgjfmaaGreatDoor
open Go.RowKit CoBit

set_option maxRecDepth 100000 in
set_option maxHeartbeats 2000000 in
theorem cOrder_any (A : Option Addr) (m c : Nat) (n : Int) (es : List (Int × Int)) (w : World) (hT : Tab w) (h : RE w A m es) (hm : m ≤ 68719476736) :
    Calls Tryz.prog 21 #[.agg #[.int .i64 n, .slice A m c]] w fun e w' => ∃ o, RetL w o (chkG n es) e w' ∧ IsOrd n es o := by
  have ck := fun w h => gcheck_any A m c n es w h (by omega)
  by_cases hz : chkG n es = 0
  · obtain ⟨z0, z1, _⟩ := chkG_zero hz
    obtain ⟨n, rfl⟩ := Int.eq_ofNat_of_zero_le z0
    have hn : n ≤ 64 := by omega
    have hdef : ∀ l, PS (nbG n es) n l → l.length = n → IsOrd n es l := fun l h h2 => ⟨fun _ => ⟨h, h2⟩, fun h => absurd hz h⟩
    have hp := fun w hT h => peel_any A m c n es w hT h hm hn hz
    rw [hz] at ck ⊢
    clear hz
    replace hdef := Lib.hid hdef
    replace ck := Lib.hid ck
    replace hp := Lib.hid hp
    go_enter Tryz.func21, Tryz.ntmps21
    go_wp2_with fail
    refine (ck.out _ (h.alloc _)).mono ?_
    rintro e w1 ⟨rfl, hb1⟩
    simp only [World.size_alloc] at hb1
    have hG : Blk w1 w.heap.size 24 #[.int .i64 n, .slice A m c] := Blk.below (Blk.new _ _ _) hb1 (by simp)
    have hb0 : Below w.heap.size w w1 := ((Below.refl _ _).alloc (Nat.le_refl _) _).trans (hb1.mono (by simp))
    have g0 := Blk.cell hG 0
    have g1 := Blk.cell hG 1
    simp at g0 g1
    have hs0 := hb0.size
    clear hb1
    go_wp2_with fail
    refine (hp.out _ (hT.keep hb0) (RE.below h hb0 (Nat.le_refl _))).mono ?_
    rintro e w2 ⟨o, ns, A1, n1, c1, A2, n2, c2, rfl, hc1, hc2, hr1, hr2, hf1, hf2, hb2, hps, hol, _⟩
    have hfin : ∃ l, RetL w l 0 (.returned (.tuple #[.slice A1 n1 c1, .int .i64 0])) w2 ∧ IsOrd n es l := ⟨o, ⟨A1, n1, c1, rfl, hc1, hr1, hb0.trans (hb2.mono hs0), hf1.mono hs0⟩, hdef.out o hps hol⟩
    replace hfin := Lib.hid hfin
    clear g0 g1 hr1 hr2 hf1 hf2 hb2 hG hb0 hps hol
    go_wp2_with fail
    go_ret2
    exact hfin.out
  · have hdef : IsOrd n es [] := ⟨fun h => absurd h hz, fun _ => rfl⟩
    have hz' : (chkG n es != 0) = true := by simpa using hz
    clear hz
    generalize chkG n es = z at *
    replace hdef := Lib.hid hdef
    replace ck := Lib.hid ck
    go_enter Tryz.func21, Tryz.ntmps21
    go_wp2_with fail
    refine (ck.out _ (h.alloc _)).mono ?_
    rintro e w1 ⟨rfl, hb1⟩
    simp only [World.size_alloc] at hb1
    have hb0 : Below w.heap.size w w1 := ((Below.refl _ _).alloc (Nat.le_refl _) _).trans (hb1.mono (by simp))
    clear hb1
    go_wp2
    go_ret2
    exact ⟨[], ⟨none, 0, 0, rfl, Nat.le_refl _, RI.none_, hb0, Fr.none_⟩, hdef.out⟩
end Go.Proofs.YtdibfecejgjfmaaGreatDoor
