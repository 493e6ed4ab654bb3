/- The law PlexSizes. -/
import Derived.Test.YtfefginhlliccaaDoorPlxH
import Derived.Test.YtfefginhlliccaaDoorPlxI
import Derived.Test.YtfefginhlliccaaDoorGrfD
import Derived.Test.YtfefginhlliccaaDoorMakC
import Derived.Test.YtfefginhlliccaaDoorSrtM
import Derived.Lib.QuietBelow
set_option linter.unusedVariables false
set_option linter.unusedSimpArgs false
namespace Go.Proofs.YtfefginhlliccaaDoor.Pl
open Go.RowKit Go.Shelf CoBit CoCli Go.Proofs.YtfefginhlliccaaDoor

theorem nb_ad {n : Nat} {es : List (Int × Int)} (hc : chkG n es = 0) (u x : Nat) : (x : Int) ∈ nbG n es u ↔ ad (rowsL n es) u x = true := by
  unfold nbG
  rw [if_pos hc, mem_of, mem_nbl, ad_bit hc]
theorem rfnd_ad {n : Nat} {es : List (Int × Int)} (hc : chkG n es = 0) {u v : Nat} (huv : u < v) : (ad (rowsL n es) u v = true → 0 ≤ rfnd n es u v) ∧ (ad (rowsL n es) u v = false → rfnd n es u v = -1) := by
  have he : edgeP (u : Int) (v : Int) = ((u : Int), (v : Int)) := by unfold edgeP; rw [show min (u : Int) v = u by omega, show max (u : Int) v = v by omega]
  have h1 : rfnd n es u v = fndE es ((u : Int), (v : Int)) := by unfold rfnd; rw [if_pos hc, he]
  have hm : ad (rowsL n es) u v = true ↔ ((u : Int), (v : Int)) ∈ es := by
    rw [ad_bit hc]
    refine ⟨fun h => h.elim id (fun h => ?_), .inl⟩
    have := chkE_lt (chkG_zero hc).2.2 _ h
    simp at this; omega
  rw [h1]
  constructor
  · intro h
    have h2 := hm.1 h
    unfold fndE
    cases hf : es.findIdx? (fun x => decide (x = ((u : Int), (v : Int)))) with
    | some i => exact Int.natCast_nonneg _
    | none =>
      rw [List.findIdx?_eq_none_iff] at hf
      have := hf _ h2
      simp at this
  · intro h
    refine fndE_none fun x hx hxe => ?_
    rw [hxe] at hx
    rw [hm.2 hx] at h; cases h
theorem com_ne {n : Nat} {es : List (Int × Int)} (hc : chkG n es = 0) {S : List Nat} {u v x : Nat} (huv : u ≠ v) (hx : x ∈ S) (h1 : ad (rowsL n es) u x = true) (h2 : ad (rowsL n es) v x = true) : 0 < (meetL (comL n es u v) (nt S)).length := by
  refine List.length_pos_of_mem (a := (x : Int)) ?_
  unfold meetL
  rw [List.mem_filter, decide_eq_true_iff, mem_of]
  refine ⟨?_, mem_nt.2 hx⟩
  unfold comL
  rw [if_neg (by omega)]
  unfold meetL
  rw [List.mem_filter, decide_eq_true_iff, mem_of]
  exact ⟨(nb_ad hc u x).2 h1, (nb_ad hc v x).2 h2⟩
attribute [local irreducible] wpQuiet in
set_option maxRecDepth 100000 in
set_option maxHeartbeats 8000000 in
theorem lawSizes_any (A0 : Option Addr) (m0 c0 : Nat) (l : List Int) (k : Nat) (hk8 : k < 256) (w : World) (hT : Tab w) (h0 : RI w A0 m0 l) (hmc : m0 ≤ c0) (hm0 : m0 ≤ 1152921504606846976) :
    Calls Tryd.prog 3 #[.slice A0 m0 c0, .int .u8 k] w fun e w' => e = .returned (.bool true) ∧ Below w.heap.size w w' := by
  have kf := fun w => few_any A0 m0 c0 w
  by_cases hfew : m0 ≤ 500
  · have hv : decide (m0 ≤ 500) = true := by simpa using hfew
    rw [hv] at kf
    replace kf := Lib.hid kf
    clear hv hfew
    obtain ⟨q, hq, hq3⟩ : ∃ q : Nat, Hid (q = 1 + k % 3) ∧ (1 : Int) + (k : Int) % 3 = (q : Int) := ⟨1 + k % 3, Lib.hid rfl, by omega⟩
    have hq1 : 1 ≤ q ∧ q ≤ 3 := by have := hq.out; omega
    clear hq
    go_enter Tryd.func3, Tryd.ntmps3
    go_wp2_with fail
    refine (kf.out _).mono ?_
    rintro e w1 ⟨rfl, rfl⟩
    go_wp2_with fail
    refine (new_any A0 m0 c0 l w h0 hmc hm0).mono ?_
    rintro e w1 ⟨rfl, hd1, hb1, hs1⟩
    go_wp2_with fail
    refine (mkgraph_any _ 7 _ hd1 (by omega)).mono ?_
    rintro e w2 ⟨n, es, A, m, c, rfl, hmcc, hr2, hf2, hsrt, hn9, hd2, hg2⟩
    have hz := Lib.hid (chk_of_srt hsrt (show (0 : Int) ≤ n by omega) (by omega))
    have hlen : m ≤ 49 := by
      have h1 := srt_len hsrt
      have h2 := hr2.len
      have h3 : n * n ≤ 7 * 7 := Nat.mul_le_mul hn9 hn9
      omega
    have hb2 : Below w.heap.size w w2 := hb1.grown hg2 (by omega) (fun k hk => by injection hk with hk; omega)
    have hs2 := hb2.size
    clear hs1 hb1 hf2 hg2 h0 hd1 hd2
    go_wp2_with fail
    have hG := Blk.new w2 27 #[.int .i64 n, .slice A m c]
    have hr3 := hr2.alloc (.cells #[.int .i64 n, .slice A m c] 27)
    have hb3 := hb2.alloc hs2 (.cells #[.int .i64 n, .slice A m c] 27)
    clear hr2 hb2
    generalize w2.alloc (.cells #[.int .i64 n, .slice A m c] 27) = w3 at *
    generalize w2.heap.size = gg at *
    have hz64 := hz.out
    have hee : errP (n : Int) es (q : Int) (2 * (q : Int) - 1) = 0 := by unfold errP; rw [if_neg (by omega), if_pos (by omega)]
    obtain ⟨L, hL⟩ : ∃ L : List (List Nat), L = plexs n es q (2 * q - 1) [] := ⟨_, rfl⟩
    have hto : (2 * (q : Int) - 1).toNat = 2 * q - 1 := by omega
    have hLs : L.length ≤ 256 := by rw [hL]; exact plexs_small (by omega) _ _ _ _
    have hea : errA (n : Int) es (q : Int) (2 * (q : Int) - 1) 4096 = 0 := by
      unfold errA
      rw [if_neg (by rw [hee]; simp), if_neg (by omega), Int.toNat_natCast, Int.toNat_natCast, hto, ← hL, if_neg (by omega)]
    have hal : allL (n : Int) es (q : Int) (2 * (q : Int) - 1) 4096 = L.map nt := by
      unfold allL
      rw [if_pos hea, Int.toNat_natCast, Int.toNat_natCast, hto, ← hL]
    have kA := callsIn_wide.1 (all_in A m c n es q (2 * (q : Int) - 1) 4096 w3 hr3 (by omega) (hT.below hb3 hT.lt))
    rw [hea, hal] at kA
    have hmem : Hid (∀ S ∈ L, S.Pairwise (· < ·) ∧ (∀ x ∈ S, x < n) ∧ 2 * q - 1 ≤ S.length ∧ plx (ad (rowsL n es)) q S) := Lib.hid fun S hS => by
      rw [hL] at hS
      obtain ⟨a1, a2, a3, a4, _⟩ := mem_plexs hS
      exact ⟨a1, a2, a3, a4.2.1⟩
    clear hee hto hea hal hL hz64 hq3
    have hg3 := hG.lt
    refine kA.mono ?_
    rintro e w4 ⟨A4, n4, c4, rfl, hc4, hr4, hb4⟩
    have hn4 : n4 = L.length := by have := hr4.len; rw [List.length_map] at this; exact this.symm
    have hG4 := hG.below hb4 hG.lt
    have hrE4 := hr3.below hb4 (Nat.le_refl _)
    have hb04 := hb3.trans (hb4.mono hb3.size)
    have hT4 := hT.below hb04 hT.lt
    have hgg4 : gg < w4.heap.size := hG4.lt
    have hn256 : n4 ≤ 256 := by omega
    replace hn4 := Lib.hid hn4
    clear kA hG hr3 hb3 hg3 hLs hb4
    go_wp2_with fail
    go_loopw [35] (fun i wr => ∃ k1 : Nat, k1 ≤ n4 ∧ i = .int .i64 k1 ∧ Below w4.heap.size w4 wr) (fun i _ => n4 - (intOf i).toNat)
    case atStart => exact ⟨0, Nat.zero_le _, rfl, Below.refl _ _⟩
    case round =>
      obtain ⟨k1, hk1, rfl, hbr⟩ := hrel
      by_cases hlt1 : k1 < n4
      · obtain ⟨ad4, A5, n5, c5, ys, rfl, hcell4, hys, hn5, hr5, had⟩ := hr4.get hlt1
        have hcell := (hbr.cell (p := ad4.add k1) (by rw [block_of_add]; exact had)).trans hcell4
        obtain ⟨S, hSL, rfl⟩ : ∃ S, S ∈ L ∧ nt S = ys := by
          have := List.mem_of_getElem? hys.out
          rw [List.mem_map] at this
          obtain ⟨S, h1, h2⟩ := this
          exact ⟨S, h1, h2⟩
        obtain ⟨hSs, hSn, hSl, hSp⟩ := hmem.out S hSL
        have hr5' := rs_ri.1 hr5
        have hn5b : n5 ≤ 64 := by
          have h1 := hr5'.len
          rw [nt_length] at h1
          have h2 := List.Nodup.length_le_of_subset (l₁ := S) (l₂ := List.range n) (hSs.imp (fun h => Nat.ne_of_lt h)) (fun x hx => List.mem_range.2 (hSn x hx))
          rw [List.length_range] at h2
          omega
        replace hSl := Lib.hid hSl
        have i1 : (k1 : Int) < (n4 : Int) := by omega
        go_wp2_with fail
        clear hcell
        go_loopw [41] (fun j wr => ∃ k2 : Nat, k2 ≤ n5 ∧ j = .int .i64 k2 ∧ Below w4.heap.size w4 wr) (fun j _ => n5 - (intOf j).toNat)
        case atStart => exact ⟨0, Nat.zero_le _, rfl, hbr⟩
        case round =>
          obtain ⟨k2, hk2, rfl, hbr2⟩ := hrel
          by_cases hlt2 : k2 < n5
          · go_wp2_with fail
            go_loopw [12] (fun j wr => ∃ k3 : Nat, k2 < k3 ∧ k3 ≤ n5 ∧ j = .int .i64 k3 ∧ Below w4.heap.size w4 wr) (fun j _ => n5 - (intOf j).toNat)
            case atStart => exact ⟨k2 + 1, by omega, by omega, by go_num, hbr2⟩
            case round =>
              obtain ⟨k3, hk23, hk3, rfl, hbr3⟩ := hrel
              by_cases hlt3 : k3 < n5
              · have hr6 := hr5'.below hbr3 (Nat.le_refl _)
                obtain ⟨ad5, y2, rfl, hy2, cy2⟩ := hr6.get hlt2
                obtain ⟨ad5', y3, he5, hy3, cy3⟩ := hr6.get hlt3
                obtain rfl : ad5 = ad5' := Option.some.inj he5
                have hG6 := hG4.below hbr3 hgg4
                obtain ⟨d0, d1⟩ := blkG hG6
                obtain ⟨u, hu, rfl⟩ : ∃ u, S[k2]? = some u ∧ (u : Int) = y2 := by
                  have := hy2.out; unfold nt at this; rw [List.getElem?_map, Option.map_eq_some_iff] at this
                  obtain ⟨u, h1, h2⟩ := this; exact ⟨u, h1, h2⟩
                obtain ⟨v, hv, rfl⟩ : ∃ v, S[k3]? = some v ∧ (v : Int) = y3 := by
                  have := hy3.out; unfold nt at this; rw [List.getElem?_map, Option.map_eq_some_iff] at this
                  obtain ⟨v, h1, h2⟩ := this; exact ⟨v, h1, h2⟩
                obtain ⟨e2, rfl⟩ := List.getElem?_eq_some_iff.1 hu
                obtain ⟨e3, rfl⟩ := List.getElem?_eq_some_iff.1 hv
                have huS := List.getElem_mem e2
                have hvS := List.getElem_mem e3
                have huv : S[k2] < S[k3] := List.pairwise_iff_getElem.1 hSs k2 k3 e2 e3 hk23
                generalize S[k2] = u at *
                generalize S[k3] = v at *
                have hE6 := hrE4.below hbr3 (Nat.le_refl _)
                have kfi := fun w h => rfind_any A m c n es u v w h (by omega)
                have kco := fun w h => rcommon_any A m c n es u v w h (by omega)
                obtain ⟨f1, f2⟩ := rfnd_ad hz.out huv
                have i2 : (k2 : Int) < (n5 : Int) := by omega
                have i3 : (k3 : Int) < (n5 : Int) := by omega
                have hrow : Hid (RI wr (some ad5) n5 (nt S)) := Lib.hid hr6
                have had5 : ad5.block < wr.heap.size := by
                  obtain ⟨ad', e', hlt', _⟩ := hr6.2 (show 0 < n5 by omega)
                  rw [show ad5 = ad' from Option.some.inj e']; exact hlt'
                have hgl := hG6.lt
                have hT6 : True := trivial
                by_cases hadj : ad (rowsL n es) u v = true
                · have hF := f1 hadj
                  generalize rfnd n es u v = F at *
                  have q4 : decide (F < 0) = false := by simp; omega
                  replace kfi := Lib.hid kfi
                  clear f1 f2 kco hadj hF hSs hSp hu hv hy2 hy3 huS hvS huv
                  have kq : ∀ dd os, Calls Tryd.prog 13 #[.agg #[.int .i64 n, .slice A m c], .int .i64 u, .int .i64 v] (Sort.grow (redrawn wr dd) os) fun e w'' => e = .returned (.int .i64 F) ∧ ∃ p : Regrown, w'' = Sort.grow (redrawn wr p.d) p.os := fun dd os => Calls.regrown_of (kfi.out _ (hE6.below (below_regrown wr dd os) (Nat.le_refl _)))
                  have x0 : ∀ dd os, (Sort.grow (redrawn wr dd) os).cell? ⟨gg, 0, none⟩ = some (.int .i64 n) := fun dd os => cell_regrown d0 dd os
                  have x1 : ∀ dd os, (Sort.grow (redrawn wr dd) os).cell? ⟨gg, 1, none⟩ = some (.slice A m c) := fun dd os => cell_regrown d1 dd os
                  have x2 : ∀ dd os, (Sort.grow (redrawn wr dd) os).cell? (ad5.add k2) = some (.int .i64 u) := fun dd os => cell_regrown cy2 dd os
                  have x3 : ∀ dd os, (Sort.grow (redrawn wr dd) os).cell? (ad5.add k3) = some (.int .i64 v) := fun dd os => cell_regrown cy3 dd os
                  replace kq := Lib.hid kq
                  go_upto_region 15 with fail
                  refine wp_region_quiet_below (by kernel_rfl) (by kernel_rfl) ?_
                  repeat (quiet_step (with_reducible exact kq.out _ _))
                  refine wpQuiet_nil ?_
                  intro _ hw'
                  obtain ⟨⟨dq, osq⟩, hw''⟩ := hw'
                  subst hw''
                  have hbx := hbr3.trans ((below_regrown wr dq osq).mono hbr3.size)
                  go_wp2_with fail
                  go_roundw
                  case rel => exact ⟨k3 + 1, by omega, by omega, by go_num, hbx⟩
                  case measure => simp [intOf]; omega
                · rw [Bool.not_eq_true] at hadj
                  have hF := f2 hadj
                  obtain ⟨x, hxS, hx1, hx2⟩ := plex_two (ad_sym hz.out) (ad_not hz.out) (hSs.imp (fun h => Nat.ne_of_lt h)) hSp hSl.out huS hvS (by omega) hadj
                  have hne := com_ne hz.out (show u ≠ v by omega) hxS hx1 hx2
                  rw [hF] at kfi
                  have kme := fun A7 n7 c7 w (h7 : RI w A7 n7 (comL n es u v)) hn7 (h8 : RI w (some ad5) n5 (nt S)) => meet_any A7 (some ad5) n7 c7 n5 c5 (comL n es u v) (nt S) w h7 hn7 h8 (by omega)
                  replace kfi := Lib.hid kfi
                  replace kco := Lib.hid kco
                  replace kme := Lib.hid kme
                  replace hne := Lib.hid hne
                  have hcl : (comL n es u v).length ≤ 1000 := by
                    unfold comL
                    split
                    · simp
                    · have h1 := nbG_length (n : Int) es (u : Int)
                      have h2 := hrE4.len
                      have h3 : (meetL (nbG n es u) (nbG n es v)).length ≤ (ofL (nbG n es u)).length := List.length_filter_le _ _
                      have h4 := of_length (nbG n es u)
                      omega
                  clear f1 f2 hadj hF hSs hSp hu hv hy2 hy3 huS hvS huv hxS hx1 hx2
                  go_upto_region 15 with fail
                  go_region_held3 (fun w' => w'.cell? ⟨gg, 0, none⟩ = some (.int .i64 n) ∧ w'.cell? ⟨gg, 1, none⟩ = some (.slice A m c) ∧ w'.cell? (ad5.add k2) = some (.int .i64 u) ∧ w'.cell? (ad5.add k3) = some (.int .i64 v))
                    ((first | (exact ⟨(hbh.cell (p := ⟨gg, 0, none⟩) hgl).trans d0, (hbh.cell (p := ⟨gg, 1, none⟩) hgl).trans d1, (hbh.cell (p := ad5.add k2) (by rw [block_of_add]; exact had5)).trans cy2, (hbh.cell (p := ad5.add k3) (by rw [block_of_add]; exact had5)).trans cy3⟩) | (exact ⟨(hbg.cell (p := ⟨gg, 0, none⟩) hgl).trans d0, (hbg.cell (p := ⟨gg, 1, none⟩) hgl).trans d1, (hbg.cell (p := ad5.add k2) (by rw [block_of_add]; exact had5)).trans cy2, (hbg.cell (p := ad5.add k3) (by rw [block_of_add]; exact had5)).trans cy3⟩) | (exact ⟨(hbf.cell (p := ⟨gg, 0, none⟩) hgl).trans d0, (hbf.cell (p := ⟨gg, 1, none⟩) hgl).trans d1, (hbf.cell (p := ad5.add k2) (by rw [block_of_add]; exact had5)).trans cy2, (hbf.cell (p := ad5.add k3) (by rw [block_of_add]; exact had5)).trans cy3⟩) | go_keep))
                    ((first
                      | (go_at_call 13; refine (kfi.out _ (by first | exact hE6 | exact hE6.drewN _)).mono ?_; rintro e wf ⟨rfl, hbf0⟩
                         have hbf : Below wr.heap.size wr wf := ((Below.refl wr.heap.size wr).drew).trans hbf0
                         have hEf := hE6.below hbf (Nat.le_refl _)
                         have hrf := hrow.out.below hbf (Nat.le_refl _))
                      | (go_at_call 15; refine (kco.out _ (by first | exact hEf | exact hEf.drewN _)).mono ?_; rintro e wg ⟨A7, n7, c7, rfl, hc7, hr7, hb7, hf7⟩
                         have hbg : Below wr.heap.size wr wg := hbf.trans (hb7.mono hbf.size)
                         have hrg := hrf.below hb7 (Nat.le_refl _)
                         have hn7 : n7 ≤ 1099511627776 := by have := hr7.len; omega)
                      | (go_at_call 14; refine (kme.out A7 n7 c7 _ hr7 hn7 hrg).mono ?_; rintro e wh ⟨A8, n8, c8, rfl, hc8, hr8, hb8, hf8⟩
                         have hbh : Below wr.heap.size wr wh := hbg.trans (hb8.mono hbg.size)
                         have q5 : ((n8 : Int) == 0) = false := by have h1 := hne.out; have h2 := hr8.len; simp; omega)
                      | fail))
                  all_goals
                    go_wp2_with fail
                    go_roundw
                    case rel => exact ⟨k3 + 1, by omega, by omega, by go_num, hbr3.trans (hbh.mono hbr3.size)⟩
                    case measure => simp [intOf]; omega
              · go_wp2_with fail
                go_roundw
                case rel => exact ⟨k2 + 1, by omega, by go_num, hbr3⟩
                case measure => simp [intOf]; omega
          · go_wp2_with fail
            go_roundw
            case rel => exact ⟨k1 + 1, by omega, by go_num, hbr2⟩
            case measure => simp [intOf]; omega
      · have ka := Lib.hid (awake28_any wr (hT4.below hbr hT4.lt))
        have hbw : Below w.heap.size w wr := hb04.trans (hbr.mono hb04.size)
        go_wp2_with (first | (go_at_call 9; refine ka.out.mono ?_; rintro e w9 ⟨rfl, hb9⟩) | fail)
        go_ret
        exact ⟨rfl, hbw.trans (hb9.mono hbw.size)⟩
  · have hv : decide (m0 ≤ 500) = false := by simpa using hfew
    rw [hv] at kf
    replace kf := Lib.hid kf
    have ka := Lib.hid (awake28_any w hT)
    clear hv hfew
    go_enter Tryd.func3, Tryd.ntmps3
    go_wp2_with fail
    refine (kf.out _).mono ?_
    rintro e w1 ⟨rfl, rfl⟩
    go_wp2_with fail
    refine ka.out.mono ?_
    rintro e w1 ⟨rfl, hb1⟩
    go_wp2_with fail
    go_ret
    exact ⟨rfl, hb1⟩
end Go.Proofs.YtfefginhlliccaaDoor.Pl
