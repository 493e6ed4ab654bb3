/- The law PlexCliques. -/
import Derived.Test.YtfefginhlliccaaDoorPlxH
import Derived.Test.YtfefginhlliccaaDoorPlxU
set_option linter.unusedVariables false
set_option linter.unusedSimpArgs false
namespace Go.Proofs.YtfefginhlliccaaDoor.Pl
open Go.RowKit Go.Shelf CoBit CoCli Go.Proofs.YtfefginhlliccaaDoor

set_option maxRecDepth 100000 in
set_option maxHeartbeats 8000000 in
theorem lawCliques_any (A0 : Option Addr) (m0 c0 : Nat) (l : List Int) (k : Nat) (hk8 : k < 256) (lv : Nat) (hl8 : lv < 256) (w : World) (hT : Tab w) (h0 : RI w A0 m0 l) (hmc : m0 ≤ c0) (hm0 : m0 ≤ 1152921504606846976) :
    Calls Tryd.prog 5 #[.slice A0 m0 c0, .int .u8 k, .int .u8 lv] w fun e w' => e = .returned (.bool true) ∧ Below w.heap.size w w' := by
  have kf := fun w => few_any A0 m0 c0 w
  by_cases hfew : m0 ≤ 500
  · have hv : decide (m0 ≤ 500) = true := by simpa using hfew
    rw [hv] at kf
    replace kf := Lib.hid kf
    clear hv hfew
    obtain ⟨q, hq, hq3⟩ : ∃ q : Nat, Hid (q = 1 + k % 3) ∧ (1 : Int) + (k : Int) % 3 = (q : Int) := ⟨1 + k % 3, Lib.hid rfl, by omega⟩
    have hq1 : 1 ≤ q ∧ q ≤ 3 := by have := hq.out; omega
    obtain ⟨p, hp, hp3⟩ : ∃ p : Nat, Hid (p = 1 + lv % 5) ∧ (1 : Int) + (lv : Int) % 5 = (p : Int) := ⟨1 + lv % 5, Lib.hid rfl, by omega⟩
    have hp1 : 1 ≤ p ∧ p ≤ 5 := by have := hp.out; omega
    clear hq hp
    go_enter Tryd.func5, Tryd.ntmps5
    go_wp2_with fail
    refine (kf.out _).mono ?_
    rintro e w1 ⟨rfl, rfl⟩
    go_wp2_with fail
    refine (new_any A0 m0 c0 l w h0 hmc hm0).mono ?_
    rintro e w1 ⟨rfl, hd1, hb1, hs1⟩
    go_wp2_with fail
    refine (mkgraph_any _ 7 _ hd1 (by omega)).mono ?_
    rintro e w2 ⟨n, es, A, m, c, rfl, hmcc, hr2, hf2, hsrt, hn9, hd2, hg2⟩
    have hz := Lib.hid (chk_of_srt hsrt (show (0 : Int) ≤ n by omega) (by omega))
    have hlen : m ≤ 49 := by
      have h1 := srt_len hsrt
      have h2 := hr2.len
      have h3 : n * n ≤ 7 * 7 := Nat.mul_le_mul hn9 hn9
      omega
    have hb2 : Below w.heap.size w w2 := hb1.grown hg2 (by omega) (fun k hk => by injection hk with hk; omega)
    have hs2 := hb2.size
    clear hs1 hb1 hf2 hg2 h0 hd1 hd2
    go_wp2_with fail
    have hG := Blk.new w2 27 #[.int .i64 n, .slice A m c]
    have hr3 := hr2.alloc (.cells #[.int .i64 n, .slice A m c] 27)
    have hb3 := hb2.alloc hs2 (.cells #[.int .i64 n, .slice A m c] 27)
    clear hr2 hb2
    generalize w2.alloc (.cells #[.int .i64 n, .slice A m c] 27) = w3 at *
    generalize w2.heap.size = gg at *
    have hz64 := hz.out
    have hT3 := hT.below hb3 hT.lt
    -- what All says
    have kAll : ∀ (a b : Nat), 1 ≤ a → a ≤ 3 → 1 ≤ b → b ≤ 64 → ∀ w, RE w A m es → Tab w → Calls Tryd.prog 12 #[.agg #[.int .i64 n, .slice A m c], .int .i64 a, .int .i64 b, .int .i64 4096] w (RetLL w ((plexs n es a b []).map nt) 0) := fun a b h1 h2 h3 h4 w hE hT => by
      have hee : errP (n : Int) es (a : Int) (b : Int) = 0 := by unfold errP; rw [if_neg (by omega), if_pos (by omega)]
      have hLs : (plexs n es a b []).length ≤ 256 := plexs_small (by omega) _ _ _ _
      have hea : errA (n : Int) es (a : Int) (b : Int) 4096 = 0 := by
        unfold errA
        rw [if_neg (by rw [hee]; simp), if_neg (by omega), Int.toNat_natCast, Int.toNat_natCast, Int.toNat_natCast, if_neg (by omega)]
      have hal : allL (n : Int) es (a : Int) (b : Int) 4096 = (plexs n es a b []).map nt := by
        unfold allL
        rw [if_pos hea, Int.toNat_natCast, Int.toNat_natCast, Int.toNat_natCast]
      have := callsIn_wide.1 (all_in A m c n es a b 4096 w hE (by omega) hT)
      rwa [hea, hal] at this
    have k1 := kAll 1 1 (by omega) (by omega) (by omega) (by omega)
    have k2 := kAll q 1 hq1.1 hq1.2 (by omega) (by omega)
    have k3 := kAll q p hq1.1 hq1.2 hp1.1 (by omega)
    have hee : errP (n : Int) es (q : Int) (p : Int) = 0 := by unfold errP; rw [if_neg (by omega), if_pos (by omega)]
    have kR := fun w hE hT => reduce_any A m c n es q p w hE (by omega) hT
    have hrc : Hid (∀ l, RedL n es q p l → CoreL n es ((p : Int) - (q : Int)) l) := Lib.hid fun l h => h.1 hee
    simp only [hee] at kR
    have k4 := fun w hE => r24all_any A m c n es (by omega) hz64 w hE (by rw [gro_plexs hz64]; exact Nat.le_trans (plexs_small (by omega) _ _ _ _) (by omega))
    rw [gro_plexs hz64] at k4
    have hin : Hid (∀ x ∈ plexs n es 1 1 [], ∃ y ∈ plexs n es q 1 [], ∀ v ∈ nt x, v ∈ nt y) := Lib.hid fun x hx => in_some hz64 hq1.1 hx
    have hlst := Lib.hid (plexs_least (n := n) (es := es) (q := q) hp1.1)
    have hco : Hid (∀ lr, CoreL n es ((p : Int) - (q : Int)) lr → ∀ y ∈ plexs n es q 1 [], p ≤ y.length → ∀ v ∈ nt y, v ∈ lr) := Lib.hid fun lr hr y hy hl => in_core hz64 hr hy hl
    have hsm1 : ∀ x ∈ plexs n es 1 1 [], x.length ≤ 7 := fun x hx => by obtain ⟨a1, a2, _⟩ := mem_plexs hx; have := len_le a1 a2; omega
    have hsm2 : ∀ x ∈ plexs n es q 1 [], x.length ≤ 7 := fun x hx => by obtain ⟨a1, a2, _⟩ := mem_plexs hx; have := len_le a1 a2; omega
    have hn1 : (plexs n es 1 1 []).length ≤ 256 := plexs_small (by omega) _ _ _ _
    have hn2 : (plexs n es q 1 []).length ≤ 256 := plexs_small (by omega) _ _ _ _
    have hn3 : (plexs n es q p []).length ≤ 256 := plexs_small (by omega) _ _ _ _
    generalize plexs n es 1 1 [] = L1 at *
    generalize plexs n es q 1 [] = L2 at *
    generalize plexs n es q p [] = L3 at *
    replace k1 := Lib.hid k1
    replace k2 := Lib.hid k2
    replace k3 := Lib.hid k3
    replace k4 := Lib.hid k4
    replace kR := Lib.hid kR
    replace hsm1 := Lib.hid hsm1
    replace hsm2 := Lib.hid hsm2
    clear kAll hee hz64 hq3 hp3
    have hg3 := hG.lt
    refine (k1.out w3 hr3 hT3).mono ?_
    rintro e w4 ⟨A4, n4, c4, rfl, hc4, hr4, hb4⟩
    clear k1
    have hG4 := hG.below hb4 hg3
    have hE4 := hr3.below hb4 (Nat.le_refl _)
    have hb04 := hb3.trans (hb4.mono hb3.size)
    have hT4 := hT.below hb04 hT.lt
    have hg4 := hG4.lt
    obtain ⟨d0, d1⟩ := blkG hG4
    clear hG hr3 hb3 hg3 hb4 hT3
    go_wp2_with fail
    refine (k2.out w4 hE4 hT4).mono ?_
    rintro e w5 ⟨A5, n5, c5, rfl, hc5, hr5, hb5⟩
    clear k2 d0 d1
    have hG5 := hG4.below hb5 hg4
    have hE5 := hE4.below hb5 (Nat.le_refl _)
    have hb05 := hb04.trans (hb5.mono hb04.size)
    have hT5 := hT.below hb05 hT.lt
    have hr45 := hr4.below hb5 (Nat.le_refl _)
    have hg5 := hG5.lt
    obtain ⟨d0, d1⟩ := blkG hG5
    clear hG4 hE4 hb04 hT4 hr4 hb5 hg4
    go_wp2_with fail
    refine (k3.out w5 hE5 hT5).mono ?_
    rintro e w6 ⟨A6, n6, c6, rfl, hc6, hr6, hb6⟩
    clear k3 d0 d1
    have hG6 := hG5.below hb6 hg5
    have hE6 := hE5.below hb6 (Nat.le_refl _)
    have hb06 := hb05.trans (hb6.mono hb05.size)
    have hT6 := hT.below hb06 hT.lt
    have hr46 := hr45.below hb6 (Nat.le_refl _)
    have hr56 := hr5.below hb6 (Nat.le_refl _)
    have hg6 := hG6.lt
    obtain ⟨d0, d1⟩ := blkG hG6
    clear hG5 hE5 hb05 hT5 hr45 hr5 hb6 hg5
    go_wp2_with fail
    refine (kR.out w6 hE6 hT6).mono ?_
    rintro e w7 ⟨lr, ⟨A7, n7, c7, rfl, hc7, hr7, hb7, -⟩, hlr⟩
    clear kR d0 d1
    have hlr2 := hrc.out lr hlr
    have hG7 := hG6.below hb7 hg6
    have hE7 := hE6.below hb7 (Nat.le_refl _)
    have hb07 := hb06.trans (hb7.mono hb06.size)
    have hT7 := hT.below hb07 hT.lt
    have hr47 := hr46.below hb7 (Nat.le_refl _)
    have hr57 := hr56.below hb7 (Nat.le_refl _)
    have hr67 := hr6.below hb7 (Nat.le_refl _)
    have hg7 := hG7.lt
    obtain ⟨d0, d1⟩ := blkG hG7
    have hn7 : n7 ≤ 64 := by
      have h1 := vld_length (hlr2.1 hz.out).1
      have := hr7.len; omega
    have hcor := Lib.hid (hco.out lr hlr2)
    clear hG6 hE6 hb06 hT6 hr46 hr56 hr6 hb7 hg6 hrc hlr hlr2 hco
    go_wp2_with fail
    refine (k4.out w7 hE7).mono ?_
    rintro e w8 ⟨A8, n8, c8, rfl, hc8, hr8, hb8⟩
    clear k4 d0 d1
    have hb08 := hb07.trans (hb8.mono hb07.size)
    have hT8 := hT.below hb08 hT.lt
    have hr48 := hr47.below hb8 (Nat.le_refl _)
    have hr58 := hr57.below hb8 (Nat.le_refl _)
    have hr68 := hr67.below hb8 (Nat.le_refl _)
    have hr78 := hr7.below hb8 (Nat.le_refl _)
    have hl4 : n4 = L1.length := by have := hr48.len; rw [List.length_map] at this; exact this.symm
    have hl5 : n5 = L2.length := by have := hr58.len; rw [List.length_map] at this; exact this.symm
    have hl6 : n6 = L3.length := by have := hr68.len; rw [List.length_map] at this; exact this.symm
    have hl8 : n8 = L1.length := by have := hr8.len; rw [List.length_map] at this; exact this.symm
    have hn4 : n4 ≤ 256 := by omega
    have hn5 : n5 ≤ 256 := by omega
    have hn6 : n6 ≤ 256 := by omega
    have hn8 : n8 ≤ 256 := by omega
    have hsl : ∀ x ∈ L1.map nt, x.length ≤ 1099511627776 := fun x hx => by
      rw [List.mem_map] at hx
      obtain ⟨y, hy, rfl⟩ := hx
      have := hsm1.out y hy
      rw [nt_length]; omega
    have kS := r24same_any A4 A8 n4 c4 n8 c8 (L1.map nt) (L1.map nt) w8 hr48 hr8 (by omega) (by omega) hsl hsl
    rw [decide_eq_true rfl] at kS
    replace kS := Lib.hid kS
    replace hl4 := Lib.hid hl4
    replace hl5 := Lib.hid hl5
    replace hl6 := Lib.hid hl6
    replace hl8 := Lib.hid hl8
    clear hsl hG7 hE7 hb07 hT7 hr47 hr57 hr67 hb8 hg7 hr7 hn1 hn2 hn3
    go_upto_region 12 with (first | (go_at_call 23; refine kS.out.mono ?_; rintro e w9 ⟨rfl, hb9⟩) | fail)
    have hb09 := hb08.trans (hb9.mono hb08.size)
    have hT9 := hT.below hb09 hT.lt
    have hr59 := hr58.below hb9 (Nat.le_refl _)
    have hr69 := hr68.below hb9 (Nat.le_refl _)
    have hr79 := hr78.below hb9 (Nat.le_refl _)
    have hr89 := hr8.below hb9 (Nat.le_refl _)
    clear kS hb08 hT8 hr48 hr58 hr68 hr78 hr8 hb9
    go_wp2_with fail
    go_loopw [95] (fun i wr => ∃ k1 : Nat, k1 ≤ n8 ∧ i = .int .i64 k1 ∧ Below w9.heap.size w9 wr) (fun i _ => n8 - (intOf i).toNat)
    case atStart => exact ⟨0, Nat.zero_le _, rfl, Below.refl _ _⟩
    case round =>
      obtain ⟨k1, hk1, rfl, hbr⟩ := hrel
      by_cases hlt1 : k1 < n8
      · obtain ⟨ad8, Ax, nx, cx, xs, rfl, hcell8, hxs, hnx, hrx, had8⟩ := hr89.get hlt1
        have hcell := (hbr.cell (p := ad8.add k1) (by rw [block_of_add]; exact had8)).trans hcell8
        obtain ⟨X, hXL, rfl⟩ : ∃ X, X ∈ L1 ∧ nt X = xs := by
          have := List.mem_of_getElem? hxs.out
          rw [List.mem_map] at this
          obtain ⟨S, h1, h2⟩ := this
          exact ⟨S, h1, h2⟩
        have hrx' := rs_ri.1 hrx
        have hnx7 : nx ≤ 7 := by have h1 := hrx'.len; rw [nt_length] at h1; have := hsm1.out X hXL; omega
        have hany : Hid ((L2.any fun y => decide (∀ v ∈ nt X, v ∈ nt y)) = true) := Lib.hid (by
          obtain ⟨y, hy, hxy⟩ := hin.out X hXL
          exact List.any_eq_true.2 ⟨y, hy, decide_eq_true hxy⟩)
        have i1 : (k1 : Int) < (n8 : Int) := by omega
        go_wp2_with fail
        clear hcell hcell8 hxs hrx
        go_loopw [22, 101] (fun b j wr => ∃ (bb : Bool) (k2 : Nat), b = .bool bb ∧ k2 ≤ n5 ∧ j = .int .i64 k2 ∧ Hid (bb = (L2.take k2).any fun y => decide (∀ v ∈ nt X, v ∈ nt y)) ∧ Below w9.heap.size w9 wr) (fun _ j _ => n5 - (intOf j).toNat)
        case atStart => exact ⟨false, 0, rfl, Nat.zero_le _, rfl, Lib.hid rfl, hbr⟩
        case round =>
          obtain ⟨bb, k2, rfl, hk2, rfl, hbb, hbr2⟩ := hrel
          by_cases hlt2 : k2 < n5
          · obtain ⟨ad5, Ay, ny, cy, ys, rfl, hcell5, hys, hny, hry, had5⟩ := hr59.get hlt2
            have hcell2 := (hbr2.cell (p := ad5.add k2) (by rw [block_of_add]; exact had5)).trans hcell5
            obtain ⟨Y, hY, rfl⟩ : ∃ Y, L2[k2]? = some Y ∧ nt Y = ys := by
              have := hys.out
              rw [List.getElem?_map, Option.map_eq_some_iff] at this
              exact this
            have hry' := (rs_ri.1 hry).below hbr2 (Nat.le_refl _)
            have hrx2 := hrx'.below hbr2 (Nat.le_refl _)
            have hny7 : ny ≤ 7 := by have h1 := hry'.len; rw [nt_length] at h1; have := hsm2.out Y (List.mem_of_getElem? hY); omega
            have i2 : (k2 : Int) < (n5 : Int) := by omega
            have hst : Hid (∀ b', b' = decide (∀ v ∈ nt X, v ∈ nt Y) → ((L2.take (k2 + 1)).any fun y => decide (∀ v ∈ nt X, v ∈ nt y)) = (bb || b')) := Lib.hid fun b' hb' => by
              rw [List.take_add_one, List.any_append, ← hbb.out, hY, hb']; simp
            clear hcell5 hys hry hY
            cases bb with
            | true =>
              have hb2 : Hid (true = (L2.take (k2 + 1)).any fun y => decide (∀ v ∈ nt X, v ∈ nt y)) := Lib.hid (by rw [hst.out _ rfl]; rfl)
              clear hst hbb
              go_wp2_with fail
              go_roundw
              case rel => exact ⟨true, k2 + 1, rfl, by omega, by go_num, hb2, hbr2⟩
              case measure => simp [intOf]; omega
            | false =>
              have kw := within2_any Ax Ay nx cx ny cy (nt X) (nt Y) wr hrx2 (by omega) hry' (by omega)
              have hb2 : Hid (∀ b', b' = decide (∀ v ∈ nt X, v ∈ nt Y) → b' = (L2.take (k2 + 1)).any fun y => decide (∀ v ∈ nt X, v ∈ nt y)) := Lib.hid (fun b' hb' => by rw [hst.out _ hb']; rfl)
              have hb3 := Lib.hid (hb2.out _ rfl)
              generalize decide (∀ v ∈ nt X, v ∈ nt Y) = b' at *
              clear hb2 hst hbb
              replace kw := Lib.hid kw
              go_wp2_with (first | (go_at_call 24; refine kw.out.mono ?_; rintro e wx ⟨rfl, hwx⟩; obtain rfl := hwx) | fail)
              go_roundw
              case rel => exact ⟨b', k2 + 1, rfl, by omega, by go_num, hb3, hbr2⟩
              case measure => simp [intOf]; omega
          · have hbt : bb = true := by
              have := hbb.out
              rw [List.take_of_length_le (by have := hl5.out; omega), hany.out] at this
              exact this
            subst hbt
            have i2 : ¬ (k2 : Int) < (n5 : Int) := by omega
            go_wp2_with fail
            go_roundw
            case rel => exact ⟨k1 + 1, by omega, by go_num, hbr2⟩
            case measure => simp [intOf]; omega
      · have i1 : ¬ (k1 : Int) < (n8 : Int) := by omega
        clear hr89 hin hsm1
        go_wp2_with fail
        go_loopw [25, 117] (fun c i wr => ∃ (k3 fw : Nat), k3 ≤ n5 ∧ Hid (fw = few L2 p k3) ∧ fw ≤ k3 ∧ c = .int .i64 fw ∧ i = .int .i64 k3 ∧ Below w9.heap.size w9 wr) (fun _ i _ => n5 - (intOf i).toNat)
        case atStart => exact ⟨0, 0, Nat.zero_le _, Lib.hid rfl, Nat.le_refl _, rfl, rfl, hbr⟩
        case round =>
          obtain ⟨k3, fw, hk3, hfw, hfk, rfl, rfl, hbr3⟩ := hrel
          by_cases hlt3 : k3 < n5
          · obtain ⟨ad5, Ay, ny, cy, ys, rfl, hcell5, hys, hny, hry, had5⟩ := hr59.get hlt3
            have hcell2 := (hbr3.cell (p := ad5.add k3) (by rw [block_of_add]; exact had5)).trans hcell5
            obtain ⟨Y, hY, rfl⟩ : ∃ Y, L2[k3]? = some Y ∧ nt Y = ys := by
              have := hys.out
              rw [List.getElem?_map, Option.map_eq_some_iff] at this
              exact this
            have hry' := (rs_ri.1 hry).below hbr3 (Nat.le_refl _)
            have hYm := List.mem_of_getElem? hY
            have hnyl : ny = Y.length := by have h1 := hry'.len; rw [nt_length] at h1; exact h1.symm
            have hny7 : ny ≤ 7 := by have := hsm2.out Y hYm; omega
            have i2 : (k3 : Int) < (n5 : Int) := by omega
            have hst := few_step (p := p) hY
            by_cases hpl : p ≤ Y.length
            · rw [if_pos hpl, ← hfw.out] at hst
              have hst2 : Hid (fw + 1 = few L2 p (k3 + 1)) := Lib.hid hst.symm
              have hL3 : L3[fw]? = some Y := by rw [hlst.out, hfw.out]; exact few_at hY hpl
              have hf6 : fw < n6 := by
                have h1 := (List.getElem?_eq_some_iff.1 hL3).1
                have := hl6.out; omega
              obtain ⟨ad6, Az, nz, cz, zs, rfl, hcell6, hzs, hnz, hrz, had6⟩ := hr69.get hf6
              have hcell3 := (hbr3.cell (p := ad6.add fw) (by rw [block_of_add]; exact had6)).trans hcell6
              have hze : zs = nt Y := by have := hzs.out; rw [List.getElem?_map, hL3] at this; injection this with this; exact this.symm
              subst hze
              have hrz' := (rs_ri.1 hrz).below hbr3 (Nat.le_refl _)
              have hnz7 : nz ≤ 7 := by have h1 := hrz'.len; rw [nt_length] at h1; omega
              have hr7r := hr79.below hbr3 (Nat.le_refl _)
              have i3 : (fw : Int) < (n6 : Int) := by omega
              have i4 : ¬ (ny : Int) < (p : Int) := by omega
              have i5 : ¬ (n6 : Int) ≤ (fw : Int) := by omega
              have kc := cmp2_any Az Ay nz cz ny cy (nt Y) (nt Y) wr hrz' (by omega) hry' (by omega)
              rw [cmp_self] at kc
              have kw := fun w h h' => within2_any Ay A7 ny cy n7 c7 (nt Y) lr w h (by omega) h' (by omega)
              rw [decide_eq_true (hcor.out Y hYm hpl)] at kw
              replace kc := Lib.hid kc
              replace kw := Lib.hid kw
              replace hnyl := Lib.hid hnyl
              clear hst hL3 hcell5 hcell6 hys hzs hry hrz hY hfw
              go_wp2_with (first
                | (go_at_call 25; refine kc.out.mono ?_; rintro e wx ⟨rfl, qx, rfl⟩)
                | (go_at_call 24; refine (kw.out _ (hry'.drewN _) (hr7r.drewN _)).mono ?_; rintro e wy ⟨rfl, hwy⟩; obtain rfl := hwy)
                | fail)
              go_roundw
              case rel => exact ⟨k3 + 1, fw + 1, by omega, hst2, by omega, by go_num, by go_num, below_drewN hbr3 _⟩
              case measure => simp [intOf]; omega
            · rw [if_neg hpl, ← hfw.out] at hst
              have hst2 : Hid (fw = few L2 p (k3 + 1)) := Lib.hid hst.symm
              have i4 : (ny : Int) < (p : Int) := by omega
              replace hnyl := Lib.hid hnyl
              clear hst hcell5 hys hry hY hfw
              go_wp2_with fail
              go_roundw
              case rel => exact ⟨k3 + 1, fw, by omega, hst2, by omega, rfl, by go_num, hbr3⟩
              case measure => simp [intOf]; omega
          · have hfn : fw = n6 := by
              rw [hl6.out, hlst.out, ← few_all, hfw.out]
              rw [show k3 = L2.length by have := hl5.out; omega]
            have i6 : ((fw : Int) == (n6 : Int)) = true := by rw [hfn]; simp
            have i2 : ¬ (k3 : Int) < (n5 : Int) := by omega
            have ka := Lib.hid (awake28_any wr (hT9.below hbr3 hT9.lt))
            have hbw : Below w.heap.size w wr := hb09.trans (hbr3.mono hb09.size)
            replace hfn := Lib.hid hfn
            go_wp2_with (first | (go_at_call 9; refine ka.out.mono ?_; rintro e wz ⟨rfl, hbz⟩) | fail)
            go_ret
            exact ⟨rfl, hbw.trans (hbz.mono hbw.size)⟩
  · have hv : decide (m0 ≤ 500) = false := by simpa using hfew
    rw [hv] at kf
    replace kf := Lib.hid kf
    have ka := Lib.hid (awake28_any w hT)
    clear hv hfew
    go_enter Tryd.func5, Tryd.ntmps5
    go_wp2_with fail
    refine (kf.out _).mono ?_
    rintro e w1 ⟨rfl, rfl⟩
    go_wp2_with fail
    refine ka.out.mono ?_
    rintro e w1 ⟨rfl, hb1⟩
    go_wp2_with fail
    go_ret
    exact ⟨rfl, hb1⟩
end Go.Proofs.YtfefginhlliccaaDoor.Pl
