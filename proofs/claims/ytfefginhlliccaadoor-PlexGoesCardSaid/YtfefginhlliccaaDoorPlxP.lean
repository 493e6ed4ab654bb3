/- The law PlexGoes. -/
import Derived.Test.YtfefginhlliccaaDoorPlxH
import Derived.Test.YtfefginhlliccaaDoorPlxO
import Derived.Test.YtfefginhlliccaaDoorMakC
import Derived.Test.YtfefginhlliccaaDoorSrtM
import Derived.Test.YtfefginhlliccaaDoorRCoB
import Derived.Lib.QuietBelow
set_option linter.unusedVariables false
set_option linter.unusedSimpArgs false
namespace Go.Proofs.YtfefginhlliccaaDoor.Pl
open Go.RowKit Go.Shelf CoBit CoCli Go.Proofs.YtfefginhlliccaaDoor

attribute [local irreducible] wpQuiet in
set_option maxRecDepth 100000 in
set_option maxHeartbeats 8000000 in
theorem lawGoes_any (A0 : Option Addr) (m0 c0 : Nat) (l : List Int) (k : Nat) (hk8 : k < 256) (lv : Nat) (hl8 : lv < 256) (w : World) (hT : Tab w) (h0 : RI w A0 m0 l) (hmc : m0 ≤ c0) (hm0 : m0 ≤ 1152921504606846976) :
    Calls Tryd.prog 7 #[.slice A0 m0 c0, .int .u8 k, .int .u8 lv] w fun e w' => e = .returned (.bool true) ∧ Below w.heap.size w w' := by
  have kf := fun w => few_any A0 m0 c0 w
  by_cases hfew : m0 ≤ 500
  · have hv : decide (m0 ≤ 500) = true := by simpa using hfew
    rw [hv] at kf
    replace kf := Lib.hid kf
    clear hv hfew
    obtain ⟨q, hq, hq3⟩ : ∃ q : Nat, Hid (q = 1 + k % 3) ∧ (1 : Int) + (k : Int) % 3 = (q : Int) := ⟨1 + k % 3, Lib.hid rfl, by omega⟩
    have hq1 : 1 ≤ q ∧ q ≤ 3 := by have := hq.out; omega
    obtain ⟨p, hp, hp3⟩ : ∃ p : Nat, Hid (p = 1 + lv % 4) ∧ (1 : Int) + (lv : Int) % 4 = (p : Int) := ⟨1 + lv % 4, Lib.hid rfl, by omega⟩
    have hp1 : 1 ≤ p ∧ p ≤ 4 := by have := hp.out; omega
    clear hq hp
    go_enter Tryd.func7, Tryd.ntmps7
    go_wp2_with fail
    refine (kf.out _).mono ?_
    rintro e w1 ⟨rfl, rfl⟩
    go_wp2_with fail
    refine (new_any A0 m0 c0 l w h0 hmc hm0).mono ?_
    rintro e w1 ⟨rfl, hd1, hb1, hs1⟩
    go_wp2_with fail
    refine (mkgraph_any _ 7 _ hd1 (by omega)).mono ?_
    rintro e w2 ⟨n, es, A, m, c, rfl, hmcc, hr2, hf2, hsrt, hn9, hd2, hg2⟩
    have hz := Lib.hid (chk_of_srt hsrt (show (0 : Int) ≤ n by omega) (by omega))
    have hlen : m ≤ 49 := by
      have h1 := srt_len hsrt
      have h2 := hr2.len
      have h3 : n * n ≤ 7 * 7 := Nat.mul_le_mul hn9 hn9
      omega
    have hb2 : Below w.heap.size w w2 := hb1.grown hg2 (by omega) (fun k hk => by injection hk with hk; omega)
    have hs2 := hb2.size
    clear hs1 hb1 hf2 hg2 h0 hd1 hd2
    go_wp2_with fail
    have hG := Blk.new w2 27 #[.int .i64 n, .slice A m c]
    have hr3 := hr2.alloc (.cells #[.int .i64 n, .slice A m c] 27)
    have hb3 := hb2.alloc hs2 (.cells #[.int .i64 n, .slice A m c] 27)
    clear hr2 hb2
    generalize w2.alloc (.cells #[.int .i64 n, .slice A m c] 27) = w3 at *
    generalize w2.heap.size = gg at *
    have hz64 := hz.out
    have hee : errP (n : Int) es (q : Int) (p : Int) = 0 := by unfold errP; rw [if_neg (by omega), if_pos (by omega)]
    have hee' := Lib.hid hee
    obtain ⟨L, hL⟩ : ∃ L : List (List Nat), L = plexs n es q p [] := ⟨_, rfl⟩
    have hLs : L.length ≤ 256 := by rw [hL]; exact plexs_small (by omega) _ _ _ _
    have hea : errA (n : Int) es (q : Int) (p : Int) 4096 = 0 := by
      unfold errA
      rw [if_neg (by rw [hee]; simp), if_neg (by omega), Int.toNat_natCast, Int.toNat_natCast, Int.toNat_natCast, ← hL, if_neg (by omega)]
    have hal : allL (n : Int) es (q : Int) (p : Int) 4096 = L.map nt := by
      unfold allL
      rw [if_pos hea, Int.toNat_natCast, Int.toNat_natCast, Int.toNat_natCast, ← hL]
    have kA := callsIn_wide.1 (all_in A m c n es q p 4096 w3 hr3 (by omega) (hT.below hb3 hT.lt))
    rw [hea, hal] at kA
    have hmem : Hid (∀ S ∈ L, S.Pairwise (· < ·) ∧ (∀ x ∈ S, x < n) ∧ p ≤ S.length ∧ maxB n es (nt S) q = true) := Lib.hid fun S hS => by
      rw [hL] at hS
      obtain ⟨a1, a2, a3, a4, _⟩ := mem_plexs hS
      exact ⟨a1, a2, a3, by rw [maxB_of hz64 hq1.1 hq1.2 a1 a2, decide_eq_true a4]⟩
    have hnx : Hid (∀ i, i ≤ L.length → nextO (n : Int) es (q : Int) (p : Int) (aft L i) = L[i]?) := Lib.hid fun i hi => by
      unfold nextO
      rw [if_pos hee, Int.toNat_natCast, Int.toNat_natCast, Int.toNat_natCast]
      rw [hL] at hi ⊢
      exact next_at n es q p i hi
    have kN := fun Aa na ca af w hE hT ha hna hnc => callsIn_wide.1 (next_in A m c n es q p Aa na ca af w hE (by omega) hT ha hna hnc)
    simp only [hee] at kN
    have kM := fun A2 m2 c2 xs w hE hT h2 hm2 => maximal_any A m c n es A2 m2 c2 xs q w hE (by omega) hT h2 hm2
    have kC := fun w h => rCore_any A m c n es ((p : Int) - (q : Int)) w h (by omega)
    have kR := fun w hE hT => reduce_any A m c n es q p w hE (by omega) hT
    simp only [hee] at kR
    replace kN := Lib.hid kN
    replace kM := Lib.hid kM
    replace kC := Lib.hid kC
    replace kR := Lib.hid kR
    clear hee hea hal hL hz64 hq3 hp3
    have hg3 := hG.lt
    refine kA.mono ?_
    rintro e w4 ⟨A4, n4, c4, rfl, hc4, hr4, hb4⟩
    have hn4 : n4 = L.length := by have := hr4.len; rw [List.length_map] at this; exact this.symm
    have hG4 := hG.below hb4 hG.lt
    have hrE4 := hr3.below hb4 (Nat.le_refl _)
    have hb04 := hb3.trans (hb4.mono hb3.size)
    have hT4 := hT.below hb04 hT.lt
    have hgg4 : gg < w4.heap.size := hG4.lt
    have hn256 : n4 ≤ 256 := by omega
    replace hn4 := Lib.hid hn4
    clear kA hG hr3 hb3 hg3 hLs hb4
    go_wp2_with fail
    go_loopw [12, 13] (fun a i wr => ∃ (k1 na : Nat) (Aa : Option Addr) (ca : Nat), k1 ≤ n4 + 1 ∧ a = .slice Aa na ca ∧ na ≤ ca ∧ na ≤ 64 ∧ RI wr Aa na (aft L k1) ∧ i = .int .i64 k1 ∧ Below w4.heap.size w4 wr) (fun _ i _ => n4 + 1 - (intOf i).toNat)
    case atStart => exact ⟨0, 0, none, 0, Nat.zero_le _, rfl, Nat.le_refl _, by omega, RI.none_, rfl, Below.refl _ _⟩
    case round =>
      obtain ⟨k1, na, Aa, ca, hk1, rfl, hnc, hna, hra, rfl, hbr⟩ := hrel
      by_cases hlt1 : k1 ≤ n4
      · have i1 : (k1 : Int) ≤ (n4 : Int) := by omega
        have hG6 := hG4.below hbr hgg4
        obtain ⟨d0, d1⟩ := blkG hG6
        have hE6 := hrE4.below hbr (Nat.le_refl _)
        have hT6 := hT4.below hbr hT4.lt
        have kn := kN.out Aa na ca (aft L k1) wr hE6 hT6 hra (by omega) hnc
        rw [hnx.out k1 (by have := hn4.out; omega)] at kn
        replace kn := Lib.hid kn
        go_wp2_with fail
        refine kn.out.mono ?_
        clear kn
        rintro e w5 ⟨A5, n5, c5, rfl, hc5, hr5, hb5⟩
        have hbr5 : Below w4.heap.size w4 w5 := hbr.trans (hb5.mono hbr.size)
        have hG7 := hG4.below hbr5 hgg4
        obtain ⟨f0, f1⟩ := blkG hG7
        have hE7 := hrE4.below hbr5 (Nat.le_refl _)
        have hT7 := hT4.below hbr5 hT4.lt
        have hx : ((L[k1]?.map nt).getD []) = aft L (k1 + 1) := by
          show _ = nt (L.getD k1 [])
          rw [List.getD_eq_getElem?_getD]
          cases L[k1]? <;> rfl
        rw [hx] at hr5
        clear hx
        by_cases hlt2 : k1 < n4
        · obtain ⟨ad4, A6, n6, c6, ys, rfl, hcell4, hys, hn6, hr6, had⟩ := hr4.get hlt2
          have hcell := (hbr5.cell (p := ad4.add k1) (by rw [block_of_add]; exact had)).trans hcell4
          have hr6' := rs_ri.1 hr6
          have hr6 := hr6'.below hbr5 (Nat.le_refl _)
          obtain ⟨S, hSL, hSx, hSa⟩ : ∃ S, S ∈ L ∧ nt S = ys ∧ L[k1]? = some S := by
            have := hys.out
            rw [List.getElem?_map, Option.map_eq_some_iff] at this
            obtain ⟨S, h1, h2⟩ := this
            exact ⟨S, List.mem_of_getElem? h1, h2, h1⟩
          obtain ⟨hSs, hSn, hSl, hSm⟩ := hmem.out S hSL
          have hae : aft L (k1 + 1) = nt S := by show nt (L.getD k1 []) = _; rw [List.getD_eq_getElem?_getD, hSa]; rfl
          subst hSx
          have hSo : L[k1]?.isSome = true := by rw [hSa]; rfl
          rw [hSo]
          have hr5' := hr5
          rw [hae] at hr5'
          have hn5 : n5 = S.length := by have := hr5'.len; rw [nt_length] at this; exact this.symm
          have hn5b : n5 ≤ 64 := by
            have h2 := List.Nodup.length_le_of_subset (l₁ := S) (l₂ := List.range n) (hSs.imp (fun h => Nat.ne_of_lt h)) (fun x hx => List.mem_range.2 (hSn x hx))
            rw [List.length_range] at h2
            omega
          have hn6b : n6 ≤ 64 := by have := hr6'.len; rw [nt_length] at this; omega
          have hlen2 : ¬ (n5 : Int) < (p : Int) := by omega
          have i2 : (k1 : Int) < (n4 : Int) := by omega
          have kc := fun w h h' => cmp2_any A5 A6 n5 c5 n6 c6 (nt S) (nt S) w h (by omega) h' (by omega)
          rw [cmp_self] at kc
          have km := fun w hE hT h2 => kM.out A5 n5 c5 (nt S) w hE hT h2 (by omega)
          rw [hSm] at km
          replace kc := Lib.hid kc
          replace km := Lib.hid km
          clear hSo hae hSa hSL hSs hSn hSl hSm hys hr6' hcell4 d0 d1 hG6 hE6 hT6 hG7 had hn5
          go_wp2_with (first
            | (go_at_call 25; refine (kc.out w5 hr5' hr6).mono ?_; rintro e w7 ⟨rfl, q7, rfl⟩)
            | (go_at_call 19; refine (km.out _ (hE7.drewN _) (hT7.below (below_drewN (Below.refl _ _) _) hT7.lt) (hr5'.drewN _)).mono ?_; rintro e w8 ⟨rfl, hb8⟩)
            | fail)
          have hbx := hbr5.trans ((below_drewN (Below.refl w5.heap.size w5) q7).mono hbr5.size)
          have hbx2 := hbx.trans (hb8.mono hbx.size)
          have hr8 := (hr5.drewN q7).below hb8 (Nat.le_refl _)
          go_roundw
          case rel => exact ⟨k1 + 1, n5, A5, c5, by omega, rfl, hc5, hn5b, hr8, by go_num, hbx2⟩
          case measure => simp [intOf]; omega
        · have hSo : L[k1]?.isSome = false := by rw [List.getElem?_eq_none (by have := hn4.out; omega)]; rfl
          rw [hSo]
          have hn5b : n5 ≤ 64 := by
            have h1 := hr5.len
            have : aft L (k1 + 1) = [] := by show nt (L.getD k1 []) = _; rw [List.getD_eq_getElem?_getD, List.getElem?_eq_none (by have := hn4.out; omega)]; rfl
            rw [this] at h1
            simp at h1; omega
          have i2 : ¬ (k1 : Int) < (n4 : Int) := by omega
          clear hSo
          go_wp2_with fail
          go_roundw
          case rel => exact ⟨k1 + 1, n5, A5, c5, by omega, rfl, hc5, hn5b, hr5, by go_num, hbr5⟩
          case measure => simp [intOf]; omega
      · have i1 : ¬ (k1 : Int) ≤ (n4 : Int) := by omega
        have hG6 := hG4.below hbr hgg4
        obtain ⟨d0, d1⟩ := blkG hG6
        have hE6 := hrE4.below hbr (Nat.le_refl _)
        have hT6 := hT4.below hbr hT4.lt
        clear hr4 hra kN kM hmem hnx
        go_wp2_with fail
        refine (kC.out wr hE6).mono ?_
        clear kC
        rintro e w5 ⟨lc, ⟨A5, n5, c5, rfl, hc5, hr5, hb5, hf5⟩, hlc⟩
        have hbr5 : Below w4.heap.size w4 w5 := hbr.trans (hb5.mono hbr.size)
        have hG7 := hG4.below hbr5 hgg4
        obtain ⟨f0, f1⟩ := blkG hG7
        have hE7 := hrE4.below hbr5 (Nat.le_refl _)
        have hT7 := hT4.below hbr5 hT4.lt
        clear d0 d1
        go_wp2_with fail
        refine (kR.out w5 hE7 hT7).mono ?_
        clear kR
        rintro e w6 ⟨lr, ⟨A6, n6, c6, rfl, hc6, hr6, hb6, hf6⟩, hlr⟩
        have hbr6 : Below w4.heap.size w4 w6 := hbr5.trans (hb6.mono hbr5.size)
        have heq : lr = lc := coreL_unique (hlr.1 hee'.out) hlc
        subst heq
        have hr5' := hr5.below hb6 (Nat.le_refl _)
        have hlen : n5 ≤ 64 := by
          have h1 := hlc.1 hz.out
          have h2 := vld_length h1.1
          have := hr5.len; omega
        have hn6 : n6 ≤ 64 := by have h1 := hr6.len; have h2 := hr5.len; omega
        have kc := cmp2_any A5 A6 n5 c5 n6 c6 lr lr w6 hr5' (by omega) hr6 (by omega)
        rw [cmp_self] at kc
        replace kc := Lib.hid kc
        have ka := Lib.hid (fun q => awake28_any (w6.drewN q) (hT4.below (below_drewN hbr6 q) hT4.lt))
        have hbw : Below w.heap.size w w6 := hb04.trans (hbr6.mono hb04.size)
        clear f0 f1 hlr hlc hr5 hr6 hr5' hf5 hf6 hG6 hG7
        go_wp2_with (first
          | (go_at_call 25; refine kc.out.mono ?_; rintro e w7 ⟨rfl, q7, rfl⟩)
          | (go_at_call 9; refine (ka.out _).mono ?_; rintro e w9 ⟨rfl, hb9⟩)
          | fail)
        go_ret
        exact ⟨rfl, (below_drewN hbw _).trans (hb9.mono (below_drewN hbw _).size)⟩
  · have hv : decide (m0 ≤ 500) = false := by simpa using hfew
    rw [hv] at kf
    replace kf := Lib.hid kf
    have ka := Lib.hid (awake28_any w hT)
    clear hv hfew
    go_enter Tryd.func7, Tryd.ntmps7
    go_wp2_with fail
    refine (kf.out _).mono ?_
    rintro e w1 ⟨rfl, rfl⟩
    go_wp2_with fail
    refine ka.out.mono ?_
    rintro e w1 ⟨rfl, hb1⟩
    go_wp2_with fail
    go_ret
    exact ⟨rfl, hb1⟩
end Go.Proofs.YtfefginhlliccaaDoor.Pl
