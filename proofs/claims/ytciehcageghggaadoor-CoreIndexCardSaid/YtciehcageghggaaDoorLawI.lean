/- The law CoreIndex: its walk. -/
import Derived.Test.YtciehcageghggaaDoorLawO
import Derived.Test.YtciehcageghggaaDoorRHA
import Derived.IntWalk
set_option linter.unusedVariables false
namespace Go.Proofs.YtciehcageghggaaDoor
open Go.RowKit CoBit

theorem take_map {f : Int → Int} {l : List Int} {j : Nat} {x : Int} (h : l[j]? = some x) : (l.take (j + 1)).map f = (l.take j).map f ++ [f x] := by rw [take_at h, List.map_append]; rfl

set_option maxRecDepth 100000 in
set_option maxHeartbeats 2000000 in
theorem lawIndex_any (A0 : Option Addr) (m0 c0 : Nat) (l : List Int) (K0 : Int) (w : World) (hT : Tab w) (h0 : RI w A0 m0 l) (hmc : m0 ≤ c0) (hm0 : m0 ≤ 1152921504606846976) :
    Calls Tryd.prog 6 #[.slice A0 m0 c0, .int .i64 K0] w fun e w' => e = .returned (.bool true) ∧ Below w.heap.size w w' := by
  obtain ⟨K, hK⟩ : ∃ K, K = K0 % 8 := ⟨_, rfl⟩
  have hK0 : 0 ≤ K := by omega
  have hK1 : K < 8 := by omega
  have hm := fun w => mkmod_any K0 8 w (by omega) (by omega)
  rw [← hK] at hm
  replace hm := Lib.hid hm
  clear hK
  go_enter Tryd.func6, Tryd.ntmps6
  go_wp2_with fail
  refine (new_any A0 m0 c0 l w h0 hmc hm0).mono ?_
  rintro e w1 ⟨rfl, hd1, hb1, hs1⟩
  go_wp2_with fail
  refine (mkgraph_any _ 9 _ hd1 (by omega)).mono ?_
  rintro e w2 ⟨n, es, A, m, c, rfl, hmcc, hr2, hf2, hsrt, hn9, hd2, hg2⟩
  have hz := Lib.hid (chk_of_srt hsrt (by omega) (by omega))
  have hlen : m ≤ 81 := by
    have h1 := srt_len hsrt
    have h2 := hr2.len
    have h3 : n * n ≤ 9 * 9 := Nat.mul_le_mul hn9 hn9
    omega
  have hb2 : Below w.heap.size w w2 := hb1.grown hg2 (by omega) (fun k hk => by injection hk with hk; omega)
  have hs2 := hb2.size
  clear hs1 hb1 hf2 hg2 h0 hd2
  go_wp2_with fail
  generalize hw3 : w2.alloc (.cells #[.int .i64 n, .slice A m c] 28) = w3
  have hG : Blk w3 w2.heap.size 28 #[.int .i64 n, .slice A m c] := hw3 ▸ Blk.new w2 _ _
  have hr3 : RE w3 A m es := hw3 ▸ hr2.alloc _
  have hb3 : Below w.heap.size w w3 := hw3 ▸ hb2.alloc hs2 _
  have hT3 := hT.keep hb3
  clear hw3 hr2 hb2
  generalize w2.heap.size = gg at *
  have hgl := hG.lt
  refine (cNumbers_any A m c n es w3 hT3 hr3 (by omega)).mono ?_
  rintro e w4 ⟨ns, ⟨A4, n4, c4, rfl, hn4, hr4, hb4, hf4⟩, hN⟩
  have hNs := Lib.hid (hN.1 hz.out)
  rw [Int.toNat_natCast] at hNs
  rw [hz.out]
  obtain rfl : n = n4 := by rw [← hr4.len, hNs.out.1]
  have hG4 := hG.below hb4 hgl
  obtain ⟨k40, k41⟩ := blk2 hG4
  have hr34 := hr3.below hb4 (Nat.le_refl _)
  have hbb4 := hb3.trans (hb4.mono hb3.size)
  have hs4 := hb4.size
  clear hN hb4 hr3 hb3 hT3 hG
  go_wp2_with fail
  go_loopw [36] (fun i wr => ∃ k : Nat, k ≤ n ∧ i = .int .i64 k ∧ Below w4.heap.size w4 wr) (fun i _ => n - (intOf i).toNat)
  case atStart => exact ⟨0, Nat.zero_le _, rfl, Below.refl _ _⟩
  case round =>
    obtain ⟨k, hk, rfl, hbw⟩ := hrel
    have hG5 := hG4.below hbw hG4.lt
    obtain ⟨k50, k51⟩ := blk2 hG5
    have hr35 := hr34.below hbw (Nat.le_refl _)
    have hr45 := RI.below hr4 hbw (Nat.le_refl _)
    have hs5 := hbw.size
    clear k40 k41
    by_cases hlt : k < n
    · obtain ⟨ad, y, rfl, hy, hcy⟩ := hr45.get hlt
      go_wp2_with fail
      refine (neigh_any A m c n es k wr hr35 (by omega)).mono ?_
      rintro e w6 ⟨A6, n6, c6, rfl, hn6, hr6, hb6, hf6⟩
      have hr46 := RI.below hr45 hb6 (Nat.le_refl _)
      have hb46 := hbw.trans (hb6.mono hbw.size)
      have hln := Lib.hid hr6.len
      have hrg := Lib.hid (fun (x : Int) (hx : x ∈ nbG n es k) => nbG_range (v := (k : Int)) hz.out hx)
      have hn6' : n6 ≤ 9 := by
        have := nb_length hz.out hlt
        have := hln.out
        omega
      have hs6 := hb6.size
      have hy' : Hid (ns.getD k 0 = y) := Lib.hid (getD_at hy.out)
      clear hr45 hr35 hcy hy k50 k51 hG5 hb6 hbw
      go_wp2_with fail
      go_loopw [10, 45] (fun v i wr2 => ∃ j : Nat, j ≤ n6 ∧ i = .int .i64 j ∧ OI wr2 w6.heap.size v (((nbG n es k).take j).map fun x => ns.getD x.toNat 0) ∧ Below w6.heap.size w6 wr2) (fun _ i _ => n6 - (intOf i).toNat)
      case atStart => exact ⟨0, Nat.zero_le _, rfl, OI.nil_, Below.refl _ _⟩
      case round =>
        obtain ⟨j, hj, rfl, ho, hb⟩ := hrel
        have hs7 := hb.size
        by_cases hlt2 : j < n6
        · obtain ⟨ad2, x, rfl, hx, hcx⟩ := (RI.below hr6 hb (Nat.le_refl _)).get hlt2
          have hxr := hrg.out x (mem_at hx.out)
          obtain ⟨u, rfl⟩ := Int.eq_ofNat_of_zero_le hxr.1
          have hun : u < n := by omega
          obtain ⟨ad3, z, e3, hzz, hcz⟩ := (RI.below hr46 hb (Nat.le_refl _)).get hun
          injection e3 with e3
          subst e3
          have hst := Lib.hid (take_map (f := fun x : Int => ns.getD x.toNat 0) hx.out)
          have hzv : Hid (ns.getD ((u : Int)).toNat 0 = z) := Lib.hid (by rw [Int.toNat_natCast]; exact getD_at hzz.out)
          have hol : (((nbG n es k).take j).map fun x => ns.getD x.toNat 0).length ≤ j := by rw [List.length_map, List.length_take]; omega
          clear hzz hx
          generalize ((nbG n es k).take j).map (fun x : Int => ns.getD x.toNat 0) = acc at *
          go_wp2_with (at_builtin; refine wpList_push rfl _ _ rfl rfl rfl (by simp) ho (by omega) (by omega) ?_; intro v' w' ho' hb' hg')
          have hb2 := hb.trans (hb'.mono (by omega))
          clear hb' hg' hb ho
          go_roundw
          case rel => exact ⟨j + 1, by omega, by go_num, by rw [hst.out, hzv.out]; exact ho', hb2⟩
          case measure => simp [intOf]; omega
        · obtain ⟨A8, n8, c8, rfl, hn8, hnc8, _, hr8⟩ := ho.form
          have hfull : Hid (((nbG n es k).take j) = nbG n es k) := Lib.hid (by rw [List.take_of_length_le]; rw [hln.out]; omega)
          rw [hfull.out] at hr8 hn8
          have hn8' : n8 ≤ 9 := by rw [hn8, List.length_map, hln.out]; exact hn6'
          have hb48 := hb46.trans (hb.mono (by omega))
          clear hn8 ho hb
          go_wp2_with fail
          refine (h_any A8 n8 c8 _ _ hr8 (by omega)).mono ?_
          rintro e w9 ⟨hh, rfl, hH, hb9⟩
          have heq := num_h (fun v => nbG_irr v) (fun v x hvx => nbG_range hz.out hvx) hNs.out hlt hH
          rw [hy'.out] at heq
          subst heq
          have hb49 := hb48.trans (hb9.mono (by have := hb48.size; omega))
          clear hb9 hb48 hH hr8 hr46 hr6
          go_wp2_with fail
          go_roundw
          case rel => exact ⟨k + 1, by omega, by go_num, hb49⟩
          case measure => simp [intOf]; omega
    · have hbb5 := hbb4.trans (hbw.mono hbb4.size)
      have hT5 := hT.keep hbb5
      clear hG4 hr34 hr4 hbb4 hbw hr45
      go_wp2_with fail
      go_region_held3 (fun w' => w'.cell? ⟨gg, 0, none⟩ = some (.int .i64 n) ∧ w'.cell? ⟨gg, 1, none⟩ = some (.slice A m c))
        ((first | (go_split_ands; refine ⟨?_, ?_⟩ <;> (rw [kc6]; assumption)) | ((repeat' apply And.intro) <;> (go_keep; done))))
        ((first | (go_at_call 22; refine (hm.out _).mono ?_; rintro e w6 ⟨rfl, rfl⟩) | (go_at_call 27; refine (cCore_any A m c n K es _ (hT5.drewN _) (hr35.drewN _) (by omega)).mono ?_; rintro e w6 ⟨l6, ⟨A6, n6, c6, rfl, hn6, hr6, hb6, hf6⟩, hl6⟩; have kc6 : ∀ o, w6.cell? ⟨gg, o, none⟩ = wr.cell? ⟨gg, o, none⟩ := fun o => hb6.cell (p := ⟨gg, o, none⟩) hG5.lt)))
      rw [hz.out]
      have hL6 := Lib.hid (hl6.1 hz.out)
      have hs6 := hb6.size
      have hr36 := RE.below (hr35.drewN 1) hb6 (Nat.le_refl _)
      have k60 : w6.cell? ⟨gg, 0, none⟩ = some (.int .i64 n) := by rw [kc6]; exact k50
      have k61 : w6.cell? ⟨gg, 1, none⟩ = some (.slice A m c) := by rw [kc6]; exact k51
      have hbb6 := (below_drewN hbb5 1).trans (hb6.mono (below_drewN hbb5 1).size)
      have hT6 := hT.keep hbb6
      have hgl6 : gg < w6.heap.size := Nat.lt_of_lt_of_le hG5.lt hs6
      have hwK : IntKind.i64.wrap (K + 1) = K + 1 := IntWalk.i64_in _ (by omega)
      clear hl6 hb6 kc6 k50 k51 hr35 hG5 hT5 hbb5
      go_wp2_with fail
      go_region_held3 (fun w' => w'.cell? ⟨gg, 0, none⟩ = some (.int .i64 n) ∧ w'.cell? ⟨gg, 1, none⟩ = some (.slice A m c))
        ((first | (go_split_ands; refine ⟨?_, ?_⟩ <;> (rw [kc7]; assumption)) | ((repeat' apply And.intro) <;> (go_keep; done))))
        ((first | (go_at_call 22; refine (hm.out _).mono ?_; rintro e w7 ⟨rfl, rfl⟩) | (go_at_call 27; refine (cCore_any A m c n (K + 1) es _ (hT6.drewN _) (hr36.drewN _) (by omega)).mono ?_; rintro e w7 ⟨l7, ⟨A7, n7, c7, rfl, hn7, hr7, hb7, hf7⟩, hl7⟩; have kc7 : ∀ o, w7.cell? ⟨gg, o, none⟩ = w6.cell? ⟨gg, o, none⟩ := fun o => hb7.cell (p := ⟨gg, o, none⟩) hgl6)))
      rw [hz.out]
      have hL7 := Lib.hid (hl7.1 hz.out)
      have hr67 := RI.below (hr6.drewN 1) hb7 (Nat.le_refl _)
      have hbb7 := (below_drewN hbb6 1).trans (hb7.mono (below_drewN hbb6 1).size)
      have hT7 := hT.keep hbb7
      have hb67 : n6 ≤ 9 := by have := vld_length hL6.out.1; have := hr6.len; omega
      have hb77 : n7 ≤ 9 := by have := vld_length hL7.out.1; have := hr7.len; omega
      have hin : decide (∀ x ∈ l7, x ∈ l6) = true := decide_eq_true fun x hx => (hL6.out.2 x).2 (inC_mono ((hL7.out.2 x).1 hx) (by omega))
      have hwi := within2_any A7 A6 n7 c7 n6 c6 l7 l6 w7 hr7 (by omega) hr67 (by omega)
      rw [hin] at hwi
      replace hwi := Lib.hid hwi
      clear hl7 hb7 kc7 hr6 hr36 hT6 hbb6 hwK hin hr7 hr67 k60 k61
      go_wp2_with fail
      refine hwi.out.mono ?_
      rintro e w8 ⟨rfl, rfl⟩
      go_wp2_with fail
      refine (awake_any _ hT7).mono ?_
      rintro e w8 ⟨rfl, hb8⟩
      have hbb8 := hbb7.trans (hb8.mono hbb7.size)
      clear hb8 hbb7 hT7
      go_wp2_with fail
      go_ret
      exact ⟨rfl, hbb8⟩
end Go.Proofs.YtciehcageghggaaDoor
