/- Reference 19: Check accepts what Best finds. -/
import Derived.Test.YticekkjambkifaaGreatDoorZam
import Derived.Test.YticekkjambkifaaGreatDoorZao
import Derived.Test.YticekkjambkifaaGreatDoorRsN
import Derived.Test.YticekkjambkifaaGreatDoorRefI
set_option linter.unusedVariables false
set_option linter.unusedSimpArgs false
namespace Go.Proofs.YticekkjambkifaaGreatDoor.Fl
open Go.RowKit Go.Proofs.YticekkjambkifaaGreatDoor CoBit CoRat Rt

set_option maxRecDepth 100000 in
set_option maxHeartbeats 8000000 in
theorem rdcheck_best (A : Option Addr) (m c n : Nat) (es : List (Int × Int)) (x N D : Nat) (ps : List Int) (AS : Option Addr) (ns cs : Nat) (AP : Option Addr) (np cp : Nat) (w : World) (h : RE w A m es) (hm : m ≤ 4096) (hz : chkG n es = 0) (hn : n ≤ 40) (hDB : DB n es x N D ps) (hS : RI w AS ns (bset x)) (hP : RI w AP np ps) :
    Calls Tryz.prog 12 #[.agg #[.int .i64 n, .slice A m c], .agg #[.slice AS ns cs, .int .i64 (N : Nat), .int .i64 (D : Nat), .int .i64 (D : Nat), .slice AP np cp]] w fun e w' => e = .returned (.int .i64 0) ∧ Below w.heap.size w w' := by
  have hel : es.length = m := h.len
  obtain rfl : m = np := by rw [← hel, ← hDB.plen]; exact hP.len
  have hnl : ns = pop x := by rw [← hS.len]; unfold bset; rw [nts_length, pop_bl]
  have hns64 : ns ≤ 64 := by rw [hnl]; exact pop_le x
  have hV : Vld (bset x) n := ⟨fun y hy => by
    unfold bset nts at hy
    obtain ⟨k, hk, rfl⟩ := List.mem_map.1 hy
    have := hDB.sub k (mem_bl.1 hk).2
    omega, bset_sorted x⟩
  have ck := fun w h => rcheck_any A m c n es w h (by omega)
  rw [hz] at ck
  have kv := fun w hS => Go.Proofs.YticekkjambkifaaGreatDoor.valid_any AS ns cs (bset x) n w hS (by omega)
  rw [decide_eq_true hV] at kv
  have ko := fun w h => rones_any A m c (n : Int) es w h (by omega)
  have kr := fun A0 c0 w h0 h => rright_ok A0 m c0 (D : Int) AP cp ps w h0 h (by omega) (by have := hDB.D0; omega) (by have := hDB.lim; omega) hDB.pbd
  have kd := fun w h hl => rdensity_any A m c n es AS ns cs (bset x) w h (by omega) hz (by omega) hl (by omega)
  rw [bset_meet hDB.sub, ← pop_bset, ← hDB.dN, ← hDB.dD] at kd
  have kb := fun w h h1 => rbound_ok A m c n es (D : Int) AP cp ps w h h1 (by omega) hz (by omega) (by have := hDB.D0; omega) (by have := hDB.lim; omega) hDB.pbd
  obtain ⟨e1, e2⟩ := hDB.bound hz (by omega) (by omega)
  rw [e1, e2] at kb
  have kc := fun w => Rt.rCmp_any (N : Int) (D : Int) (N : Int) (D : Int) w
  rw [cmpF_self] at kc
  have B0 : Below w.heap.size w ((w.alloc (.cells #[.int .i64 n, .slice A m c] 24)).alloc (.cells #[.slice AS ns cs, .int .i64 (N : Nat), .int .i64 (D : Nat), .int .i64 (D : Nat), .slice AP m cp] 38)) := ((Below.refl _ w).alloc (Nat.le_refl _) _).alloc (by simp) _
  have G0 := (Blk.new w 24 #[.int .i64 n, .slice A m c]).alloc (.cells #[.slice AS ns cs, .int .i64 (N : Nat), .int .i64 (D : Nat), .int .i64 (D : Nat), .slice AP m cp] 38)
  have D0 : Blk ((w.alloc (.cells #[.int .i64 n, .slice A m c] 24)).alloc (.cells #[.slice AS ns cs, .int .i64 (N : Nat), .int .i64 (D : Nat), .int .i64 (D : Nat), .slice AP m cp] 38)) (w.heap.size + 1) 38 #[.slice AS ns cs, .int .i64 (N : Nat), .int .i64 (D : Nat), .int .i64 (D : Nat), .slice AP m cp] := Blk.new' _ _ _ (by simp)
  have hpn : ns = 0 → n = 0 := fun e => by
    rcases Nat.eq_zero_or_pos n with h0 | h0
    · exact h0
    · have := hDB.pos h0; omega
  replace ck := Lib.hid ck
  replace kv := Lib.hid kv
  replace ko := Lib.hid ko
  replace kr := Lib.hid kr
  replace kd := Lib.hid kd
  replace kb := Lib.hid kb
  replace kc := Lib.hid kc
  clear hz hDB hV hnl hel e1 e2
  by_cases e : ns = 0
  · subst e
    have hn0 := Lib.hid (hpn rfl)
    have q0 : (((0 : Nat) : Int) == 0) = true := rfl
    generalize hnI : (n : Int) = nI at *
    have q1 : ¬ (0 : Int) < nI := by have := hn0.out; omega
    have q2 : decide ((0 : Int) < nI) = false := decide_eq_false q1
    replace hnI := Lib.hid hnI
    clear hpn
    go_enter Tryz.func12, Tryz.ntmps12
    go_wp2_with fail
    refine (ck.out _ ((h.alloc _).alloc _)).mono ?_
    rintro e w1 ⟨rfl, hb1⟩
    have G1 := G0.below hb1 G0.lt
    have D1 := D0.below hb1 D0.lt
    have B1 := B0.trans (hb1.mono B0.size)
    have hE1 := h.below B1 (Nat.le_refl _)
    have hS1 := hS.below B1 (Nat.le_refl _)
    have hP1 := hP.below B1 (Nat.le_refl _)
    clear G0 D0 B0 hb1 ck h hS hP
    have g0 := Blk.cell G1 0
    have g1 := Blk.cell G1 1
    have s0 := Blk.cell D1 0
    have s1 := Blk.cell D1 1
    have s2 := Blk.cell D1 2
    have s3 := Blk.cell D1 3
    have s4 := Blk.cell D1 4
    simp at g0 g1 s0 s1 s2 s3 s4
    have gl := G1.lt
    have dl := D1.lt
    have kS : Hid (∀ w' : World, Below w1.heap.size w1 w' → w'.cell? ⟨w.heap.size, 0, none⟩ = some (.int .i64 nI) ∧ w'.cell? ⟨w.heap.size, 1, none⟩ = some (.slice A m c) ∧ w'.cell? ⟨w.heap.size + 1, 0, none⟩ = some (.slice AS 0 cs) ∧ w'.cell? ⟨w.heap.size + 1, 3, none⟩ = some (.int .i64 (D : Nat)) ∧ w'.cell? ⟨w.heap.size + 1, 4, none⟩ = some (.slice AP m cp)) := Lib.hid (fun w' hb => ⟨(hb.cell (p := ⟨w.heap.size, 0, none⟩) gl).trans g0, (hb.cell (p := ⟨w.heap.size, 1, none⟩) gl).trans g1, (hb.cell (p := ⟨w.heap.size + 1, 0, none⟩) dl).trans s0, (hb.cell (p := ⟨w.heap.size + 1, 3, none⟩) dl).trans s3, (hb.cell (p := ⟨w.heap.size + 1, 4, none⟩) dl).trans s4⟩)
    have BN : Below w1.heap.size w1 w1.drew := (Below.refl w1.heap.size w1).drew
    go_upto_region 4 with fail
    go_region_held3 (fun w' => w'.cell? ⟨w.heap.size, 0, none⟩ = some (.int .i64 nI) ∧ w'.cell? ⟨w.heap.size, 1, none⟩ = some (.slice A m c) ∧ w'.cell? ⟨w.heap.size + 1, 0, none⟩ = some (.slice AS 0 cs) ∧ w'.cell? ⟨w.heap.size + 1, 3, none⟩ = some (.int .i64 (D : Nat)) ∧ w'.cell? ⟨w.heap.size + 1, 4, none⟩ = some (.slice AP m cp))
      ((first | (with_reducible exact kS.out _ BN) | fail))
      ((first
        | (go_at_call 35; (with_reducible refine (kv.out _ (hS1.below BN (Nat.le_refl _))).mono ?_); rintro e w2 ⟨rfl, hw⟩; obtain rfl := hw)
        | (go_at_call 14; (with_reducible refine (ko.out _ (hE1.below BN (Nat.le_refl _))).mono ?_); rintro e w3 ⟨A3, n3, c3, rfl, hn3, hr3, hb3, hf3⟩
           replace BN := BN.trans (hb3.mono BN.size)
           obtain rfl : m = n3 := (by have := hr3.len; rw [List.length_replicate] at this; exact this))
        | (go_at_call 36; (with_reducible refine (kr.out A3 c3 _ hr3 (hP1.below BN (Nat.le_refl _))).mono ?_); rintro e w4 ⟨rfl, hb4⟩
           replace BN := BN.trans (hb4.mono BN.size))
        | fail))
    have G2 := G1.below BN gl
    have D2 := D1.below BN dl
    have B2 := B1.trans (BN.mono B1.size)
    have hE2 := hE1.below BN (Nat.le_refl _)
    have hS2 := hS1.below BN (Nat.le_refl _)
    have hP2 := hP1.below BN (Nat.le_refl _)
    clear G1 D1 B1 hE1 hS1 hP1 BN kS kv ko kr g0 g1 s0 s1 s2 s3 s4 hr3 hb3 hf3 hb4 hn3
    have g0 := Blk.cell G2 0
    have g1 := Blk.cell G2 1
    have s0 := Blk.cell D2 0
    simp at g0 g1 s0
    go_upto_region 7 with (first
      | (go_at_call 21; (with_reducible refine (kd.out _ hE2 hS2).mono ?_); rintro e w5 ⟨rfl, hb5⟩)
      | fail)
    have G5 := (G2.below hb5 G2.lt).alloc (.cells #[.int .i64 (N : Nat), .int .i64 (D : Nat)] 34)
    have D5 := (D2.below hb5 D2.lt).alloc (.cells #[.int .i64 (N : Nat), .int .i64 (D : Nat)] 34)
    have F5 := Blk.new w5 34 #[.int .i64 (N : Nat), .int .i64 (D : Nat)]
    have B5 := (B2.trans (hb5.mono B2.size)).alloc (B2.trans (hb5.mono B2.size)).size (.cells #[.int .i64 (N : Nat), .int .i64 (D : Nat)] 34)
    have hE5 := (hE2.below hb5 (Nat.le_refl _)).alloc (.cells #[.int .i64 (N : Nat), .int .i64 (D : Nat)] 34)
    have hP5 := (hP2.below hb5 (Nat.le_refl _)).alloc (.cells #[.int .i64 (N : Nat), .int .i64 (D : Nat)] 34)
    clear G2 D2 B2 hE2 hS2 hP2 hb5 kd g0 g1 s0
    generalize w5.alloc (.cells #[.int .i64 (N : Nat), .int .i64 (D : Nat)] 34) = w6 at *
    generalize w5.heap.size = gx at *
    have g0 := Blk.cell G5 0
    have g1 := Blk.cell G5 1
    have s3 := Blk.cell D5 3
    have s4 := Blk.cell D5 4
    simp at g0 g1 s3 s4
    go_upto_region 8 with (first
      | (go_at_call 19; (with_reducible refine (kb.out _ hE5 hP5).mono ?_); rintro e w7 ⟨rfl, hb7⟩)
      | fail)
    have D8 := (D5.below hb7 D5.lt).alloc (.cells #[.int .i64 (N : Nat), .int .i64 (D : Nat)] 34)
    have F8 := (F5.below hb7 F5.lt).alloc (.cells #[.int .i64 (N : Nat), .int .i64 (D : Nat)] 34)
    have M8 := Blk.new w7 34 #[.int .i64 (N : Nat), .int .i64 (D : Nat)]
    have B8 := (B5.trans (hb7.mono B5.size)).alloc (B5.trans (hb7.mono B5.size)).size (.cells #[.int .i64 (N : Nat), .int .i64 (D : Nat)] 34)
    clear G5 D5 F5 B5 hE5 hP5 hb7 kb g0 g1 s3 s4
    generalize w7.alloc (.cells #[.int .i64 (N : Nat), .int .i64 (D : Nat)] 34) = w8 at *
    generalize w7.heap.size = gm at *
    have s1 := Blk.cell D8 1
    have s2 := Blk.cell D8 2
    have x0 := Blk.cell F8 0
    have x1 := Blk.cell F8 1
    have m0 := Blk.cell M8 0
    have m1 := Blk.cell M8 1
    simp at s1 s2 x0 x1 m0 m1
    go_wp2_with (first | (go_at_call 37; (with_reducible refine (kc.out _).mono ?_); rintro e w9 ⟨rfl, hb9⟩) | fail)
    go_ret
    exact ⟨rfl, B8.trans (hb9.mono B8.size)⟩
  · have q0 : ((ns : Int) == 0) = false := by rw [beq_eq_false_iff_ne]; omega
    have q3 : decide ((ns : Int) = 0) = false := decide_eq_false (by omega)
    have q4 : ¬ (ns : Int) = 0 := by omega
    clear hpn
    go_enter Tryz.func12, Tryz.ntmps12
    go_wp2_with fail
    refine (ck.out _ ((h.alloc _).alloc _)).mono ?_
    rintro e w1 ⟨rfl, hb1⟩
    have G1 := G0.below hb1 G0.lt
    have D1 := D0.below hb1 D0.lt
    have B1 := B0.trans (hb1.mono B0.size)
    have hE1 := h.below B1 (Nat.le_refl _)
    have hS1 := hS.below B1 (Nat.le_refl _)
    have hP1 := hP.below B1 (Nat.le_refl _)
    clear G0 D0 B0 hb1 ck h hS hP
    have g0 := Blk.cell G1 0
    have g1 := Blk.cell G1 1
    have s0 := Blk.cell D1 0
    have s1 := Blk.cell D1 1
    have s2 := Blk.cell D1 2
    have s3 := Blk.cell D1 3
    have s4 := Blk.cell D1 4
    simp at g0 g1 s0 s1 s2 s3 s4
    have gl := G1.lt
    have dl := D1.lt
    have kS : Hid (∀ w' : World, Below w1.heap.size w1 w' → w'.cell? ⟨w.heap.size, 0, none⟩ = some (.int .i64 n) ∧ w'.cell? ⟨w.heap.size, 1, none⟩ = some (.slice A m c) ∧ w'.cell? ⟨w.heap.size + 1, 0, none⟩ = some (.slice AS ns cs) ∧ w'.cell? ⟨w.heap.size + 1, 3, none⟩ = some (.int .i64 (D : Nat)) ∧ w'.cell? ⟨w.heap.size + 1, 4, none⟩ = some (.slice AP m cp)) := Lib.hid (fun w' hb => ⟨(hb.cell (p := ⟨w.heap.size, 0, none⟩) gl).trans g0, (hb.cell (p := ⟨w.heap.size, 1, none⟩) gl).trans g1, (hb.cell (p := ⟨w.heap.size + 1, 0, none⟩) dl).trans s0, (hb.cell (p := ⟨w.heap.size + 1, 3, none⟩) dl).trans s3, (hb.cell (p := ⟨w.heap.size + 1, 4, none⟩) dl).trans s4⟩)
    have BN : Below w1.heap.size w1 w1.drew := (Below.refl w1.heap.size w1).drew
    go_upto_region 4 with fail
    -- R4
    obtain ⟨SS, hSS⟩ : ∃ SS : World → Prop, ∀ w', SS w' ↔ (w'.cell? ⟨w.heap.size, 0, none⟩ = some (.int .i64 n) ∧ w'.cell? ⟨w.heap.size, 1, none⟩ = some (.slice A m c) ∧ w'.cell? ⟨w.heap.size + 1, 0, none⟩ = some (.slice AS ns cs) ∧ w'.cell? ⟨w.heap.size + 1, 3, none⟩ = some (.int .i64 (D : Nat)) ∧ w'.cell? ⟨w.heap.size + 1, 4, none⟩ = some (.slice AP m cp)) := ⟨fun w' => _, fun _ => Iff.rfl⟩
    replace hSS := Lib.hid hSS
    refine wp_region_TS (T := fun _ w' => SS w') (by kernel_rfl) ?_
    intro QQ hQQ hQP
    have s0 : SS w1.drew := (hSS.out _).2 (kS.out _ BN)
    generalize w1.drew = X at *
    refine wpAnyT_take (i := 0) (v := .pointer (some ⟨w.heap.size + 1, 0, none⟩)) rfl (by kernel_rfl) (by kernel_rfl) (by kernel_rfl) (fun c a w h => (hQP.out _ _ _ h).elim) (fun w h => h) (fun j oj hj hji hun hno w hT => hT) (Or.inl ⟨by rfl, fun w' hS => ?_⟩) s0 ?_
    · obtain ⟨y0, y1, y2, y3, y4⟩ := (hSS.out _).1 hS
      go_simp
    (try simp only [Act.put, List.setIfInBounds_toArray, List.set_cons_zero, List.set_cons_succ])
    refine wpAnyT_take (i := 1) (v := .slice AS ns cs) rfl (by kernel_rfl) (by kernel_rfl) (by kernel_rfl) (fun c a w h => (hQP.out _ _ _ h).elim) (fun w h => h) (fun j oj hj hji hun hno w hT => hT) (Or.inl ⟨by rfl, fun w' hS => ?_⟩) s0 ?_
    · obtain ⟨y0, y1, y2, y3, y4⟩ := (hSS.out _).1 hS
      go_simp
    (try simp only [Act.put, List.setIfInBounds_toArray, List.set_cons_zero, List.set_cons_succ])
    refine wpAnyT_take (i := 2) (v := .pointer (some ⟨w.heap.size, 0, none⟩)) rfl (by kernel_rfl) (by kernel_rfl) (by kernel_rfl) (fun c a w h => (hQP.out _ _ _ h).elim) (fun w h => h) (fun j oj hj hji hun hno w hT => hT) (Or.inl ⟨by rfl, fun w' hS => ?_⟩) s0 ?_
    · obtain ⟨y0, y1, y2, y3, y4⟩ := (hSS.out _).1 hS
      go_simp
    (try simp only [Act.put, List.setIfInBounds_toArray, List.set_cons_zero, List.set_cons_succ])
    refine wpAnyT_take (i := 3) (v := .int .i64 n) rfl (by kernel_rfl) (by kernel_rfl) (by kernel_rfl) (fun c a w h => (hQP.out _ _ _ h).elim) (fun w h => h) (fun j oj hj hji hun hno w hT => hT) (Or.inl ⟨by rfl, fun w' hS => ?_⟩) s0 ?_
    · obtain ⟨y0, y1, y2, y3, y4⟩ := (hSS.out _).1 hS
      go_simp
    (try simp only [Act.put, List.setIfInBounds_toArray, List.set_cons_zero, List.set_cons_succ])
    refine wpAnyT_ready (rs := [4]) (by kernel_rfl) (by simp) ?_
    intro j hj
    rw [List.mem_singleton] at hj
    subst hj
    refine wpOpT_step (T := fun _ w' => SS w') (by rfl) (fun K hK => ?_)
    go_simp
    (with_reducible refine (kv.out _ (hS1.below BN (Nat.le_refl _))).mono ?_)
    rintro e w2 ⟨rfl, hw⟩
    obtain rfl := hw
    refine hK.out _ _ ?_ ?_
    · exact s0
    clear hK K
    (try simp only [Act.put, List.setIfInBounds_toArray, List.set_cons_zero, List.set_cons_succ])
    refine wpAnyT_ready (rs := [5]) (by kernel_rfl) (by simp) ?_
    intro j hj
    rw [List.mem_singleton] at hj
    subst hj
    refine wpOpT_step (T := fun _ w' => SS w') (by rfl) (fun K hK => ?_)
    go_simp
    refine hK.out _ _ ?_ ?_
    · exact s0
    clear hK K
    (try simp only [Act.put, List.setIfInBounds_toArray, List.set_cons_zero, List.set_cons_succ])
    refine wpAnyT_ready (rs := [6]) (by kernel_rfl) (by simp) ?_
    intro j hj
    rw [List.mem_singleton] at hj
    subst hj
    refine wpOpT_step (T := fun _ w' => SS w') (by rfl) (fun K hK => ?_)
    go_simp
    refine hK.out _ _ ?_ ?_
    · exact s0
    clear hK K
    (try simp only [Act.put, List.setIfInBounds_toArray, List.set_cons_zero, List.set_cons_succ])
    refine wpAnyT_ready (rs := [7]) (by kernel_rfl) (by simp) ?_
    intro j hj
    rw [List.mem_singleton] at hj
    subst hj
    refine wpOpT_step (T := fun _ w' => SS w') (by rfl) (fun K hK => ?_)
    go_simp
    refine hK.out _ _ ?_ ?_
    · exact s0
    clear hK K
    (try simp only [Act.put, List.setIfInBounds_toArray, List.set_cons_zero, List.set_cons_succ])
    refine wpAnyT_take (i := 8) (v := .slice AS ns cs) rfl (by kernel_rfl) (by kernel_rfl) (by kernel_rfl) (fun c a w h => (hQP.out _ _ _ h).elim) (fun w h => h) (fun j oj hj hji hun hno w hT => hT) (Or.inl ⟨by rfl, fun w' hS => ?_⟩) s0 ?_
    · obtain ⟨y0, y1, y2, y3, y4⟩ := (hSS.out _).1 hS
      go_simp
    (try simp only [Act.put, List.setIfInBounds_toArray, List.set_cons_zero, List.set_cons_succ])
    refine wpAnyT_ready (rs := [9]) (by kernel_rfl) (by simp) ?_
    intro j hj
    rw [List.mem_singleton] at hj
    subst hj
    refine wpOpT_step (T := fun _ w' => SS w') (by rfl) (fun K hK => ?_)
    go_simp
    refine hK.out _ _ ?_ ?_
    · exact s0
    clear hK K
    (try simp only [Act.put, List.setIfInBounds_toArray, List.set_cons_zero, List.set_cons_succ])
    refine wpAnyT_ready (rs := [10]) (by kernel_rfl) (by simp) ?_
    intro j hj
    rw [List.mem_singleton] at hj
    subst hj
    refine wpOpT_step (T := fun _ w' => SS w') (by rfl) (fun K hK => ?_)
    go_simp
    refine hK.out _ _ ?_ ?_
    · exact s0
    clear hK K
    (try simp only [Act.put, List.setIfInBounds_toArray, List.set_cons_zero, List.set_cons_succ])
    refine wpAnyT_ready (rs := [11]) (by kernel_rfl) (by simp) ?_
    intro j hj
    rw [List.mem_singleton] at hj
    subst hj
    refine wpOpT_step (T := fun _ w' => SS w') (by rfl) (fun K hK => ?_)
    go_simp
    refine hK.out _ _ ?_ ?_
    · exact s0
    clear hK K
    (try simp only [Act.put, List.setIfInBounds_toArray, List.set_cons_zero, List.set_cons_succ])
    refine wpAnyT_take (i := 12) rfl (by kernel_rfl) (by kernel_rfl) (by kernel_rfl) (fun c a w h => (hQP.out _ _ _ h).elim) (fun w h => h) (fun j oj hj hji hun hno w hT => hT) (Or.inr ⟨by rfl, rfl⟩) s0 ?_
    (try simp only [Act.put, List.setIfInBounds_toArray, List.set_cons_zero, List.set_cons_succ])
    refine wpAnyT_take (i := 13) rfl (by kernel_rfl) (by kernel_rfl) (by kernel_rfl) (fun c a w h => (hQP.out _ _ _ h).elim) (fun w h => h) (fun j oj hj hji hun hno w hT => hT) (Or.inr ⟨by rfl, rfl⟩) s0 ?_
    (try simp only [Act.put, List.setIfInBounds_toArray, List.set_cons_zero, List.set_cons_succ])
    refine wpAnyT_take (i := 14) rfl (by kernel_rfl) (by kernel_rfl) (by kernel_rfl) (fun c a w h => (hQP.out _ _ _ h).elim) (fun w h => h) (fun j oj hj hji hun hno w hT => hT) (Or.inr ⟨by rfl, rfl⟩) s0 ?_
    (try simp only [Act.put, List.setIfInBounds_toArray, List.set_cons_zero, List.set_cons_succ])
    refine wpAnyT_ready (rs := [15]) (by kernel_rfl) (by simp) ?_
    intro j hj
    rw [List.mem_singleton] at hj
    subst hj
    refine wpOpT_step (T := fun _ w' => SS w') (by rfl) (fun K hK => ?_)
    go_simp
    refine hK.out _ _ ?_ ?_
    · exact s0
    clear hK K
    (try simp only [Act.put, List.setIfInBounds_toArray, List.set_cons_zero, List.set_cons_succ])
    refine wpAnyT_ready (rs := [16]) (by kernel_rfl) (by simp) ?_
    intro j hj
    rw [List.mem_singleton] at hj
    subst hj
    refine wpOpT_step (T := fun _ w' => SS w') (by rfl) (fun K hK => ?_)
    go_simp
    refine hK.out _ _ ?_ ?_
    · exact s0
    clear hK K
    (try simp only [Act.put, List.setIfInBounds_toArray, List.set_cons_zero, List.set_cons_succ])
    refine wpAnyT_ready (rs := [17]) (by kernel_rfl) (by simp) ?_
    intro j hj
    rw [List.mem_singleton] at hj
    subst hj
    refine wpOpT_step (T := fun _ w' => SS w') (by rfl) (fun K hK => ?_)
    go_simp
    refine hK.out _ _ ?_ ?_
    · exact s0
    clear hK K
    (try simp only [Act.put, List.setIfInBounds_toArray, List.set_cons_zero, List.set_cons_succ])
    refine wpAnyT_take (i := 18) (v := .agg #[.int .i64 n, .slice A m c]) rfl (by kernel_rfl) (by kernel_rfl) (by kernel_rfl) (fun c a w h => (hQP.out _ _ _ h).elim) (fun w h => h) (fun j oj hj hji hun hno w hT => hT) (Or.inl ⟨by rfl, fun w' hS => ?_⟩) s0 ?_
    · obtain ⟨y0, y1, y2, y3, y4⟩ := (hSS.out _).1 hS
      go_simp
    (try simp only [Act.put, List.setIfInBounds_toArray, List.set_cons_zero, List.set_cons_succ])
    refine wpAnyT_take (i := 20) (v := .pointer (some ⟨w.heap.size + 1, 3, none⟩)) rfl (by kernel_rfl) (by kernel_rfl) (by kernel_rfl) (fun c a w h => (hQP.out _ _ _ h).elim) (fun w h => h) (fun j oj hj hji hun hno w hT => hT) (Or.inl ⟨by rfl, fun w' hS => ?_⟩) s0 ?_
    · obtain ⟨y0, y1, y2, y3, y4⟩ := (hSS.out _).1 hS
      go_simp
    (try simp only [Act.put, List.setIfInBounds_toArray, List.set_cons_zero, List.set_cons_succ])
    refine wpAnyT_take (i := 21) (v := .agg #[.int .i64 (D : Nat), .slice AP m cp]) rfl (by kernel_rfl) (by kernel_rfl) (by kernel_rfl) (fun c a w h => (hQP.out _ _ _ h).elim) (fun w h => h) (fun j oj hj hji hun hno w hT => hT) (Or.inl ⟨by rfl, fun w' hS => ?_⟩) s0 ?_
    · obtain ⟨y0, y1, y2, y3, y4⟩ := (hSS.out _).1 hS
      go_simp
    (try simp only [Act.put, List.setIfInBounds_toArray, List.set_cons_zero, List.set_cons_succ])
    refine wpAnyT_ready (rs := [19]) (by kernel_rfl) (by simp) ?_
    intro j hj
    rw [List.mem_singleton] at hj
    subst hj
    refine wpOpT_step (T := fun _ w' => SS w') (by rfl) (fun K hK => ?_)
    go_simp
    (with_reducible refine (ko.out _ (hE1.below BN (Nat.le_refl _))).mono ?_)
    rintro e w3 ⟨A3, n3, c3, rfl, hn3, hr3, hb3, hf3⟩
    replace BN := BN.trans (hb3.mono BN.size)
    obtain rfl : m = n3 := (by have := hr3.len; rw [List.length_replicate] at this; exact this)
    have s1 : SS w3 := (hSS.out _).2 (kS.out _ BN)
    refine hK.out _ _ ?_ ?_
    · exact s1
    clear hK K s0
    (try simp only [Act.put, List.setIfInBounds_toArray, List.set_cons_zero, List.set_cons_succ])
    refine wpAnyT_ready (rs := [22]) (by kernel_rfl) (by simp) ?_
    intro j hj
    rw [List.mem_singleton] at hj
    subst hj
    refine wpOpT_step (T := fun _ w' => SS w') (by rfl) (fun K hK => ?_)
    go_simp
    (with_reducible refine (kr.out A3 c3 _ hr3 (hP1.below BN (Nat.le_refl _))).mono ?_)
    rintro e w4 ⟨rfl, hb4⟩
    replace BN := BN.trans (hb4.mono BN.size)
    have s2 : SS w4 := (hSS.out _).2 (kS.out _ BN)
    refine hK.out _ _ ?_ ?_
    · exact s2
    clear hK K s1
    (try simp only [Act.put, List.setIfInBounds_toArray, List.set_cons_zero, List.set_cons_succ])
    refine wpAnyT_ready (rs := [23]) (by kernel_rfl) (by simp) ?_
    intro j hj
    rw [List.mem_singleton] at hj
    subst hj
    refine wpOpT_step (T := fun _ w' => SS w') (by rfl) (fun K hK => ?_)
    go_simp
    refine hK.out _ _ ?_ ?_
    · exact s2
    clear hK K
    (try simp only [Act.put, List.setIfInBounds_toArray, List.set_cons_zero, List.set_cons_succ])
    refine wpAnyT_ready (rs := [24]) (by kernel_rfl) (by simp) ?_
    intro j hj
    rw [List.mem_singleton] at hj
    subst hj
    refine wpOpT_step (T := fun _ w' => SS w') (by rfl) (fun K hK => ?_)
    go_simp
    refine hK.out _ _ ?_ ?_
    · exact s2
    clear hK K
    (try simp only [Act.put, List.setIfInBounds_toArray, List.set_cons_zero, List.set_cons_succ])
    refine wpAnyT_done (by kernel_rfl) (hQQ.out _ _ ?_) _
    clear hQQ hQP QQ s2 hSS SS
    -- E4
    have G2 := G1.below BN gl
    have D2 := D1.below BN dl
    have B2 := B1.trans (BN.mono B1.size)
    have hE2 := hE1.below BN (Nat.le_refl _)
    have hS2 := hS1.below BN (Nat.le_refl _)
    have hP2 := hP1.below BN (Nat.le_refl _)
    clear G1 D1 B1 hE1 hS1 hP1 BN kS kv ko kr g0 g1 s0 s1 s2 s3 s4 hr3 hb3 hf3 hb4 hn3
    have g0 := Blk.cell G2 0
    have g1 := Blk.cell G2 1
    have s0 := Blk.cell D2 0
    simp at g0 g1 s0
    go_upto_region 7 with (first
      | (go_at_call 21; (with_reducible refine (kd.out _ hE2 hS2).mono ?_); rintro e w5 ⟨rfl, hb5⟩)
      | fail)
    have G5 := (G2.below hb5 G2.lt).alloc (.cells #[.int .i64 (N : Nat), .int .i64 (D : Nat)] 34)
    have D5 := (D2.below hb5 D2.lt).alloc (.cells #[.int .i64 (N : Nat), .int .i64 (D : Nat)] 34)
    have F5 := Blk.new w5 34 #[.int .i64 (N : Nat), .int .i64 (D : Nat)]
    have B5 := (B2.trans (hb5.mono B2.size)).alloc (B2.trans (hb5.mono B2.size)).size (.cells #[.int .i64 (N : Nat), .int .i64 (D : Nat)] 34)
    have hE5 := (hE2.below hb5 (Nat.le_refl _)).alloc (.cells #[.int .i64 (N : Nat), .int .i64 (D : Nat)] 34)
    have hP5 := (hP2.below hb5 (Nat.le_refl _)).alloc (.cells #[.int .i64 (N : Nat), .int .i64 (D : Nat)] 34)
    clear G2 D2 B2 hE2 hS2 hP2 hb5 kd g0 g1 s0
    generalize w5.alloc (.cells #[.int .i64 (N : Nat), .int .i64 (D : Nat)] 34) = w6 at *
    generalize w5.heap.size = gx at *
    have g0 := Blk.cell G5 0
    have g1 := Blk.cell G5 1
    have s3 := Blk.cell D5 3
    have s4 := Blk.cell D5 4
    simp at g0 g1 s3 s4
    go_upto_region 8 with (first
      | (go_at_call 19; (with_reducible refine (kb.out _ hE5 hP5).mono ?_); rintro e w7 ⟨rfl, hb7⟩)
      | fail)
    have D8 := (D5.below hb7 D5.lt).alloc (.cells #[.int .i64 (N : Nat), .int .i64 (D : Nat)] 34)
    have F8 := (F5.below hb7 F5.lt).alloc (.cells #[.int .i64 (N : Nat), .int .i64 (D : Nat)] 34)
    have M8 := Blk.new w7 34 #[.int .i64 (N : Nat), .int .i64 (D : Nat)]
    have B8 := (B5.trans (hb7.mono B5.size)).alloc (B5.trans (hb7.mono B5.size)).size (.cells #[.int .i64 (N : Nat), .int .i64 (D : Nat)] 34)
    clear G5 D5 F5 B5 hE5 hP5 hb7 kb g0 g1 s3 s4
    generalize w7.alloc (.cells #[.int .i64 (N : Nat), .int .i64 (D : Nat)] 34) = w8 at *
    generalize w7.heap.size = gm at *
    have s1 := Blk.cell D8 1
    have s2 := Blk.cell D8 2
    have x0 := Blk.cell F8 0
    have x1 := Blk.cell F8 1
    have m0 := Blk.cell M8 0
    have m1 := Blk.cell M8 1
    simp at s1 s2 x0 x1 m0 m1
    go_wp2_with (first | (go_at_call 37; (with_reducible refine (kc.out _).mono ?_); rintro e w9 ⟨rfl, hb9⟩) | fail)
    go_ret
    exact ⟨rfl, B8.trans (hb9.mono B8.size)⟩
end Go.Proofs.YticekkjambkifaaGreatDoor.Fl
