/- Reference 19: Check of any set and split. (Printed by genRckG.py.) -/
import Derived.Test.YticekkjambkifaaGreatDoorRsG
import Derived.Test.YticekkjambkifaaGreatDoorRefI
import Derived.Test.YticekkjambkifaaGreatDoorZao
set_option linter.unusedVariables false
set_option linter.unusedSimpArgs false
namespace Go.Proofs.YticekkjambkifaaGreatDoor.Fl
open Go.RowKit Go.Proofs.YticekkjambkifaaGreatDoor CoBit CoRat Rt

theorem meet_vld {l : List Int} {n : Nat} (h : Vld l n) : meetL l (rng n) = l := by
  rw [meet_sorted h.2]
  refine List.filter_eq_self.2 fun v hv => ?_
  have := h.1 v hv
  rw [decide_eq_true_eq, mem_rng]; exact this
set_option maxRecDepth 100000 in
set_option maxHeartbeats 32000000 in
theorem rdcheck_any (A : Option Addr) (m c : Nat) (n : Nat) (es : List (Int × Int)) (AS : Option Addr) (ns cs : Nat) (l : List Int) (N D den : Int) (AP : Option Addr) (np cp : Nat) (ps : List Int) (w : World) (h : RE w A m es) (hm : m ≤ 4096) (hz : chkG n es = 0) (hn : n ≤ 40) (hS : RI w AS ns l) (hns : ns ≤ 1000000) (hP : RI w AP np ps) (hnp : np ≤ 1000000) :
    Calls Tryz.prog 12 #[.agg #[.int .i64 n, .slice A m c], .agg #[.slice AS ns cs, .int .i64 N, .int .i64 D, .int .i64 den, .slice AP np cp]] w fun e w' => e = .returned (.int .i64 (dchk n es m l N D den ps)) ∧ Below w.heap.size w w' := by
  have hll := hS.len
  have ck := fun w h => rcheck_any A m c n es w h (by omega)
  rw [hz] at ck
  replace ck := Lib.hid ck
  have kv := fun w hS => Go.Proofs.YticekkjambkifaaGreatDoor.valid_any AS ns cs l n w hS (by omega)
  have ko := fun w h => rones_any A m c (n : Int) es w h (by omega)
  have kr := fun A0 c0 w h0 h => rright_any A0 m c0 den AP np cp ps w h0 h (by omega) (by omega)
  replace ko := Lib.hid ko
  have B0 : Below w.heap.size w ((w.alloc (.cells #[.int .i64 n, .slice A m c] 24)).alloc (.cells #[.slice AS ns cs, .int .i64 N, .int .i64 D, .int .i64 den, .slice AP np cp] 38)) := ((Below.refl _ w).alloc (Nat.le_refl _) _).alloc (by simp) _
  have G0 := (Blk.new w 24 #[.int .i64 n, .slice A m c]).alloc (.cells #[.slice AS ns cs, .int .i64 N, .int .i64 D, .int .i64 den, .slice AP np cp] 38)
  have D0 : Blk ((w.alloc (.cells #[.int .i64 n, .slice A m c] 24)).alloc (.cells #[.slice AS ns cs, .int .i64 N, .int .i64 D, .int .i64 den, .slice AP np cp] 38)) (w.heap.size + 1) 38 #[.slice AS ns cs, .int .i64 N, .int .i64 D, .int .i64 den, .slice AP np cp] := Blk.new' _ _ _ (by simp)
  by_cases hV : Vld l n
  · rw [decide_eq_true hV] at kv
    replace kv := Lib.hid kv
    by_cases h0 : l.length = 0 ∧ 0 < n
    · have hv : dchk n es m l N D den ps = 4 := by unfold dchk; rw [if_pos (.inr (.inl h0))]
      rw [hv]
      obtain ⟨h1, h2⟩ := h0
      obtain rfl : ns = 0 := by omega
      have q0 : (((0 : Nat) : Int) == 0) = true := rfl
      have q1 : (0 : Int) < (n : Int) := by omega
      replace kr := Lib.hid kr
      clear hv h1
      go_enter Tryz.func12, Tryz.ntmps12
      go_wp2_with fail
      refine (ck.out _ ((h.alloc _).alloc _)).mono ?_
      rintro e w1 ⟨rfl, hb1⟩
      have G1 := G0.below hb1 G0.lt
      have D1 := D0.below hb1 D0.lt
      have B1 := B0.trans (hb1.mono B0.size)
      have hE1 := h.below B1 (Nat.le_refl _)
      have hS1 := hS.below B1 (Nat.le_refl _)
      have hP1 := hP.below B1 (Nat.le_refl _)
      clear G0 D0 B0 hb1 ck h hS hP
      have g0 := Blk.cell G1 0
      have g1 := Blk.cell G1 1
      have s0 := Blk.cell D1 0
      have s1 := Blk.cell D1 1
      have s2 := Blk.cell D1 2
      have s3 := Blk.cell D1 3
      have s4 := Blk.cell D1 4
      simp at g0 g1 s0 s1 s2 s3 s4
      have gl := G1.lt
      have dl := D1.lt
      have kS : Hid (∀ w' : World, Below w1.heap.size w1 w' → w'.cell? ⟨w.heap.size, 0, none⟩ = some (.int .i64 n) ∧ w'.cell? ⟨w.heap.size, 1, none⟩ = some (.slice A m c) ∧ w'.cell? ⟨w.heap.size + 1, 0, none⟩ = some (.slice AS 0 cs) ∧ w'.cell? ⟨w.heap.size + 1, 3, none⟩ = some (.int .i64 den) ∧ w'.cell? ⟨w.heap.size + 1, 4, none⟩ = some (.slice AP np cp)) := Lib.hid (fun w' hb => ⟨(hb.cell (p := ⟨w.heap.size, 0, none⟩) gl).trans g0, (hb.cell (p := ⟨w.heap.size, 1, none⟩) gl).trans g1, (hb.cell (p := ⟨w.heap.size + 1, 0, none⟩) dl).trans s0, (hb.cell (p := ⟨w.heap.size + 1, 3, none⟩) dl).trans s3, (hb.cell (p := ⟨w.heap.size + 1, 4, none⟩) dl).trans s4⟩)
      have BN : Below w1.heap.size w1 w1.drew := (Below.refl w1.heap.size w1).drew
      clear s0 s1 s2 s3 s4 g0 g1
      go_upto_region 4 with fail
      obtain ⟨SS, hSS⟩ : ∃ SS : World → Prop, ∀ w', SS w' ↔ (w'.cell? ⟨w.heap.size, 0, none⟩ = some (.int .i64 n) ∧ w'.cell? ⟨w.heap.size, 1, none⟩ = some (.slice A m c) ∧ w'.cell? ⟨w.heap.size + 1, 0, none⟩ = some (.slice AS 0 cs) ∧ w'.cell? ⟨w.heap.size + 1, 3, none⟩ = some (.int .i64 den) ∧ w'.cell? ⟨w.heap.size + 1, 4, none⟩ = some (.slice AP np cp)) := ⟨fun w' => _, fun _ => Iff.rfl⟩
      replace hSS := Lib.hid hSS
      refine wp_region_TS (T := fun _ w' => SS w') (by kernel_rfl) ?_
      intro QQ hQQ hQP
      have s0 : SS w1.drew := (hSS.out _).2 (kS.out _ BN)
      generalize w1.drew = X at *
      refine wpAnyT_take (i := 0) (v := .pointer (some ⟨w.heap.size + 1, 0, none⟩)) rfl (by kernel_rfl) (by kernel_rfl) (by kernel_rfl) (fun c a w h => (hQP.out _ _ _ h).elim) (fun w h => h) (fun j oj hj hji hun hno w hT => hT) (Or.inl ⟨by rfl, fun w' hS => ?_⟩) s0 ?_
      · obtain ⟨y0, y1, y2, y3, y4⟩ := (hSS.out _).1 hS
        go_simp
      (try simp only [Act.put, List.setIfInBounds_toArray, List.set_cons_zero, List.set_cons_succ])
      refine wpAnyT_take (i := 1) (v := .slice AS 0 cs) rfl (by kernel_rfl) (by kernel_rfl) (by kernel_rfl) (fun c a w h => (hQP.out _ _ _ h).elim) (fun w h => h) (fun j oj hj hji hun hno w hT => hT) (Or.inl ⟨by rfl, fun w' hS => ?_⟩) s0 ?_
      · obtain ⟨y0, y1, y2, y3, y4⟩ := (hSS.out _).1 hS
        go_simp
      (try simp only [Act.put, List.setIfInBounds_toArray, List.set_cons_zero, List.set_cons_succ])
      refine wpAnyT_take (i := 2) (v := .pointer (some ⟨w.heap.size, 0, none⟩)) rfl (by kernel_rfl) (by kernel_rfl) (by kernel_rfl) (fun c a w h => (hQP.out _ _ _ h).elim) (fun w h => h) (fun j oj hj hji hun hno w hT => hT) (Or.inl ⟨by rfl, fun w' hS => ?_⟩) s0 ?_
      · obtain ⟨y0, y1, y2, y3, y4⟩ := (hSS.out _).1 hS
        go_simp
      (try simp only [Act.put, List.setIfInBounds_toArray, List.set_cons_zero, List.set_cons_succ])
      refine wpAnyT_take (i := 3) (v := .int .i64 n) rfl (by kernel_rfl) (by kernel_rfl) (by kernel_rfl) (fun c a w h => (hQP.out _ _ _ h).elim) (fun w h => h) (fun j oj hj hji hun hno w hT => hT) (Or.inl ⟨by rfl, fun w' hS => ?_⟩) s0 ?_
      · obtain ⟨y0, y1, y2, y3, y4⟩ := (hSS.out _).1 hS
        go_simp
      (try simp only [Act.put, List.setIfInBounds_toArray, List.set_cons_zero, List.set_cons_succ])
      refine wpAnyT_ready (rs := [4]) (by kernel_rfl) (by simp) ?_
      intro j hj
      rw [List.mem_singleton] at hj
      subst hj
      refine wpOpT_step (T := fun _ w' => SS w') (by rfl) (fun K hK => ?_)
      go_simp
      (with_reducible refine (kv.out _ (hS1.below BN (Nat.le_refl _))).mono ?_)
      rintro e w2 ⟨rfl, hw⟩
      obtain rfl := hw
      refine hK.out _ _ ?_ ?_
      · exact s0
      clear hK K
      (try simp only [Act.put, List.setIfInBounds_toArray, List.set_cons_zero, List.set_cons_succ])
      refine wpAnyT_ready (rs := [5]) (by kernel_rfl) (by simp) ?_
      intro j hj
      rw [List.mem_singleton] at hj
      subst hj
      refine wpOpT_step (T := fun _ w' => SS w') (by rfl) (fun K hK => ?_)
      go_simp
      refine hK.out _ _ ?_ ?_
      · exact s0
      clear hK K
      (try simp only [Act.put, List.setIfInBounds_toArray, List.set_cons_zero, List.set_cons_succ])
      refine wpAnyT_ready (rs := [6]) (by kernel_rfl) (by simp) ?_
      intro j hj
      rw [List.mem_singleton] at hj
      subst hj
      refine wpOpT_step (T := fun _ w' => SS w') (by rfl) (fun K hK => ?_)
      go_simp
      refine hK.out _ _ ?_ ?_
      · exact s0
      clear hK K
      (try simp only [Act.put, List.setIfInBounds_toArray, List.set_cons_zero, List.set_cons_succ])
      refine wpAnyT_ready (rs := [7]) (by kernel_rfl) (by simp) ?_
      intro j hj
      rw [List.mem_singleton] at hj
      subst hj
      refine wpOpT_step (T := fun _ w' => SS w') (by rfl) (fun K hK => ?_)
      go_simp
      refine hK.out _ _ ?_ ?_
      · exact s0
      clear hK K
      (try simp only [Act.put, List.setIfInBounds_toArray, List.set_cons_zero, List.set_cons_succ])
      refine wpAnyT_take (i := 8) (v := .slice AS 0 cs) rfl (by kernel_rfl) (by kernel_rfl) (by kernel_rfl) (fun c a w h => (hQP.out _ _ _ h).elim) (fun w h => h) (fun j oj hj hji hun hno w hT => hT) (Or.inl ⟨by rfl, fun w' hS => ?_⟩) s0 ?_
      · obtain ⟨y0, y1, y2, y3, y4⟩ := (hSS.out _).1 hS
        go_simp
      (try simp only [Act.put, List.setIfInBounds_toArray, List.set_cons_zero, List.set_cons_succ])
      refine wpAnyT_ready (rs := [9]) (by kernel_rfl) (by simp) ?_
      intro j hj
      rw [List.mem_singleton] at hj
      subst hj
      refine wpOpT_step (T := fun _ w' => SS w') (by rfl) (fun K hK => ?_)
      go_simp
      refine hK.out _ _ ?_ ?_
      · exact s0
      clear hK K
      (try simp only [Act.put, List.setIfInBounds_toArray, List.set_cons_zero, List.set_cons_succ])
      refine wpAnyT_ready (rs := [10]) (by kernel_rfl) (by simp) ?_
      intro j hj
      rw [List.mem_singleton] at hj
      subst hj
      refine wpOpT_step (T := fun _ w' => SS w') (by rfl) (fun K hK => ?_)
      go_simp
      refine hK.out _ _ ?_ ?_
      · exact s0
      clear hK K
      (try simp only [Act.put, List.setIfInBounds_toArray, List.set_cons_zero, List.set_cons_succ])
      refine wpAnyT_ready (rs := [11]) (by kernel_rfl) (by simp) ?_
      intro j hj
      rw [List.mem_singleton] at hj
      subst hj
      refine wpOpT_step (T := fun _ w' => SS w') (by rfl) (fun K hK => ?_)
      go_simp
      refine hK.out _ _ ?_ ?_
      · exact s0
      clear hK K
      (try simp only [Act.put, List.setIfInBounds_toArray, List.set_cons_zero, List.set_cons_succ])
      refine wpAnyT_ready (rs := [12]) (by kernel_rfl) (by simp) ?_
      intro j hj
      rw [List.mem_singleton] at hj
      subst hj
      refine wpOpT_step (T := fun _ w' => SS w') (by rfl) (fun K hK => ?_)
      go_simp
      refine hK.out _ _ ?_ ?_
      · exact s0
      clear hK K
      (try simp only [Act.put, List.setIfInBounds_toArray, List.set_cons_zero, List.set_cons_succ])
      refine wpAnyT_take (i := 13) (v := .int .i64 n) rfl (by kernel_rfl) (by kernel_rfl) (by kernel_rfl) (fun c a w h => (hQP.out _ _ _ h).elim) (fun w h => h) (fun j oj hj hji hun hno w hT => hT) (Or.inl ⟨by rfl, fun w' hS => ?_⟩) s0 ?_
      · obtain ⟨y0, y1, y2, y3, y4⟩ := (hSS.out _).1 hS
        go_simp
      (try simp only [Act.put, List.setIfInBounds_toArray, List.set_cons_zero, List.set_cons_succ])
      refine wpAnyT_ready (rs := [14]) (by kernel_rfl) (by simp) ?_
      intro j hj
      rw [List.mem_singleton] at hj
      subst hj
      refine wpOpT_step (T := fun _ w' => SS w') (by rfl) (fun K hK => ?_)
      go_simp
      refine hK.out _ _ ?_ ?_
      · exact s0
      clear hK K
      (try simp only [Act.put, List.setIfInBounds_toArray, List.set_cons_zero, List.set_cons_succ])
      refine wpAnyT_ready (rs := [15]) (by kernel_rfl) (by simp) ?_
      intro j hj
      rw [List.mem_singleton] at hj
      subst hj
      refine wpOpT_step (T := fun _ w' => SS w') (by rfl) (fun K hK => ?_)
      go_simp
      refine hK.out _ _ ?_ ?_
      · exact s0
      clear hK K
      (try simp only [Act.put, List.setIfInBounds_toArray, List.set_cons_zero, List.set_cons_succ])
      refine wpAnyT_ready (rs := [16]) (by kernel_rfl) (by simp) ?_
      intro j hj
      rw [List.mem_singleton] at hj
      subst hj
      refine wpOpT_step (T := fun _ w' => SS w') (by rfl) (fun K hK => ?_)
      go_simp
      refine hK.out _ _ ?_ ?_
      · exact s0
      clear hK K
      (try simp only [Act.put, List.setIfInBounds_toArray, List.set_cons_zero, List.set_cons_succ])
      refine wpAnyT_ready (rs := [17]) (by kernel_rfl) (by simp) ?_
      intro j hj
      rw [List.mem_singleton] at hj
      subst hj
      refine wpOpT_step (T := fun _ w' => SS w') (by rfl) (fun K hK => ?_)
      go_simp
      refine hK.out _ _ ?_ ?_
      · exact s0
      clear hK K
      (try simp only [Act.put, List.setIfInBounds_toArray, List.set_cons_zero, List.set_cons_succ])
      refine wpAnyT_take (i := 18) rfl (by kernel_rfl) (by kernel_rfl) (by kernel_rfl) (fun c a w h => (hQP.out _ _ _ h).elim) (fun w h => h) (fun j oj hj hji hun hno w hT => hT) (Or.inr ⟨by rfl, rfl⟩) s0 ?_
      (try simp only [Act.put, List.setIfInBounds_toArray, List.set_cons_zero, List.set_cons_succ])
      refine wpAnyT_take (i := 19) rfl (by kernel_rfl) (by kernel_rfl) (by kernel_rfl) (fun c a w h => (hQP.out _ _ _ h).elim) (fun w h => h) (fun j oj hj hji hun hno w hT => hT) (Or.inr ⟨by rfl, rfl⟩) s0 ?_
      (try simp only [Act.put, List.setIfInBounds_toArray, List.set_cons_zero, List.set_cons_succ])
      refine wpAnyT_take (i := 20) rfl (by kernel_rfl) (by kernel_rfl) (by kernel_rfl) (fun c a w h => (hQP.out _ _ _ h).elim) (fun w h => h) (fun j oj hj hji hun hno w hT => hT) (Or.inr ⟨by rfl, rfl⟩) s0 ?_
      (try simp only [Act.put, List.setIfInBounds_toArray, List.set_cons_zero, List.set_cons_succ])
      refine wpAnyT_take (i := 21) rfl (by kernel_rfl) (by kernel_rfl) (by kernel_rfl) (fun c a w h => (hQP.out _ _ _ h).elim) (fun w h => h) (fun j oj hj hji hun hno w hT => hT) (Or.inr ⟨by rfl, rfl⟩) s0 ?_
      (try simp only [Act.put, List.setIfInBounds_toArray, List.set_cons_zero, List.set_cons_succ])
      refine wpAnyT_take (i := 22) rfl (by kernel_rfl) (by kernel_rfl) (by kernel_rfl) (fun c a w h => (hQP.out _ _ _ h).elim) (fun w h => h) (fun j oj hj hji hun hno w hT => hT) (Or.inr ⟨by rfl, rfl⟩) s0 ?_
      (try simp only [Act.put, List.setIfInBounds_toArray, List.set_cons_zero, List.set_cons_succ])
      refine wpAnyT_take (i := 23) rfl (by kernel_rfl) (by kernel_rfl) (by kernel_rfl) (fun c a w h => (hQP.out _ _ _ h).elim) (fun w h => h) (fun j oj hj hji hun hno w hT => hT) (Or.inr ⟨by rfl, rfl⟩) s0 ?_
      (try simp only [Act.put, List.setIfInBounds_toArray, List.set_cons_zero, List.set_cons_succ])
      refine wpAnyT_ready (rs := [24]) (by kernel_rfl) (by simp) ?_
      intro j hj
      rw [List.mem_singleton] at hj
      subst hj
      refine wpOpT_step (T := fun _ w' => SS w') (by rfl) (fun K hK => ?_)
      go_simp
      refine hK.out _ _ ?_ ?_
      · exact s0
      clear hK K
      (try simp only [Act.put, List.setIfInBounds_toArray, List.set_cons_zero, List.set_cons_succ])
      refine wpAnyT_done (by kernel_rfl) (hQQ.out _ _ ?_) _
      clear hQQ hQP QQ s0 hSS SS
      have B2 := B1.trans (BN.mono B1.size)
      go_wp2_with fail
      go_ret
      exact ⟨rfl, B2⟩
    · by_cases hF : FitS m den ps
      · rw [decide_eq_true hF] at kr
        replace kr := Lib.hid kr
        have hv : dchk n es m l N D den ps = if dseN es l l.length ≠ N ∨ dseD es l l.length ≠ D ∨ 0 < cmpF (mkN (maxL (ldL n den es ps)) den) (mkD (maxL (ldL n den es ps)) den) (dseN es l l.length) (dseD es l l.length) then 12 else 0 := by
          unfold dchk
          rw [if_neg (fun h => h.elim (fun h => h hV) (fun h => h.elim h0 (fun h => h hF)))]
        rw [hv]
        obtain rfl : m = np := by rw [← hP.len]; exact hF.2.2.1.symm
        have kd := fun w h hl => rdensity_any A m c n es AS ns cs l w h (by omega) hz (by omega) hl (by omega)
        rw [meet_vld hV] at kd
        replace kd := Lib.hid kd
        have kb := fun w h h1 => rbound_ok A m c n es den AP cp ps w h h1 (by omega) hz (by omega) hF.1 hF.2.1 hF.2.2.2
        replace kb := Lib.hid kb
        generalize dseN es l l.length = dN at *
        generalize dseD es l l.length = dD at *
        generalize mkN (maxL (ldL n den es ps)) den = mN at *
        generalize mkD (maxL (ldL n den es ps)) den = mD at *
        have kc := fun w => Rt.rCmp_any mN mD dN dD w
        generalize cmpF mN mD dN dD = C at *
        obtain ⟨R, hR⟩ : ∃ R : Int, R = if dN ≠ N ∨ dD ≠ D ∨ 0 < C then 12 else 0 := ⟨_, rfl⟩
        rw [← hR]
        replace hR := Lib.hid hR
        replace kc := Lib.hid kc
        clear hv hF hz hV
        by_cases e : ns = 0
        · subst e
          have q0 : (((0 : Nat) : Int) == 0) = true := rfl
          have hn0 : Hid (n = 0) := Lib.hid (Nat.eq_zero_of_not_pos fun hh => h0 ⟨hll, hh⟩)
          clear h0 hll
          generalize hnI : (n : Int) = nI at *
          have q1 : ¬ (0 : Int) < nI := by have := hn0.out; omega
          have q2 : decide ((0 : Int) < nI) = false := decide_eq_false q1
          replace hnI := Lib.hid hnI
          go_enter Tryz.func12, Tryz.ntmps12
          go_wp2_with fail
          refine (ck.out _ ((h.alloc _).alloc _)).mono ?_
          rintro e w1 ⟨rfl, hb1⟩
          have G1 := G0.below hb1 G0.lt
          have D1 := D0.below hb1 D0.lt
          have B1 := B0.trans (hb1.mono B0.size)
          have hE1 := h.below B1 (Nat.le_refl _)
          have hS1 := hS.below B1 (Nat.le_refl _)
          have hP1 := hP.below B1 (Nat.le_refl _)
          clear G0 D0 B0 hb1 ck h hS hP
          have g0 := Blk.cell G1 0
          have g1 := Blk.cell G1 1
          have s0 := Blk.cell D1 0
          have s1 := Blk.cell D1 1
          have s2 := Blk.cell D1 2
          have s3 := Blk.cell D1 3
          have s4 := Blk.cell D1 4
          simp at g0 g1 s0 s1 s2 s3 s4
          have gl := G1.lt
          have dl := D1.lt
          have kS : Hid (∀ w' : World, Below w1.heap.size w1 w' → w'.cell? ⟨w.heap.size, 0, none⟩ = some (.int .i64 nI) ∧ w'.cell? ⟨w.heap.size, 1, none⟩ = some (.slice A m c) ∧ w'.cell? ⟨w.heap.size + 1, 0, none⟩ = some (.slice AS 0 cs) ∧ w'.cell? ⟨w.heap.size + 1, 3, none⟩ = some (.int .i64 den) ∧ w'.cell? ⟨w.heap.size + 1, 4, none⟩ = some (.slice AP m cp)) := Lib.hid (fun w' hb => ⟨(hb.cell (p := ⟨w.heap.size, 0, none⟩) gl).trans g0, (hb.cell (p := ⟨w.heap.size, 1, none⟩) gl).trans g1, (hb.cell (p := ⟨w.heap.size + 1, 0, none⟩) dl).trans s0, (hb.cell (p := ⟨w.heap.size + 1, 3, none⟩) dl).trans s3, (hb.cell (p := ⟨w.heap.size + 1, 4, none⟩) dl).trans s4⟩)
          have BN : Below w1.heap.size w1 w1.drew := (Below.refl w1.heap.size w1).drew
          clear s0 s1 s2 s3 s4 g0 g1
          go_upto_region 4 with fail
          obtain ⟨SS, hSS⟩ : ∃ SS : World → Prop, ∀ w', SS w' ↔ (w'.cell? ⟨w.heap.size, 0, none⟩ = some (.int .i64 nI) ∧ w'.cell? ⟨w.heap.size, 1, none⟩ = some (.slice A m c) ∧ w'.cell? ⟨w.heap.size + 1, 0, none⟩ = some (.slice AS 0 cs) ∧ w'.cell? ⟨w.heap.size + 1, 3, none⟩ = some (.int .i64 den) ∧ w'.cell? ⟨w.heap.size + 1, 4, none⟩ = some (.slice AP m cp)) := ⟨fun w' => _, fun _ => Iff.rfl⟩
          replace hSS := Lib.hid hSS
          refine wp_region_TS (T := fun _ w' => SS w') (by kernel_rfl) ?_
          intro QQ hQQ hQP
          have s0 : SS w1.drew := (hSS.out _).2 (kS.out _ BN)
          generalize w1.drew = X at *
          refine wpAnyT_take (i := 0) (v := .pointer (some ⟨w.heap.size + 1, 0, none⟩)) rfl (by kernel_rfl) (by kernel_rfl) (by kernel_rfl) (fun c a w h => (hQP.out _ _ _ h).elim) (fun w h => h) (fun j oj hj hji hun hno w hT => hT) (Or.inl ⟨by rfl, fun w' hS => ?_⟩) s0 ?_
          · obtain ⟨y0, y1, y2, y3, y4⟩ := (hSS.out _).1 hS
            go_simp
          (try simp only [Act.put, List.setIfInBounds_toArray, List.set_cons_zero, List.set_cons_succ])
          refine wpAnyT_take (i := 1) (v := .slice AS 0 cs) rfl (by kernel_rfl) (by kernel_rfl) (by kernel_rfl) (fun c a w h => (hQP.out _ _ _ h).elim) (fun w h => h) (fun j oj hj hji hun hno w hT => hT) (Or.inl ⟨by rfl, fun w' hS => ?_⟩) s0 ?_
          · obtain ⟨y0, y1, y2, y3, y4⟩ := (hSS.out _).1 hS
            go_simp
          (try simp only [Act.put, List.setIfInBounds_toArray, List.set_cons_zero, List.set_cons_succ])
          refine wpAnyT_take (i := 2) (v := .pointer (some ⟨w.heap.size, 0, none⟩)) rfl (by kernel_rfl) (by kernel_rfl) (by kernel_rfl) (fun c a w h => (hQP.out _ _ _ h).elim) (fun w h => h) (fun j oj hj hji hun hno w hT => hT) (Or.inl ⟨by rfl, fun w' hS => ?_⟩) s0 ?_
          · obtain ⟨y0, y1, y2, y3, y4⟩ := (hSS.out _).1 hS
            go_simp
          (try simp only [Act.put, List.setIfInBounds_toArray, List.set_cons_zero, List.set_cons_succ])
          refine wpAnyT_take (i := 3) (v := .int .i64 nI) rfl (by kernel_rfl) (by kernel_rfl) (by kernel_rfl) (fun c a w h => (hQP.out _ _ _ h).elim) (fun w h => h) (fun j oj hj hji hun hno w hT => hT) (Or.inl ⟨by rfl, fun w' hS => ?_⟩) s0 ?_
          · obtain ⟨y0, y1, y2, y3, y4⟩ := (hSS.out _).1 hS
            go_simp
          (try simp only [Act.put, List.setIfInBounds_toArray, List.set_cons_zero, List.set_cons_succ])
          refine wpAnyT_ready (rs := [4]) (by kernel_rfl) (by simp) ?_
          intro j hj
          rw [List.mem_singleton] at hj
          subst hj
          refine wpOpT_step (T := fun _ w' => SS w') (by rfl) (fun K hK => ?_)
          go_simp
          (with_reducible refine (kv.out _ (hS1.below BN (Nat.le_refl _))).mono ?_)
          rintro e w2 ⟨rfl, hw⟩
          obtain rfl := hw
          refine hK.out _ _ ?_ ?_
          · exact s0
          clear hK K
          (try simp only [Act.put, List.setIfInBounds_toArray, List.set_cons_zero, List.set_cons_succ])
          refine wpAnyT_ready (rs := [5]) (by kernel_rfl) (by simp) ?_
          intro j hj
          rw [List.mem_singleton] at hj
          subst hj
          refine wpOpT_step (T := fun _ w' => SS w') (by rfl) (fun K hK => ?_)
          go_simp
          refine hK.out _ _ ?_ ?_
          · exact s0
          clear hK K
          (try simp only [Act.put, List.setIfInBounds_toArray, List.set_cons_zero, List.set_cons_succ])
          refine wpAnyT_ready (rs := [6]) (by kernel_rfl) (by simp) ?_
          intro j hj
          rw [List.mem_singleton] at hj
          subst hj
          refine wpOpT_step (T := fun _ w' => SS w') (by rfl) (fun K hK => ?_)
          go_simp
          refine hK.out _ _ ?_ ?_
          · exact s0
          clear hK K
          (try simp only [Act.put, List.setIfInBounds_toArray, List.set_cons_zero, List.set_cons_succ])
          refine wpAnyT_ready (rs := [7]) (by kernel_rfl) (by simp) ?_
          intro j hj
          rw [List.mem_singleton] at hj
          subst hj
          refine wpOpT_step (T := fun _ w' => SS w') (by rfl) (fun K hK => ?_)
          go_simp
          refine hK.out _ _ ?_ ?_
          · exact s0
          clear hK K
          (try simp only [Act.put, List.setIfInBounds_toArray, List.set_cons_zero, List.set_cons_succ])
          refine wpAnyT_take (i := 8) (v := .slice AS 0 cs) rfl (by kernel_rfl) (by kernel_rfl) (by kernel_rfl) (fun c a w h => (hQP.out _ _ _ h).elim) (fun w h => h) (fun j oj hj hji hun hno w hT => hT) (Or.inl ⟨by rfl, fun w' hS => ?_⟩) s0 ?_
          · obtain ⟨y0, y1, y2, y3, y4⟩ := (hSS.out _).1 hS
            go_simp
          (try simp only [Act.put, List.setIfInBounds_toArray, List.set_cons_zero, List.set_cons_succ])
          refine wpAnyT_ready (rs := [9]) (by kernel_rfl) (by simp) ?_
          intro j hj
          rw [List.mem_singleton] at hj
          subst hj
          refine wpOpT_step (T := fun _ w' => SS w') (by rfl) (fun K hK => ?_)
          go_simp
          refine hK.out _ _ ?_ ?_
          · exact s0
          clear hK K
          (try simp only [Act.put, List.setIfInBounds_toArray, List.set_cons_zero, List.set_cons_succ])
          refine wpAnyT_ready (rs := [10]) (by kernel_rfl) (by simp) ?_
          intro j hj
          rw [List.mem_singleton] at hj
          subst hj
          refine wpOpT_step (T := fun _ w' => SS w') (by rfl) (fun K hK => ?_)
          go_simp
          refine hK.out _ _ ?_ ?_
          · exact s0
          clear hK K
          (try simp only [Act.put, List.setIfInBounds_toArray, List.set_cons_zero, List.set_cons_succ])
          refine wpAnyT_ready (rs := [11]) (by kernel_rfl) (by simp) ?_
          intro j hj
          rw [List.mem_singleton] at hj
          subst hj
          refine wpOpT_step (T := fun _ w' => SS w') (by rfl) (fun K hK => ?_)
          go_simp
          refine hK.out _ _ ?_ ?_
          · exact s0
          clear hK K
          (try simp only [Act.put, List.setIfInBounds_toArray, List.set_cons_zero, List.set_cons_succ])
          refine wpAnyT_ready (rs := [12]) (by kernel_rfl) (by simp) ?_
          intro j hj
          rw [List.mem_singleton] at hj
          subst hj
          refine wpOpT_step (T := fun _ w' => SS w') (by rfl) (fun K hK => ?_)
          go_simp
          refine hK.out _ _ ?_ ?_
          · exact s0
          clear hK K
          (try simp only [Act.put, List.setIfInBounds_toArray, List.set_cons_zero, List.set_cons_succ])
          refine wpAnyT_take (i := 13) (v := .int .i64 nI) rfl (by kernel_rfl) (by kernel_rfl) (by kernel_rfl) (fun c a w h => (hQP.out _ _ _ h).elim) (fun w h => h) (fun j oj hj hji hun hno w hT => hT) (Or.inl ⟨by rfl, fun w' hS => ?_⟩) s0 ?_
          · obtain ⟨y0, y1, y2, y3, y4⟩ := (hSS.out _).1 hS
            go_simp
          (try simp only [Act.put, List.setIfInBounds_toArray, List.set_cons_zero, List.set_cons_succ])
          refine wpAnyT_ready (rs := [14]) (by kernel_rfl) (by simp) ?_
          intro j hj
          rw [List.mem_singleton] at hj
          subst hj
          refine wpOpT_step (T := fun _ w' => SS w') (by rfl) (fun K hK => ?_)
          go_simp
          refine hK.out _ _ ?_ ?_
          · exact s0
          clear hK K
          (try simp only [Act.put, List.setIfInBounds_toArray, List.set_cons_zero, List.set_cons_succ])
          refine wpAnyT_ready (rs := [15]) (by kernel_rfl) (by simp) ?_
          intro j hj
          rw [List.mem_singleton] at hj
          subst hj
          refine wpOpT_step (T := fun _ w' => SS w') (by rfl) (fun K hK => ?_)
          go_simp
          refine hK.out _ _ ?_ ?_
          · exact s0
          clear hK K
          (try simp only [Act.put, List.setIfInBounds_toArray, List.set_cons_zero, List.set_cons_succ])
          refine wpAnyT_ready (rs := [16]) (by kernel_rfl) (by simp) ?_
          intro j hj
          rw [List.mem_singleton] at hj
          subst hj
          refine wpOpT_step (T := fun _ w' => SS w') (by rfl) (fun K hK => ?_)
          go_simp
          refine hK.out _ _ ?_ ?_
          · exact s0
          clear hK K
          (try simp only [Act.put, List.setIfInBounds_toArray, List.set_cons_zero, List.set_cons_succ])
          refine wpAnyT_ready (rs := [17]) (by kernel_rfl) (by simp) ?_
          intro j hj
          rw [List.mem_singleton] at hj
          subst hj
          refine wpOpT_step (T := fun _ w' => SS w') (by rfl) (fun K hK => ?_)
          go_simp
          refine hK.out _ _ ?_ ?_
          · exact s0
          clear hK K
          (try simp only [Act.put, List.setIfInBounds_toArray, List.set_cons_zero, List.set_cons_succ])
          refine wpAnyT_take (i := 18) (v := .agg #[.int .i64 nI, .slice A m c]) rfl (by kernel_rfl) (by kernel_rfl) (by kernel_rfl) (fun c a w h => (hQP.out _ _ _ h).elim) (fun w h => h) (fun j oj hj hji hun hno w hT => hT) (Or.inl ⟨by rfl, fun w' hS => ?_⟩) s0 ?_
          · obtain ⟨y0, y1, y2, y3, y4⟩ := (hSS.out _).1 hS
            go_simp
          (try simp only [Act.put, List.setIfInBounds_toArray, List.set_cons_zero, List.set_cons_succ])
          refine wpAnyT_take (i := 20) (v := .pointer (some ⟨w.heap.size + 1, 3, none⟩)) rfl (by kernel_rfl) (by kernel_rfl) (by kernel_rfl) (fun c a w h => (hQP.out _ _ _ h).elim) (fun w h => h) (fun j oj hj hji hun hno w hT => hT) (Or.inl ⟨by rfl, fun w' hS => ?_⟩) s0 ?_
          · obtain ⟨y0, y1, y2, y3, y4⟩ := (hSS.out _).1 hS
            go_simp
          (try simp only [Act.put, List.setIfInBounds_toArray, List.set_cons_zero, List.set_cons_succ])
          refine wpAnyT_take (i := 21) (v := .agg #[.int .i64 den, .slice AP m cp]) rfl (by kernel_rfl) (by kernel_rfl) (by kernel_rfl) (fun c a w h => (hQP.out _ _ _ h).elim) (fun w h => h) (fun j oj hj hji hun hno w hT => hT) (Or.inl ⟨by rfl, fun w' hS => ?_⟩) s0 ?_
          · obtain ⟨y0, y1, y2, y3, y4⟩ := (hSS.out _).1 hS
            go_simp
          (try simp only [Act.put, List.setIfInBounds_toArray, List.set_cons_zero, List.set_cons_succ])
          refine wpAnyT_ready (rs := [19]) (by kernel_rfl) (by simp) ?_
          intro j hj
          rw [List.mem_singleton] at hj
          subst hj
          refine wpOpT_step (T := fun _ w' => SS w') (by rfl) (fun K hK => ?_)
          go_simp
          (with_reducible refine (ko.out _ (hE1.below BN (Nat.le_refl _))).mono ?_)
          rintro e w3 ⟨A3, n3, c3, rfl, hn3, hr3, hb3, hf3⟩
          replace BN := BN.trans (hb3.mono BN.size)
          obtain rfl : m = n3 := (by have := hr3.len; rw [List.length_replicate] at this; exact this)
          have s1 : SS w3 := (hSS.out _).2 (kS.out _ BN)
          refine hK.out _ _ ?_ ?_
          · exact s1
          clear hK K s0
          (try simp only [Act.put, List.setIfInBounds_toArray, List.set_cons_zero, List.set_cons_succ])
          refine wpAnyT_ready (rs := [22]) (by kernel_rfl) (by simp) ?_
          intro j hj
          rw [List.mem_singleton] at hj
          subst hj
          refine wpOpT_step (T := fun _ w' => SS w') (by rfl) (fun K hK => ?_)
          go_simp
          (with_reducible refine (kr.out A3 c3 _ hr3 (hP1.below BN (Nat.le_refl _))).mono ?_)
          rintro e w4 ⟨rfl, hb4⟩
          replace BN := BN.trans (hb4.mono BN.size)
          have s2 : SS w4 := (hSS.out _).2 (kS.out _ BN)
          refine hK.out _ _ ?_ ?_
          · exact s2
          clear hK K s1
          (try simp only [Act.put, List.setIfInBounds_toArray, List.set_cons_zero, List.set_cons_succ])
          refine wpAnyT_ready (rs := [23]) (by kernel_rfl) (by simp) ?_
          intro j hj
          rw [List.mem_singleton] at hj
          subst hj
          refine wpOpT_step (T := fun _ w' => SS w') (by rfl) (fun K hK => ?_)
          go_simp
          refine hK.out _ _ ?_ ?_
          · exact s2
          clear hK K
          (try simp only [Act.put, List.setIfInBounds_toArray, List.set_cons_zero, List.set_cons_succ])
          refine wpAnyT_ready (rs := [24]) (by kernel_rfl) (by simp) ?_
          intro j hj
          rw [List.mem_singleton] at hj
          subst hj
          refine wpOpT_step (T := fun _ w' => SS w') (by rfl) (fun K hK => ?_)
          go_simp
          refine hK.out _ _ ?_ ?_
          · exact s2
          clear hK K
          (try simp only [Act.put, List.setIfInBounds_toArray, List.set_cons_zero, List.set_cons_succ])
          refine wpAnyT_done (by kernel_rfl) (hQQ.out _ _ ?_) _
          clear hQQ hQP QQ s2 hSS SS
          have G2 := G1.below BN gl
          have D2 := D1.below BN dl
          have B2 := B1.trans (BN.mono B1.size)
          have hE2 := hE1.below BN (Nat.le_refl _)
          have hS2 := hS1.below BN (Nat.le_refl _)
          have hP2 := hP1.below BN (Nat.le_refl _)
          clear G1 D1 B1 hE1 hS1 hP1 BN kS kv ko kr hr3 hb3 hf3 hb4 hn3
          have g0 := Blk.cell G2 0
          have g1 := Blk.cell G2 1
          have s0 := Blk.cell D2 0
          simp at g0 g1 s0
          go_upto_region 7 with (first
            | (go_at_call 21; (with_reducible refine (kd.out _ hE2 hS2).mono ?_); rintro e w5 ⟨rfl, hb5⟩)
            | fail)
          have G5 := (G2.below hb5 G2.lt).alloc (.cells #[.int .i64 dN, .int .i64 dD] 34)
          have D5 := (D2.below hb5 D2.lt).alloc (.cells #[.int .i64 dN, .int .i64 dD] 34)
          have F5 := Blk.new w5 34 #[.int .i64 dN, .int .i64 dD]
          have B5 := (B2.trans (hb5.mono B2.size)).alloc (B2.trans (hb5.mono B2.size)).size (.cells #[.int .i64 dN, .int .i64 dD] 34)
          have hE5 := (hE2.below hb5 (Nat.le_refl _)).alloc (.cells #[.int .i64 dN, .int .i64 dD] 34)
          have hP5 := (hP2.below hb5 (Nat.le_refl _)).alloc (.cells #[.int .i64 dN, .int .i64 dD] 34)
          clear G2 D2 B2 hE2 hS2 hP2 hb5 kd g0 g1 s0
          generalize w5.alloc (.cells #[.int .i64 dN, .int .i64 dD] 34) = w6 at *
          generalize w5.heap.size = gx at *
          have g0 := Blk.cell G5 0
          have g1 := Blk.cell G5 1
          have s3 := Blk.cell D5 3
          have s4 := Blk.cell D5 4
          simp at g0 g1 s3 s4
          go_upto_region 8 with (first
            | (go_at_call 19; (with_reducible refine (kb.out _ hE5 hP5).mono ?_); rintro e w7 ⟨rfl, hb7⟩)
            | fail)
          have D8 := (D5.below hb7 D5.lt).alloc (.cells #[.int .i64 mN, .int .i64 mD] 34)
          have F8 := (F5.below hb7 F5.lt).alloc (.cells #[.int .i64 mN, .int .i64 mD] 34)
          have M8 := Blk.new w7 34 #[.int .i64 mN, .int .i64 mD]
          have B8 := (B5.trans (hb7.mono B5.size)).alloc (B5.trans (hb7.mono B5.size)).size (.cells #[.int .i64 mN, .int .i64 mD] 34)
          clear G5 D5 F5 B5 hE5 hP5 hb7 kb g0 g1 s3 s4
          generalize w7.alloc (.cells #[.int .i64 mN, .int .i64 mD] 34) = w8 at *
          generalize w7.heap.size = gm at *
          have s1 := Blk.cell D8 1
          have s2 := Blk.cell D8 2
          have x0 := Blk.cell F8 0
          have x1 := Blk.cell F8 1
          have m0 := Blk.cell M8 0
          have m1 := Blk.cell M8 1
          simp at s1 s2 x0 x1 m0 m1
          by_cases hN : N = dN
          · by_cases hD : D = dD
            · have e1 : (N == dN) = true := by simpa using hN
              have e2 : (D == dD) = true := by simpa using hD
              have hN' := hN.symm
              have hD' := hD.symm
              by_cases hC : 0 < C
              · have hv2 : Hid ((if dN ≠ N ∨ dD ≠ D ∨ 0 < C then (12 : Int) else 0) = 12) := Lib.hid (if_pos (.inr (.inr hC)))
                clear hN hD hN' hD'
                go_wp2_with (first | (go_at_call 37; (with_reducible refine (kc.out _).mono ?_); rintro e w9 ⟨rfl, hb9⟩) | fail)
                go_ret
                exact ⟨by rw [hR.out, hv2.out]; rfl, B8.trans (hb9.mono B8.size)⟩
              · have hv2 : Hid ((if dN ≠ N ∨ dD ≠ D ∨ 0 < C then (12 : Int) else 0) = 0) := Lib.hid (if_neg (fun h => h.elim (fun h => h hN') (fun h => h.elim (fun h => h hD') hC)))
                clear hN hD hN' hD'
                go_wp2_with (first | (go_at_call 37; (with_reducible refine (kc.out _).mono ?_); rintro e w9 ⟨rfl, hb9⟩) | fail)
                go_ret
                exact ⟨by rw [hR.out, hv2.out]; rfl, B8.trans (hb9.mono B8.size)⟩
            · have hv2 : Hid ((if dN ≠ N ∨ dD ≠ D ∨ 0 < C then (12 : Int) else 0) = 12) := Lib.hid (if_pos (.inr (.inl fun h => hD h.symm)))
              have e1 : (N == dN) = true := by simpa using hN
              have e2 : (D == dD) = false := by simpa using hD
              clear hN hD
              go_wp2_with fail
              go_ret
              exact ⟨by rw [hR.out, hv2.out]; rfl, B8⟩
          · have hv2 : Hid ((if dN ≠ N ∨ dD ≠ D ∨ 0 < C then (12 : Int) else 0) = 12) := Lib.hid (if_pos (.inl fun h => hN h.symm))
            have e1 : (N == dN) = false := by simpa using hN
            clear hN
            go_wp2_with fail
            go_ret
            exact ⟨by rw [hR.out, hv2.out]; rfl, B8⟩
        · have q0 : ((ns : Int) == 0) = false := by rw [beq_eq_false_iff_ne]; omega
          clear h0 hll e
          go_enter Tryz.func12, Tryz.ntmps12
          go_wp2_with fail
          refine (ck.out _ ((h.alloc _).alloc _)).mono ?_
          rintro e w1 ⟨rfl, hb1⟩
          have G1 := G0.below hb1 G0.lt
          have D1 := D0.below hb1 D0.lt
          have B1 := B0.trans (hb1.mono B0.size)
          have hE1 := h.below B1 (Nat.le_refl _)
          have hS1 := hS.below B1 (Nat.le_refl _)
          have hP1 := hP.below B1 (Nat.le_refl _)
          clear G0 D0 B0 hb1 ck h hS hP
          have g0 := Blk.cell G1 0
          have g1 := Blk.cell G1 1
          have s0 := Blk.cell D1 0
          have s1 := Blk.cell D1 1
          have s2 := Blk.cell D1 2
          have s3 := Blk.cell D1 3
          have s4 := Blk.cell D1 4
          simp at g0 g1 s0 s1 s2 s3 s4
          have gl := G1.lt
          have dl := D1.lt
          have kS : Hid (∀ w' : World, Below w1.heap.size w1 w' → w'.cell? ⟨w.heap.size, 0, none⟩ = some (.int .i64 n) ∧ w'.cell? ⟨w.heap.size, 1, none⟩ = some (.slice A m c) ∧ w'.cell? ⟨w.heap.size + 1, 0, none⟩ = some (.slice AS ns cs) ∧ w'.cell? ⟨w.heap.size + 1, 3, none⟩ = some (.int .i64 den) ∧ w'.cell? ⟨w.heap.size + 1, 4, none⟩ = some (.slice AP m cp)) := Lib.hid (fun w' hb => ⟨(hb.cell (p := ⟨w.heap.size, 0, none⟩) gl).trans g0, (hb.cell (p := ⟨w.heap.size, 1, none⟩) gl).trans g1, (hb.cell (p := ⟨w.heap.size + 1, 0, none⟩) dl).trans s0, (hb.cell (p := ⟨w.heap.size + 1, 3, none⟩) dl).trans s3, (hb.cell (p := ⟨w.heap.size + 1, 4, none⟩) dl).trans s4⟩)
          have BN : Below w1.heap.size w1 w1.drew := (Below.refl w1.heap.size w1).drew
          clear s0 s1 s2 s3 s4 g0 g1
          go_upto_region 4 with fail
          obtain ⟨SS, hSS⟩ : ∃ SS : World → Prop, ∀ w', SS w' ↔ (w'.cell? ⟨w.heap.size, 0, none⟩ = some (.int .i64 n) ∧ w'.cell? ⟨w.heap.size, 1, none⟩ = some (.slice A m c) ∧ w'.cell? ⟨w.heap.size + 1, 0, none⟩ = some (.slice AS ns cs) ∧ w'.cell? ⟨w.heap.size + 1, 3, none⟩ = some (.int .i64 den) ∧ w'.cell? ⟨w.heap.size + 1, 4, none⟩ = some (.slice AP m cp)) := ⟨fun w' => _, fun _ => Iff.rfl⟩
          replace hSS := Lib.hid hSS
          refine wp_region_TS (T := fun _ w' => SS w') (by kernel_rfl) ?_
          intro QQ hQQ hQP
          have s0 : SS w1.drew := (hSS.out _).2 (kS.out _ BN)
          generalize w1.drew = X at *
          refine wpAnyT_take (i := 0) (v := .pointer (some ⟨w.heap.size + 1, 0, none⟩)) rfl (by kernel_rfl) (by kernel_rfl) (by kernel_rfl) (fun c a w h => (hQP.out _ _ _ h).elim) (fun w h => h) (fun j oj hj hji hun hno w hT => hT) (Or.inl ⟨by rfl, fun w' hS => ?_⟩) s0 ?_
          · obtain ⟨y0, y1, y2, y3, y4⟩ := (hSS.out _).1 hS
            go_simp
          (try simp only [Act.put, List.setIfInBounds_toArray, List.set_cons_zero, List.set_cons_succ])
          refine wpAnyT_take (i := 1) (v := .slice AS ns cs) rfl (by kernel_rfl) (by kernel_rfl) (by kernel_rfl) (fun c a w h => (hQP.out _ _ _ h).elim) (fun w h => h) (fun j oj hj hji hun hno w hT => hT) (Or.inl ⟨by rfl, fun w' hS => ?_⟩) s0 ?_
          · obtain ⟨y0, y1, y2, y3, y4⟩ := (hSS.out _).1 hS
            go_simp
          (try simp only [Act.put, List.setIfInBounds_toArray, List.set_cons_zero, List.set_cons_succ])
          refine wpAnyT_take (i := 2) (v := .pointer (some ⟨w.heap.size, 0, none⟩)) rfl (by kernel_rfl) (by kernel_rfl) (by kernel_rfl) (fun c a w h => (hQP.out _ _ _ h).elim) (fun w h => h) (fun j oj hj hji hun hno w hT => hT) (Or.inl ⟨by rfl, fun w' hS => ?_⟩) s0 ?_
          · obtain ⟨y0, y1, y2, y3, y4⟩ := (hSS.out _).1 hS
            go_simp
          (try simp only [Act.put, List.setIfInBounds_toArray, List.set_cons_zero, List.set_cons_succ])
          refine wpAnyT_take (i := 3) (v := .int .i64 n) rfl (by kernel_rfl) (by kernel_rfl) (by kernel_rfl) (fun c a w h => (hQP.out _ _ _ h).elim) (fun w h => h) (fun j oj hj hji hun hno w hT => hT) (Or.inl ⟨by rfl, fun w' hS => ?_⟩) s0 ?_
          · obtain ⟨y0, y1, y2, y3, y4⟩ := (hSS.out _).1 hS
            go_simp
          (try simp only [Act.put, List.setIfInBounds_toArray, List.set_cons_zero, List.set_cons_succ])
          refine wpAnyT_ready (rs := [4]) (by kernel_rfl) (by simp) ?_
          intro j hj
          rw [List.mem_singleton] at hj
          subst hj
          refine wpOpT_step (T := fun _ w' => SS w') (by rfl) (fun K hK => ?_)
          go_simp
          (with_reducible refine (kv.out _ (hS1.below BN (Nat.le_refl _))).mono ?_)
          rintro e w2 ⟨rfl, hw⟩
          obtain rfl := hw
          refine hK.out _ _ ?_ ?_
          · exact s0
          clear hK K
          (try simp only [Act.put, List.setIfInBounds_toArray, List.set_cons_zero, List.set_cons_succ])
          refine wpAnyT_ready (rs := [5]) (by kernel_rfl) (by simp) ?_
          intro j hj
          rw [List.mem_singleton] at hj
          subst hj
          refine wpOpT_step (T := fun _ w' => SS w') (by rfl) (fun K hK => ?_)
          go_simp
          refine hK.out _ _ ?_ ?_
          · exact s0
          clear hK K
          (try simp only [Act.put, List.setIfInBounds_toArray, List.set_cons_zero, List.set_cons_succ])
          refine wpAnyT_ready (rs := [6]) (by kernel_rfl) (by simp) ?_
          intro j hj
          rw [List.mem_singleton] at hj
          subst hj
          refine wpOpT_step (T := fun _ w' => SS w') (by rfl) (fun K hK => ?_)
          go_simp
          refine hK.out _ _ ?_ ?_
          · exact s0
          clear hK K
          (try simp only [Act.put, List.setIfInBounds_toArray, List.set_cons_zero, List.set_cons_succ])
          refine wpAnyT_ready (rs := [7]) (by kernel_rfl) (by simp) ?_
          intro j hj
          rw [List.mem_singleton] at hj
          subst hj
          refine wpOpT_step (T := fun _ w' => SS w') (by rfl) (fun K hK => ?_)
          go_simp
          refine hK.out _ _ ?_ ?_
          · exact s0
          clear hK K
          (try simp only [Act.put, List.setIfInBounds_toArray, List.set_cons_zero, List.set_cons_succ])
          refine wpAnyT_take (i := 8) (v := .slice AS ns cs) rfl (by kernel_rfl) (by kernel_rfl) (by kernel_rfl) (fun c a w h => (hQP.out _ _ _ h).elim) (fun w h => h) (fun j oj hj hji hun hno w hT => hT) (Or.inl ⟨by rfl, fun w' hS => ?_⟩) s0 ?_
          · obtain ⟨y0, y1, y2, y3, y4⟩ := (hSS.out _).1 hS
            go_simp
          (try simp only [Act.put, List.setIfInBounds_toArray, List.set_cons_zero, List.set_cons_succ])
          refine wpAnyT_ready (rs := [9]) (by kernel_rfl) (by simp) ?_
          intro j hj
          rw [List.mem_singleton] at hj
          subst hj
          refine wpOpT_step (T := fun _ w' => SS w') (by rfl) (fun K hK => ?_)
          go_simp
          refine hK.out _ _ ?_ ?_
          · exact s0
          clear hK K
          (try simp only [Act.put, List.setIfInBounds_toArray, List.set_cons_zero, List.set_cons_succ])
          refine wpAnyT_ready (rs := [10]) (by kernel_rfl) (by simp) ?_
          intro j hj
          rw [List.mem_singleton] at hj
          subst hj
          refine wpOpT_step (T := fun _ w' => SS w') (by rfl) (fun K hK => ?_)
          go_simp
          refine hK.out _ _ ?_ ?_
          · exact s0
          clear hK K
          (try simp only [Act.put, List.setIfInBounds_toArray, List.set_cons_zero, List.set_cons_succ])
          refine wpAnyT_ready (rs := [11]) (by kernel_rfl) (by simp) ?_
          intro j hj
          rw [List.mem_singleton] at hj
          subst hj
          refine wpOpT_step (T := fun _ w' => SS w') (by rfl) (fun K hK => ?_)
          go_simp
          refine hK.out _ _ ?_ ?_
          · exact s0
          clear hK K
          (try simp only [Act.put, List.setIfInBounds_toArray, List.set_cons_zero, List.set_cons_succ])
          refine wpAnyT_take (i := 12) rfl (by kernel_rfl) (by kernel_rfl) (by kernel_rfl) (fun c a w h => (hQP.out _ _ _ h).elim) (fun w h => h) (fun j oj hj hji hun hno w hT => hT) (Or.inr ⟨by rfl, rfl⟩) s0 ?_
          (try simp only [Act.put, List.setIfInBounds_toArray, List.set_cons_zero, List.set_cons_succ])
          refine wpAnyT_take (i := 13) rfl (by kernel_rfl) (by kernel_rfl) (by kernel_rfl) (fun c a w h => (hQP.out _ _ _ h).elim) (fun w h => h) (fun j oj hj hji hun hno w hT => hT) (Or.inr ⟨by rfl, rfl⟩) s0 ?_
          (try simp only [Act.put, List.setIfInBounds_toArray, List.set_cons_zero, List.set_cons_succ])
          refine wpAnyT_take (i := 14) rfl (by kernel_rfl) (by kernel_rfl) (by kernel_rfl) (fun c a w h => (hQP.out _ _ _ h).elim) (fun w h => h) (fun j oj hj hji hun hno w hT => hT) (Or.inr ⟨by rfl, rfl⟩) s0 ?_
          (try simp only [Act.put, List.setIfInBounds_toArray, List.set_cons_zero, List.set_cons_succ])
          refine wpAnyT_ready (rs := [15]) (by kernel_rfl) (by simp) ?_
          intro j hj
          rw [List.mem_singleton] at hj
          subst hj
          refine wpOpT_step (T := fun _ w' => SS w') (by rfl) (fun K hK => ?_)
          go_simp
          refine hK.out _ _ ?_ ?_
          · exact s0
          clear hK K
          (try simp only [Act.put, List.setIfInBounds_toArray, List.set_cons_zero, List.set_cons_succ])
          refine wpAnyT_ready (rs := [16]) (by kernel_rfl) (by simp) ?_
          intro j hj
          rw [List.mem_singleton] at hj
          subst hj
          refine wpOpT_step (T := fun _ w' => SS w') (by rfl) (fun K hK => ?_)
          go_simp
          refine hK.out _ _ ?_ ?_
          · exact s0
          clear hK K
          (try simp only [Act.put, List.setIfInBounds_toArray, List.set_cons_zero, List.set_cons_succ])
          refine wpAnyT_ready (rs := [17]) (by kernel_rfl) (by simp) ?_
          intro j hj
          rw [List.mem_singleton] at hj
          subst hj
          refine wpOpT_step (T := fun _ w' => SS w') (by rfl) (fun K hK => ?_)
          go_simp
          refine hK.out _ _ ?_ ?_
          · exact s0
          clear hK K
          (try simp only [Act.put, List.setIfInBounds_toArray, List.set_cons_zero, List.set_cons_succ])
          refine wpAnyT_take (i := 18) (v := .agg #[.int .i64 n, .slice A m c]) rfl (by kernel_rfl) (by kernel_rfl) (by kernel_rfl) (fun c a w h => (hQP.out _ _ _ h).elim) (fun w h => h) (fun j oj hj hji hun hno w hT => hT) (Or.inl ⟨by rfl, fun w' hS => ?_⟩) s0 ?_
          · obtain ⟨y0, y1, y2, y3, y4⟩ := (hSS.out _).1 hS
            go_simp
          (try simp only [Act.put, List.setIfInBounds_toArray, List.set_cons_zero, List.set_cons_succ])
          refine wpAnyT_take (i := 20) (v := .pointer (some ⟨w.heap.size + 1, 3, none⟩)) rfl (by kernel_rfl) (by kernel_rfl) (by kernel_rfl) (fun c a w h => (hQP.out _ _ _ h).elim) (fun w h => h) (fun j oj hj hji hun hno w hT => hT) (Or.inl ⟨by rfl, fun w' hS => ?_⟩) s0 ?_
          · obtain ⟨y0, y1, y2, y3, y4⟩ := (hSS.out _).1 hS
            go_simp
          (try simp only [Act.put, List.setIfInBounds_toArray, List.set_cons_zero, List.set_cons_succ])
          refine wpAnyT_take (i := 21) (v := .agg #[.int .i64 den, .slice AP m cp]) rfl (by kernel_rfl) (by kernel_rfl) (by kernel_rfl) (fun c a w h => (hQP.out _ _ _ h).elim) (fun w h => h) (fun j oj hj hji hun hno w hT => hT) (Or.inl ⟨by rfl, fun w' hS => ?_⟩) s0 ?_
          · obtain ⟨y0, y1, y2, y3, y4⟩ := (hSS.out _).1 hS
            go_simp
          (try simp only [Act.put, List.setIfInBounds_toArray, List.set_cons_zero, List.set_cons_succ])
          refine wpAnyT_ready (rs := [19]) (by kernel_rfl) (by simp) ?_
          intro j hj
          rw [List.mem_singleton] at hj
          subst hj
          refine wpOpT_step (T := fun _ w' => SS w') (by rfl) (fun K hK => ?_)
          go_simp
          (with_reducible refine (ko.out _ (hE1.below BN (Nat.le_refl _))).mono ?_)
          rintro e w3 ⟨A3, n3, c3, rfl, hn3, hr3, hb3, hf3⟩
          replace BN := BN.trans (hb3.mono BN.size)
          obtain rfl : m = n3 := (by have := hr3.len; rw [List.length_replicate] at this; exact this)
          have s1 : SS w3 := (hSS.out _).2 (kS.out _ BN)
          refine hK.out _ _ ?_ ?_
          · exact s1
          clear hK K s0
          (try simp only [Act.put, List.setIfInBounds_toArray, List.set_cons_zero, List.set_cons_succ])
          refine wpAnyT_ready (rs := [22]) (by kernel_rfl) (by simp) ?_
          intro j hj
          rw [List.mem_singleton] at hj
          subst hj
          refine wpOpT_step (T := fun _ w' => SS w') (by rfl) (fun K hK => ?_)
          go_simp
          (with_reducible refine (kr.out A3 c3 _ hr3 (hP1.below BN (Nat.le_refl _))).mono ?_)
          rintro e w4 ⟨rfl, hb4⟩
          replace BN := BN.trans (hb4.mono BN.size)
          have s2 : SS w4 := (hSS.out _).2 (kS.out _ BN)
          refine hK.out _ _ ?_ ?_
          · exact s2
          clear hK K s1
          (try simp only [Act.put, List.setIfInBounds_toArray, List.set_cons_zero, List.set_cons_succ])
          refine wpAnyT_ready (rs := [23]) (by kernel_rfl) (by simp) ?_
          intro j hj
          rw [List.mem_singleton] at hj
          subst hj
          refine wpOpT_step (T := fun _ w' => SS w') (by rfl) (fun K hK => ?_)
          go_simp
          refine hK.out _ _ ?_ ?_
          · exact s2
          clear hK K
          (try simp only [Act.put, List.setIfInBounds_toArray, List.set_cons_zero, List.set_cons_succ])
          refine wpAnyT_ready (rs := [24]) (by kernel_rfl) (by simp) ?_
          intro j hj
          rw [List.mem_singleton] at hj
          subst hj
          refine wpOpT_step (T := fun _ w' => SS w') (by rfl) (fun K hK => ?_)
          go_simp
          refine hK.out _ _ ?_ ?_
          · exact s2
          clear hK K
          (try simp only [Act.put, List.setIfInBounds_toArray, List.set_cons_zero, List.set_cons_succ])
          refine wpAnyT_done (by kernel_rfl) (hQQ.out _ _ ?_) _
          clear hQQ hQP QQ s2 hSS SS
          have G2 := G1.below BN gl
          have D2 := D1.below BN dl
          have B2 := B1.trans (BN.mono B1.size)
          have hE2 := hE1.below BN (Nat.le_refl _)
          have hS2 := hS1.below BN (Nat.le_refl _)
          have hP2 := hP1.below BN (Nat.le_refl _)
          clear G1 D1 B1 hE1 hS1 hP1 BN kS kv ko kr hr3 hb3 hf3 hb4 hn3
          have g0 := Blk.cell G2 0
          have g1 := Blk.cell G2 1
          have s0 := Blk.cell D2 0
          simp at g0 g1 s0
          go_upto_region 7 with (first
            | (go_at_call 21; (with_reducible refine (kd.out _ hE2 hS2).mono ?_); rintro e w5 ⟨rfl, hb5⟩)
            | fail)
          have G5 := (G2.below hb5 G2.lt).alloc (.cells #[.int .i64 dN, .int .i64 dD] 34)
          have D5 := (D2.below hb5 D2.lt).alloc (.cells #[.int .i64 dN, .int .i64 dD] 34)
          have F5 := Blk.new w5 34 #[.int .i64 dN, .int .i64 dD]
          have B5 := (B2.trans (hb5.mono B2.size)).alloc (B2.trans (hb5.mono B2.size)).size (.cells #[.int .i64 dN, .int .i64 dD] 34)
          have hE5 := (hE2.below hb5 (Nat.le_refl _)).alloc (.cells #[.int .i64 dN, .int .i64 dD] 34)
          have hP5 := (hP2.below hb5 (Nat.le_refl _)).alloc (.cells #[.int .i64 dN, .int .i64 dD] 34)
          clear G2 D2 B2 hE2 hS2 hP2 hb5 kd g0 g1 s0
          generalize w5.alloc (.cells #[.int .i64 dN, .int .i64 dD] 34) = w6 at *
          generalize w5.heap.size = gx at *
          have g0 := Blk.cell G5 0
          have g1 := Blk.cell G5 1
          have s3 := Blk.cell D5 3
          have s4 := Blk.cell D5 4
          simp at g0 g1 s3 s4
          go_upto_region 8 with (first
            | (go_at_call 19; (with_reducible refine (kb.out _ hE5 hP5).mono ?_); rintro e w7 ⟨rfl, hb7⟩)
            | fail)
          have D8 := (D5.below hb7 D5.lt).alloc (.cells #[.int .i64 mN, .int .i64 mD] 34)
          have F8 := (F5.below hb7 F5.lt).alloc (.cells #[.int .i64 mN, .int .i64 mD] 34)
          have M8 := Blk.new w7 34 #[.int .i64 mN, .int .i64 mD]
          have B8 := (B5.trans (hb7.mono B5.size)).alloc (B5.trans (hb7.mono B5.size)).size (.cells #[.int .i64 mN, .int .i64 mD] 34)
          clear G5 D5 F5 B5 hE5 hP5 hb7 kb g0 g1 s3 s4
          generalize w7.alloc (.cells #[.int .i64 mN, .int .i64 mD] 34) = w8 at *
          generalize w7.heap.size = gm at *
          have s1 := Blk.cell D8 1
          have s2 := Blk.cell D8 2
          have x0 := Blk.cell F8 0
          have x1 := Blk.cell F8 1
          have m0 := Blk.cell M8 0
          have m1 := Blk.cell M8 1
          simp at s1 s2 x0 x1 m0 m1
          by_cases hN : N = dN
          · by_cases hD : D = dD
            · have e1 : (N == dN) = true := by simpa using hN
              have e2 : (D == dD) = true := by simpa using hD
              have hN' := hN.symm
              have hD' := hD.symm
              by_cases hC : 0 < C
              · have hv2 : Hid ((if dN ≠ N ∨ dD ≠ D ∨ 0 < C then (12 : Int) else 0) = 12) := Lib.hid (if_pos (.inr (.inr hC)))
                clear hN hD hN' hD'
                go_wp2_with (first | (go_at_call 37; (with_reducible refine (kc.out _).mono ?_); rintro e w9 ⟨rfl, hb9⟩) | fail)
                go_ret
                exact ⟨by rw [hR.out, hv2.out]; rfl, B8.trans (hb9.mono B8.size)⟩
              · have hv2 : Hid ((if dN ≠ N ∨ dD ≠ D ∨ 0 < C then (12 : Int) else 0) = 0) := Lib.hid (if_neg (fun h => h.elim (fun h => h hN') (fun h => h.elim (fun h => h hD') hC)))
                clear hN hD hN' hD'
                go_wp2_with (first | (go_at_call 37; (with_reducible refine (kc.out _).mono ?_); rintro e w9 ⟨rfl, hb9⟩) | fail)
                go_ret
                exact ⟨by rw [hR.out, hv2.out]; rfl, B8.trans (hb9.mono B8.size)⟩
            · have hv2 : Hid ((if dN ≠ N ∨ dD ≠ D ∨ 0 < C then (12 : Int) else 0) = 12) := Lib.hid (if_pos (.inr (.inl fun h => hD h.symm)))
              have e1 : (N == dN) = true := by simpa using hN
              have e2 : (D == dD) = false := by simpa using hD
              clear hN hD
              go_wp2_with fail
              go_ret
              exact ⟨by rw [hR.out, hv2.out]; rfl, B8⟩
          · have hv2 : Hid ((if dN ≠ N ∨ dD ≠ D ∨ 0 < C then (12 : Int) else 0) = 12) := Lib.hid (if_pos (.inl fun h => hN h.symm))
            have e1 : (N == dN) = false := by simpa using hN
            clear hN
            go_wp2_with fail
            go_ret
            exact ⟨by rw [hR.out, hv2.out]; rfl, B8⟩
      · rw [decide_eq_false hF] at kr
        replace kr := Lib.hid kr
        have hv : dchk n es m l N D den ps = 4 := by unfold dchk; rw [if_pos (.inr (.inr hF))]
        rw [hv]
        clear hv hF hz hV
        by_cases e : ns = 0
        · subst e
          have q0 : (((0 : Nat) : Int) == 0) = true := rfl
          have hn0 : Hid (n = 0) := Lib.hid (Nat.eq_zero_of_not_pos fun hh => h0 ⟨hll, hh⟩)
          clear h0 hll
          generalize hnI : (n : Int) = nI at *
          have q1 : ¬ (0 : Int) < nI := by have := hn0.out; omega
          have q2 : decide ((0 : Int) < nI) = false := decide_eq_false q1
          replace hnI := Lib.hid hnI
          go_enter Tryz.func12, Tryz.ntmps12
          go_wp2_with fail
          refine (ck.out _ ((h.alloc _).alloc _)).mono ?_
          rintro e w1 ⟨rfl, hb1⟩
          have G1 := G0.below hb1 G0.lt
          have D1 := D0.below hb1 D0.lt
          have B1 := B0.trans (hb1.mono B0.size)
          have hE1 := h.below B1 (Nat.le_refl _)
          have hS1 := hS.below B1 (Nat.le_refl _)
          have hP1 := hP.below B1 (Nat.le_refl _)
          clear G0 D0 B0 hb1 ck h hS hP
          have g0 := Blk.cell G1 0
          have g1 := Blk.cell G1 1
          have s0 := Blk.cell D1 0
          have s1 := Blk.cell D1 1
          have s2 := Blk.cell D1 2
          have s3 := Blk.cell D1 3
          have s4 := Blk.cell D1 4
          simp at g0 g1 s0 s1 s2 s3 s4
          have gl := G1.lt
          have dl := D1.lt
          have kS : Hid (∀ w' : World, Below w1.heap.size w1 w' → w'.cell? ⟨w.heap.size, 0, none⟩ = some (.int .i64 nI) ∧ w'.cell? ⟨w.heap.size, 1, none⟩ = some (.slice A m c) ∧ w'.cell? ⟨w.heap.size + 1, 0, none⟩ = some (.slice AS 0 cs) ∧ w'.cell? ⟨w.heap.size + 1, 3, none⟩ = some (.int .i64 den) ∧ w'.cell? ⟨w.heap.size + 1, 4, none⟩ = some (.slice AP np cp)) := Lib.hid (fun w' hb => ⟨(hb.cell (p := ⟨w.heap.size, 0, none⟩) gl).trans g0, (hb.cell (p := ⟨w.heap.size, 1, none⟩) gl).trans g1, (hb.cell (p := ⟨w.heap.size + 1, 0, none⟩) dl).trans s0, (hb.cell (p := ⟨w.heap.size + 1, 3, none⟩) dl).trans s3, (hb.cell (p := ⟨w.heap.size + 1, 4, none⟩) dl).trans s4⟩)
          have BN : Below w1.heap.size w1 w1.drew := (Below.refl w1.heap.size w1).drew
          clear s0 s1 s2 s3 s4 g0 g1
          go_upto_region 4 with fail
          obtain ⟨SS, hSS⟩ : ∃ SS : World → Prop, ∀ w', SS w' ↔ (w'.cell? ⟨w.heap.size, 0, none⟩ = some (.int .i64 nI) ∧ w'.cell? ⟨w.heap.size, 1, none⟩ = some (.slice A m c) ∧ w'.cell? ⟨w.heap.size + 1, 0, none⟩ = some (.slice AS 0 cs) ∧ w'.cell? ⟨w.heap.size + 1, 3, none⟩ = some (.int .i64 den) ∧ w'.cell? ⟨w.heap.size + 1, 4, none⟩ = some (.slice AP np cp)) := ⟨fun w' => _, fun _ => Iff.rfl⟩
          replace hSS := Lib.hid hSS
          refine wp_region_TS (T := fun _ w' => SS w') (by kernel_rfl) ?_
          intro QQ hQQ hQP
          have s0 : SS w1.drew := (hSS.out _).2 (kS.out _ BN)
          generalize w1.drew = X at *
          refine wpAnyT_take (i := 0) (v := .pointer (some ⟨w.heap.size + 1, 0, none⟩)) rfl (by kernel_rfl) (by kernel_rfl) (by kernel_rfl) (fun c a w h => (hQP.out _ _ _ h).elim) (fun w h => h) (fun j oj hj hji hun hno w hT => hT) (Or.inl ⟨by rfl, fun w' hS => ?_⟩) s0 ?_
          · obtain ⟨y0, y1, y2, y3, y4⟩ := (hSS.out _).1 hS
            go_simp
          (try simp only [Act.put, List.setIfInBounds_toArray, List.set_cons_zero, List.set_cons_succ])
          refine wpAnyT_take (i := 1) (v := .slice AS 0 cs) rfl (by kernel_rfl) (by kernel_rfl) (by kernel_rfl) (fun c a w h => (hQP.out _ _ _ h).elim) (fun w h => h) (fun j oj hj hji hun hno w hT => hT) (Or.inl ⟨by rfl, fun w' hS => ?_⟩) s0 ?_
          · obtain ⟨y0, y1, y2, y3, y4⟩ := (hSS.out _).1 hS
            go_simp
          (try simp only [Act.put, List.setIfInBounds_toArray, List.set_cons_zero, List.set_cons_succ])
          refine wpAnyT_take (i := 2) (v := .pointer (some ⟨w.heap.size, 0, none⟩)) rfl (by kernel_rfl) (by kernel_rfl) (by kernel_rfl) (fun c a w h => (hQP.out _ _ _ h).elim) (fun w h => h) (fun j oj hj hji hun hno w hT => hT) (Or.inl ⟨by rfl, fun w' hS => ?_⟩) s0 ?_
          · obtain ⟨y0, y1, y2, y3, y4⟩ := (hSS.out _).1 hS
            go_simp
          (try simp only [Act.put, List.setIfInBounds_toArray, List.set_cons_zero, List.set_cons_succ])
          refine wpAnyT_take (i := 3) (v := .int .i64 nI) rfl (by kernel_rfl) (by kernel_rfl) (by kernel_rfl) (fun c a w h => (hQP.out _ _ _ h).elim) (fun w h => h) (fun j oj hj hji hun hno w hT => hT) (Or.inl ⟨by rfl, fun w' hS => ?_⟩) s0 ?_
          · obtain ⟨y0, y1, y2, y3, y4⟩ := (hSS.out _).1 hS
            go_simp
          (try simp only [Act.put, List.setIfInBounds_toArray, List.set_cons_zero, List.set_cons_succ])
          refine wpAnyT_ready (rs := [4]) (by kernel_rfl) (by simp) ?_
          intro j hj
          rw [List.mem_singleton] at hj
          subst hj
          refine wpOpT_step (T := fun _ w' => SS w') (by rfl) (fun K hK => ?_)
          go_simp
          (with_reducible refine (kv.out _ (hS1.below BN (Nat.le_refl _))).mono ?_)
          rintro e w2 ⟨rfl, hw⟩
          obtain rfl := hw
          refine hK.out _ _ ?_ ?_
          · exact s0
          clear hK K
          (try simp only [Act.put, List.setIfInBounds_toArray, List.set_cons_zero, List.set_cons_succ])
          refine wpAnyT_ready (rs := [5]) (by kernel_rfl) (by simp) ?_
          intro j hj
          rw [List.mem_singleton] at hj
          subst hj
          refine wpOpT_step (T := fun _ w' => SS w') (by rfl) (fun K hK => ?_)
          go_simp
          refine hK.out _ _ ?_ ?_
          · exact s0
          clear hK K
          (try simp only [Act.put, List.setIfInBounds_toArray, List.set_cons_zero, List.set_cons_succ])
          refine wpAnyT_ready (rs := [6]) (by kernel_rfl) (by simp) ?_
          intro j hj
          rw [List.mem_singleton] at hj
          subst hj
          refine wpOpT_step (T := fun _ w' => SS w') (by rfl) (fun K hK => ?_)
          go_simp
          refine hK.out _ _ ?_ ?_
          · exact s0
          clear hK K
          (try simp only [Act.put, List.setIfInBounds_toArray, List.set_cons_zero, List.set_cons_succ])
          refine wpAnyT_ready (rs := [7]) (by kernel_rfl) (by simp) ?_
          intro j hj
          rw [List.mem_singleton] at hj
          subst hj
          refine wpOpT_step (T := fun _ w' => SS w') (by rfl) (fun K hK => ?_)
          go_simp
          refine hK.out _ _ ?_ ?_
          · exact s0
          clear hK K
          (try simp only [Act.put, List.setIfInBounds_toArray, List.set_cons_zero, List.set_cons_succ])
          refine wpAnyT_take (i := 8) (v := .slice AS 0 cs) rfl (by kernel_rfl) (by kernel_rfl) (by kernel_rfl) (fun c a w h => (hQP.out _ _ _ h).elim) (fun w h => h) (fun j oj hj hji hun hno w hT => hT) (Or.inl ⟨by rfl, fun w' hS => ?_⟩) s0 ?_
          · obtain ⟨y0, y1, y2, y3, y4⟩ := (hSS.out _).1 hS
            go_simp
          (try simp only [Act.put, List.setIfInBounds_toArray, List.set_cons_zero, List.set_cons_succ])
          refine wpAnyT_ready (rs := [9]) (by kernel_rfl) (by simp) ?_
          intro j hj
          rw [List.mem_singleton] at hj
          subst hj
          refine wpOpT_step (T := fun _ w' => SS w') (by rfl) (fun K hK => ?_)
          go_simp
          refine hK.out _ _ ?_ ?_
          · exact s0
          clear hK K
          (try simp only [Act.put, List.setIfInBounds_toArray, List.set_cons_zero, List.set_cons_succ])
          refine wpAnyT_ready (rs := [10]) (by kernel_rfl) (by simp) ?_
          intro j hj
          rw [List.mem_singleton] at hj
          subst hj
          refine wpOpT_step (T := fun _ w' => SS w') (by rfl) (fun K hK => ?_)
          go_simp
          refine hK.out _ _ ?_ ?_
          · exact s0
          clear hK K
          (try simp only [Act.put, List.setIfInBounds_toArray, List.set_cons_zero, List.set_cons_succ])
          refine wpAnyT_ready (rs := [11]) (by kernel_rfl) (by simp) ?_
          intro j hj
          rw [List.mem_singleton] at hj
          subst hj
          refine wpOpT_step (T := fun _ w' => SS w') (by rfl) (fun K hK => ?_)
          go_simp
          refine hK.out _ _ ?_ ?_
          · exact s0
          clear hK K
          (try simp only [Act.put, List.setIfInBounds_toArray, List.set_cons_zero, List.set_cons_succ])
          refine wpAnyT_ready (rs := [12]) (by kernel_rfl) (by simp) ?_
          intro j hj
          rw [List.mem_singleton] at hj
          subst hj
          refine wpOpT_step (T := fun _ w' => SS w') (by rfl) (fun K hK => ?_)
          go_simp
          refine hK.out _ _ ?_ ?_
          · exact s0
          clear hK K
          (try simp only [Act.put, List.setIfInBounds_toArray, List.set_cons_zero, List.set_cons_succ])
          refine wpAnyT_take (i := 13) (v := .int .i64 nI) rfl (by kernel_rfl) (by kernel_rfl) (by kernel_rfl) (fun c a w h => (hQP.out _ _ _ h).elim) (fun w h => h) (fun j oj hj hji hun hno w hT => hT) (Or.inl ⟨by rfl, fun w' hS => ?_⟩) s0 ?_
          · obtain ⟨y0, y1, y2, y3, y4⟩ := (hSS.out _).1 hS
            go_simp
          (try simp only [Act.put, List.setIfInBounds_toArray, List.set_cons_zero, List.set_cons_succ])
          refine wpAnyT_ready (rs := [14]) (by kernel_rfl) (by simp) ?_
          intro j hj
          rw [List.mem_singleton] at hj
          subst hj
          refine wpOpT_step (T := fun _ w' => SS w') (by rfl) (fun K hK => ?_)
          go_simp
          refine hK.out _ _ ?_ ?_
          · exact s0
          clear hK K
          (try simp only [Act.put, List.setIfInBounds_toArray, List.set_cons_zero, List.set_cons_succ])
          refine wpAnyT_ready (rs := [15]) (by kernel_rfl) (by simp) ?_
          intro j hj
          rw [List.mem_singleton] at hj
          subst hj
          refine wpOpT_step (T := fun _ w' => SS w') (by rfl) (fun K hK => ?_)
          go_simp
          refine hK.out _ _ ?_ ?_
          · exact s0
          clear hK K
          (try simp only [Act.put, List.setIfInBounds_toArray, List.set_cons_zero, List.set_cons_succ])
          refine wpAnyT_ready (rs := [16]) (by kernel_rfl) (by simp) ?_
          intro j hj
          rw [List.mem_singleton] at hj
          subst hj
          refine wpOpT_step (T := fun _ w' => SS w') (by rfl) (fun K hK => ?_)
          go_simp
          refine hK.out _ _ ?_ ?_
          · exact s0
          clear hK K
          (try simp only [Act.put, List.setIfInBounds_toArray, List.set_cons_zero, List.set_cons_succ])
          refine wpAnyT_ready (rs := [17]) (by kernel_rfl) (by simp) ?_
          intro j hj
          rw [List.mem_singleton] at hj
          subst hj
          refine wpOpT_step (T := fun _ w' => SS w') (by rfl) (fun K hK => ?_)
          go_simp
          refine hK.out _ _ ?_ ?_
          · exact s0
          clear hK K
          (try simp only [Act.put, List.setIfInBounds_toArray, List.set_cons_zero, List.set_cons_succ])
          refine wpAnyT_take (i := 18) (v := .agg #[.int .i64 nI, .slice A m c]) rfl (by kernel_rfl) (by kernel_rfl) (by kernel_rfl) (fun c a w h => (hQP.out _ _ _ h).elim) (fun w h => h) (fun j oj hj hji hun hno w hT => hT) (Or.inl ⟨by rfl, fun w' hS => ?_⟩) s0 ?_
          · obtain ⟨y0, y1, y2, y3, y4⟩ := (hSS.out _).1 hS
            go_simp
          (try simp only [Act.put, List.setIfInBounds_toArray, List.set_cons_zero, List.set_cons_succ])
          refine wpAnyT_take (i := 20) (v := .pointer (some ⟨w.heap.size + 1, 3, none⟩)) rfl (by kernel_rfl) (by kernel_rfl) (by kernel_rfl) (fun c a w h => (hQP.out _ _ _ h).elim) (fun w h => h) (fun j oj hj hji hun hno w hT => hT) (Or.inl ⟨by rfl, fun w' hS => ?_⟩) s0 ?_
          · obtain ⟨y0, y1, y2, y3, y4⟩ := (hSS.out _).1 hS
            go_simp
          (try simp only [Act.put, List.setIfInBounds_toArray, List.set_cons_zero, List.set_cons_succ])
          refine wpAnyT_take (i := 21) (v := .agg #[.int .i64 den, .slice AP np cp]) rfl (by kernel_rfl) (by kernel_rfl) (by kernel_rfl) (fun c a w h => (hQP.out _ _ _ h).elim) (fun w h => h) (fun j oj hj hji hun hno w hT => hT) (Or.inl ⟨by rfl, fun w' hS => ?_⟩) s0 ?_
          · obtain ⟨y0, y1, y2, y3, y4⟩ := (hSS.out _).1 hS
            go_simp
          (try simp only [Act.put, List.setIfInBounds_toArray, List.set_cons_zero, List.set_cons_succ])
          refine wpAnyT_ready (rs := [19]) (by kernel_rfl) (by simp) ?_
          intro j hj
          rw [List.mem_singleton] at hj
          subst hj
          refine wpOpT_step (T := fun _ w' => SS w') (by rfl) (fun K hK => ?_)
          go_simp
          (with_reducible refine (ko.out _ (hE1.below BN (Nat.le_refl _))).mono ?_)
          rintro e w3 ⟨A3, n3, c3, rfl, hn3, hr3, hb3, hf3⟩
          replace BN := BN.trans (hb3.mono BN.size)
          obtain rfl : m = n3 := (by have := hr3.len; rw [List.length_replicate] at this; exact this)
          have s1 : SS w3 := (hSS.out _).2 (kS.out _ BN)
          refine hK.out _ _ ?_ ?_
          · exact s1
          clear hK K s0
          (try simp only [Act.put, List.setIfInBounds_toArray, List.set_cons_zero, List.set_cons_succ])
          refine wpAnyT_ready (rs := [22]) (by kernel_rfl) (by simp) ?_
          intro j hj
          rw [List.mem_singleton] at hj
          subst hj
          refine wpOpT_step (T := fun _ w' => SS w') (by rfl) (fun K hK => ?_)
          go_simp
          (with_reducible refine (kr.out A3 c3 _ hr3 (hP1.below BN (Nat.le_refl _))).mono ?_)
          rintro e w4 ⟨rfl, hb4⟩
          replace BN := BN.trans (hb4.mono BN.size)
          have s2 : SS w4 := (hSS.out _).2 (kS.out _ BN)
          refine hK.out _ _ ?_ ?_
          · exact s2
          clear hK K s1
          (try simp only [Act.put, List.setIfInBounds_toArray, List.set_cons_zero, List.set_cons_succ])
          refine wpAnyT_ready (rs := [23]) (by kernel_rfl) (by simp) ?_
          intro j hj
          rw [List.mem_singleton] at hj
          subst hj
          refine wpOpT_step (T := fun _ w' => SS w') (by rfl) (fun K hK => ?_)
          go_simp
          refine hK.out _ _ ?_ ?_
          · exact s2
          clear hK K
          (try simp only [Act.put, List.setIfInBounds_toArray, List.set_cons_zero, List.set_cons_succ])
          refine wpAnyT_ready (rs := [24]) (by kernel_rfl) (by simp) ?_
          intro j hj
          rw [List.mem_singleton] at hj
          subst hj
          refine wpOpT_step (T := fun _ w' => SS w') (by rfl) (fun K hK => ?_)
          go_simp
          refine hK.out _ _ ?_ ?_
          · exact s2
          clear hK K
          (try simp only [Act.put, List.setIfInBounds_toArray, List.set_cons_zero, List.set_cons_succ])
          refine wpAnyT_done (by kernel_rfl) (hQQ.out _ _ ?_) _
          clear hQQ hQP QQ s2 hSS SS
          have B2 := B1.trans (BN.mono B1.size)
          go_wp2_with fail
          go_ret
          exact ⟨rfl, B2⟩
        · have q0 : ((ns : Int) == 0) = false := by rw [beq_eq_false_iff_ne]; omega
          clear h0 hll e
          go_enter Tryz.func12, Tryz.ntmps12
          go_wp2_with fail
          refine (ck.out _ ((h.alloc _).alloc _)).mono ?_
          rintro e w1 ⟨rfl, hb1⟩
          have G1 := G0.below hb1 G0.lt
          have D1 := D0.below hb1 D0.lt
          have B1 := B0.trans (hb1.mono B0.size)
          have hE1 := h.below B1 (Nat.le_refl _)
          have hS1 := hS.below B1 (Nat.le_refl _)
          have hP1 := hP.below B1 (Nat.le_refl _)
          clear G0 D0 B0 hb1 ck h hS hP
          have g0 := Blk.cell G1 0
          have g1 := Blk.cell G1 1
          have s0 := Blk.cell D1 0
          have s1 := Blk.cell D1 1
          have s2 := Blk.cell D1 2
          have s3 := Blk.cell D1 3
          have s4 := Blk.cell D1 4
          simp at g0 g1 s0 s1 s2 s3 s4
          have gl := G1.lt
          have dl := D1.lt
          have kS : Hid (∀ w' : World, Below w1.heap.size w1 w' → w'.cell? ⟨w.heap.size, 0, none⟩ = some (.int .i64 n) ∧ w'.cell? ⟨w.heap.size, 1, none⟩ = some (.slice A m c) ∧ w'.cell? ⟨w.heap.size + 1, 0, none⟩ = some (.slice AS ns cs) ∧ w'.cell? ⟨w.heap.size + 1, 3, none⟩ = some (.int .i64 den) ∧ w'.cell? ⟨w.heap.size + 1, 4, none⟩ = some (.slice AP np cp)) := Lib.hid (fun w' hb => ⟨(hb.cell (p := ⟨w.heap.size, 0, none⟩) gl).trans g0, (hb.cell (p := ⟨w.heap.size, 1, none⟩) gl).trans g1, (hb.cell (p := ⟨w.heap.size + 1, 0, none⟩) dl).trans s0, (hb.cell (p := ⟨w.heap.size + 1, 3, none⟩) dl).trans s3, (hb.cell (p := ⟨w.heap.size + 1, 4, none⟩) dl).trans s4⟩)
          have BN : Below w1.heap.size w1 w1.drew := (Below.refl w1.heap.size w1).drew
          clear s0 s1 s2 s3 s4 g0 g1
          go_upto_region 4 with fail
          obtain ⟨SS, hSS⟩ : ∃ SS : World → Prop, ∀ w', SS w' ↔ (w'.cell? ⟨w.heap.size, 0, none⟩ = some (.int .i64 n) ∧ w'.cell? ⟨w.heap.size, 1, none⟩ = some (.slice A m c) ∧ w'.cell? ⟨w.heap.size + 1, 0, none⟩ = some (.slice AS ns cs) ∧ w'.cell? ⟨w.heap.size + 1, 3, none⟩ = some (.int .i64 den) ∧ w'.cell? ⟨w.heap.size + 1, 4, none⟩ = some (.slice AP np cp)) := ⟨fun w' => _, fun _ => Iff.rfl⟩
          replace hSS := Lib.hid hSS
          refine wp_region_TS (T := fun _ w' => SS w') (by kernel_rfl) ?_
          intro QQ hQQ hQP
          have s0 : SS w1.drew := (hSS.out _).2 (kS.out _ BN)
          generalize w1.drew = X at *
          refine wpAnyT_take (i := 0) (v := .pointer (some ⟨w.heap.size + 1, 0, none⟩)) rfl (by kernel_rfl) (by kernel_rfl) (by kernel_rfl) (fun c a w h => (hQP.out _ _ _ h).elim) (fun w h => h) (fun j oj hj hji hun hno w hT => hT) (Or.inl ⟨by rfl, fun w' hS => ?_⟩) s0 ?_
          · obtain ⟨y0, y1, y2, y3, y4⟩ := (hSS.out _).1 hS
            go_simp
          (try simp only [Act.put, List.setIfInBounds_toArray, List.set_cons_zero, List.set_cons_succ])
          refine wpAnyT_take (i := 1) (v := .slice AS ns cs) rfl (by kernel_rfl) (by kernel_rfl) (by kernel_rfl) (fun c a w h => (hQP.out _ _ _ h).elim) (fun w h => h) (fun j oj hj hji hun hno w hT => hT) (Or.inl ⟨by rfl, fun w' hS => ?_⟩) s0 ?_
          · obtain ⟨y0, y1, y2, y3, y4⟩ := (hSS.out _).1 hS
            go_simp
          (try simp only [Act.put, List.setIfInBounds_toArray, List.set_cons_zero, List.set_cons_succ])
          refine wpAnyT_take (i := 2) (v := .pointer (some ⟨w.heap.size, 0, none⟩)) rfl (by kernel_rfl) (by kernel_rfl) (by kernel_rfl) (fun c a w h => (hQP.out _ _ _ h).elim) (fun w h => h) (fun j oj hj hji hun hno w hT => hT) (Or.inl ⟨by rfl, fun w' hS => ?_⟩) s0 ?_
          · obtain ⟨y0, y1, y2, y3, y4⟩ := (hSS.out _).1 hS
            go_simp
          (try simp only [Act.put, List.setIfInBounds_toArray, List.set_cons_zero, List.set_cons_succ])
          refine wpAnyT_take (i := 3) (v := .int .i64 n) rfl (by kernel_rfl) (by kernel_rfl) (by kernel_rfl) (fun c a w h => (hQP.out _ _ _ h).elim) (fun w h => h) (fun j oj hj hji hun hno w hT => hT) (Or.inl ⟨by rfl, fun w' hS => ?_⟩) s0 ?_
          · obtain ⟨y0, y1, y2, y3, y4⟩ := (hSS.out _).1 hS
            go_simp
          (try simp only [Act.put, List.setIfInBounds_toArray, List.set_cons_zero, List.set_cons_succ])
          refine wpAnyT_ready (rs := [4]) (by kernel_rfl) (by simp) ?_
          intro j hj
          rw [List.mem_singleton] at hj
          subst hj
          refine wpOpT_step (T := fun _ w' => SS w') (by rfl) (fun K hK => ?_)
          go_simp
          (with_reducible refine (kv.out _ (hS1.below BN (Nat.le_refl _))).mono ?_)
          rintro e w2 ⟨rfl, hw⟩
          obtain rfl := hw
          refine hK.out _ _ ?_ ?_
          · exact s0
          clear hK K
          (try simp only [Act.put, List.setIfInBounds_toArray, List.set_cons_zero, List.set_cons_succ])
          refine wpAnyT_ready (rs := [5]) (by kernel_rfl) (by simp) ?_
          intro j hj
          rw [List.mem_singleton] at hj
          subst hj
          refine wpOpT_step (T := fun _ w' => SS w') (by rfl) (fun K hK => ?_)
          go_simp
          refine hK.out _ _ ?_ ?_
          · exact s0
          clear hK K
          (try simp only [Act.put, List.setIfInBounds_toArray, List.set_cons_zero, List.set_cons_succ])
          refine wpAnyT_ready (rs := [6]) (by kernel_rfl) (by simp) ?_
          intro j hj
          rw [List.mem_singleton] at hj
          subst hj
          refine wpOpT_step (T := fun _ w' => SS w') (by rfl) (fun K hK => ?_)
          go_simp
          refine hK.out _ _ ?_ ?_
          · exact s0
          clear hK K
          (try simp only [Act.put, List.setIfInBounds_toArray, List.set_cons_zero, List.set_cons_succ])
          refine wpAnyT_ready (rs := [7]) (by kernel_rfl) (by simp) ?_
          intro j hj
          rw [List.mem_singleton] at hj
          subst hj
          refine wpOpT_step (T := fun _ w' => SS w') (by rfl) (fun K hK => ?_)
          go_simp
          refine hK.out _ _ ?_ ?_
          · exact s0
          clear hK K
          (try simp only [Act.put, List.setIfInBounds_toArray, List.set_cons_zero, List.set_cons_succ])
          refine wpAnyT_take (i := 8) (v := .slice AS ns cs) rfl (by kernel_rfl) (by kernel_rfl) (by kernel_rfl) (fun c a w h => (hQP.out _ _ _ h).elim) (fun w h => h) (fun j oj hj hji hun hno w hT => hT) (Or.inl ⟨by rfl, fun w' hS => ?_⟩) s0 ?_
          · obtain ⟨y0, y1, y2, y3, y4⟩ := (hSS.out _).1 hS
            go_simp
          (try simp only [Act.put, List.setIfInBounds_toArray, List.set_cons_zero, List.set_cons_succ])
          refine wpAnyT_ready (rs := [9]) (by kernel_rfl) (by simp) ?_
          intro j hj
          rw [List.mem_singleton] at hj
          subst hj
          refine wpOpT_step (T := fun _ w' => SS w') (by rfl) (fun K hK => ?_)
          go_simp
          refine hK.out _ _ ?_ ?_
          · exact s0
          clear hK K
          (try simp only [Act.put, List.setIfInBounds_toArray, List.set_cons_zero, List.set_cons_succ])
          refine wpAnyT_ready (rs := [10]) (by kernel_rfl) (by simp) ?_
          intro j hj
          rw [List.mem_singleton] at hj
          subst hj
          refine wpOpT_step (T := fun _ w' => SS w') (by rfl) (fun K hK => ?_)
          go_simp
          refine hK.out _ _ ?_ ?_
          · exact s0
          clear hK K
          (try simp only [Act.put, List.setIfInBounds_toArray, List.set_cons_zero, List.set_cons_succ])
          refine wpAnyT_ready (rs := [11]) (by kernel_rfl) (by simp) ?_
          intro j hj
          rw [List.mem_singleton] at hj
          subst hj
          refine wpOpT_step (T := fun _ w' => SS w') (by rfl) (fun K hK => ?_)
          go_simp
          refine hK.out _ _ ?_ ?_
          · exact s0
          clear hK K
          (try simp only [Act.put, List.setIfInBounds_toArray, List.set_cons_zero, List.set_cons_succ])
          refine wpAnyT_take (i := 12) rfl (by kernel_rfl) (by kernel_rfl) (by kernel_rfl) (fun c a w h => (hQP.out _ _ _ h).elim) (fun w h => h) (fun j oj hj hji hun hno w hT => hT) (Or.inr ⟨by rfl, rfl⟩) s0 ?_
          (try simp only [Act.put, List.setIfInBounds_toArray, List.set_cons_zero, List.set_cons_succ])
          refine wpAnyT_take (i := 13) rfl (by kernel_rfl) (by kernel_rfl) (by kernel_rfl) (fun c a w h => (hQP.out _ _ _ h).elim) (fun w h => h) (fun j oj hj hji hun hno w hT => hT) (Or.inr ⟨by rfl, rfl⟩) s0 ?_
          (try simp only [Act.put, List.setIfInBounds_toArray, List.set_cons_zero, List.set_cons_succ])
          refine wpAnyT_take (i := 14) rfl (by kernel_rfl) (by kernel_rfl) (by kernel_rfl) (fun c a w h => (hQP.out _ _ _ h).elim) (fun w h => h) (fun j oj hj hji hun hno w hT => hT) (Or.inr ⟨by rfl, rfl⟩) s0 ?_
          (try simp only [Act.put, List.setIfInBounds_toArray, List.set_cons_zero, List.set_cons_succ])
          refine wpAnyT_ready (rs := [15]) (by kernel_rfl) (by simp) ?_
          intro j hj
          rw [List.mem_singleton] at hj
          subst hj
          refine wpOpT_step (T := fun _ w' => SS w') (by rfl) (fun K hK => ?_)
          go_simp
          refine hK.out _ _ ?_ ?_
          · exact s0
          clear hK K
          (try simp only [Act.put, List.setIfInBounds_toArray, List.set_cons_zero, List.set_cons_succ])
          refine wpAnyT_ready (rs := [16]) (by kernel_rfl) (by simp) ?_
          intro j hj
          rw [List.mem_singleton] at hj
          subst hj
          refine wpOpT_step (T := fun _ w' => SS w') (by rfl) (fun K hK => ?_)
          go_simp
          refine hK.out _ _ ?_ ?_
          · exact s0
          clear hK K
          (try simp only [Act.put, List.setIfInBounds_toArray, List.set_cons_zero, List.set_cons_succ])
          refine wpAnyT_ready (rs := [17]) (by kernel_rfl) (by simp) ?_
          intro j hj
          rw [List.mem_singleton] at hj
          subst hj
          refine wpOpT_step (T := fun _ w' => SS w') (by rfl) (fun K hK => ?_)
          go_simp
          refine hK.out _ _ ?_ ?_
          · exact s0
          clear hK K
          (try simp only [Act.put, List.setIfInBounds_toArray, List.set_cons_zero, List.set_cons_succ])
          refine wpAnyT_take (i := 18) (v := .agg #[.int .i64 n, .slice A m c]) rfl (by kernel_rfl) (by kernel_rfl) (by kernel_rfl) (fun c a w h => (hQP.out _ _ _ h).elim) (fun w h => h) (fun j oj hj hji hun hno w hT => hT) (Or.inl ⟨by rfl, fun w' hS => ?_⟩) s0 ?_
          · obtain ⟨y0, y1, y2, y3, y4⟩ := (hSS.out _).1 hS
            go_simp
          (try simp only [Act.put, List.setIfInBounds_toArray, List.set_cons_zero, List.set_cons_succ])
          refine wpAnyT_take (i := 20) (v := .pointer (some ⟨w.heap.size + 1, 3, none⟩)) rfl (by kernel_rfl) (by kernel_rfl) (by kernel_rfl) (fun c a w h => (hQP.out _ _ _ h).elim) (fun w h => h) (fun j oj hj hji hun hno w hT => hT) (Or.inl ⟨by rfl, fun w' hS => ?_⟩) s0 ?_
          · obtain ⟨y0, y1, y2, y3, y4⟩ := (hSS.out _).1 hS
            go_simp
          (try simp only [Act.put, List.setIfInBounds_toArray, List.set_cons_zero, List.set_cons_succ])
          refine wpAnyT_take (i := 21) (v := .agg #[.int .i64 den, .slice AP np cp]) rfl (by kernel_rfl) (by kernel_rfl) (by kernel_rfl) (fun c a w h => (hQP.out _ _ _ h).elim) (fun w h => h) (fun j oj hj hji hun hno w hT => hT) (Or.inl ⟨by rfl, fun w' hS => ?_⟩) s0 ?_
          · obtain ⟨y0, y1, y2, y3, y4⟩ := (hSS.out _).1 hS
            go_simp
          (try simp only [Act.put, List.setIfInBounds_toArray, List.set_cons_zero, List.set_cons_succ])
          refine wpAnyT_ready (rs := [19]) (by kernel_rfl) (by simp) ?_
          intro j hj
          rw [List.mem_singleton] at hj
          subst hj
          refine wpOpT_step (T := fun _ w' => SS w') (by rfl) (fun K hK => ?_)
          go_simp
          (with_reducible refine (ko.out _ (hE1.below BN (Nat.le_refl _))).mono ?_)
          rintro e w3 ⟨A3, n3, c3, rfl, hn3, hr3, hb3, hf3⟩
          replace BN := BN.trans (hb3.mono BN.size)
          obtain rfl : m = n3 := (by have := hr3.len; rw [List.length_replicate] at this; exact this)
          have s1 : SS w3 := (hSS.out _).2 (kS.out _ BN)
          refine hK.out _ _ ?_ ?_
          · exact s1
          clear hK K s0
          (try simp only [Act.put, List.setIfInBounds_toArray, List.set_cons_zero, List.set_cons_succ])
          refine wpAnyT_ready (rs := [22]) (by kernel_rfl) (by simp) ?_
          intro j hj
          rw [List.mem_singleton] at hj
          subst hj
          refine wpOpT_step (T := fun _ w' => SS w') (by rfl) (fun K hK => ?_)
          go_simp
          (with_reducible refine (kr.out A3 c3 _ hr3 (hP1.below BN (Nat.le_refl _))).mono ?_)
          rintro e w4 ⟨rfl, hb4⟩
          replace BN := BN.trans (hb4.mono BN.size)
          have s2 : SS w4 := (hSS.out _).2 (kS.out _ BN)
          refine hK.out _ _ ?_ ?_
          · exact s2
          clear hK K s1
          (try simp only [Act.put, List.setIfInBounds_toArray, List.set_cons_zero, List.set_cons_succ])
          refine wpAnyT_ready (rs := [23]) (by kernel_rfl) (by simp) ?_
          intro j hj
          rw [List.mem_singleton] at hj
          subst hj
          refine wpOpT_step (T := fun _ w' => SS w') (by rfl) (fun K hK => ?_)
          go_simp
          refine hK.out _ _ ?_ ?_
          · exact s2
          clear hK K
          (try simp only [Act.put, List.setIfInBounds_toArray, List.set_cons_zero, List.set_cons_succ])
          refine wpAnyT_ready (rs := [24]) (by kernel_rfl) (by simp) ?_
          intro j hj
          rw [List.mem_singleton] at hj
          subst hj
          refine wpOpT_step (T := fun _ w' => SS w') (by rfl) (fun K hK => ?_)
          go_simp
          refine hK.out _ _ ?_ ?_
          · exact s2
          clear hK K
          (try simp only [Act.put, List.setIfInBounds_toArray, List.set_cons_zero, List.set_cons_succ])
          refine wpAnyT_done (by kernel_rfl) (hQQ.out _ _ ?_) _
          clear hQQ hQP QQ s2 hSS SS
          have B2 := B1.trans (BN.mono B1.size)
          go_wp2_with fail
          go_ret
          exact ⟨rfl, B2⟩
  · have hv : dchk n es m l N D den ps = 4 := by unfold dchk; rw [if_pos (.inl hV)]
    rw [decide_eq_false hV] at kv
    rw [hv]
    replace kv := Lib.hid kv
    replace kr := Lib.hid kr
    clear hv hV
    go_enter Tryz.func12, Tryz.ntmps12
    go_wp2_with fail
    refine (ck.out _ ((h.alloc _).alloc _)).mono ?_
    rintro e w1 ⟨rfl, hb1⟩
    have G1 := G0.below hb1 G0.lt
    have D1 := D0.below hb1 D0.lt
    have B1 := B0.trans (hb1.mono B0.size)
    have hE1 := h.below B1 (Nat.le_refl _)
    have hS1 := hS.below B1 (Nat.le_refl _)
    have hP1 := hP.below B1 (Nat.le_refl _)
    clear G0 D0 B0 hb1 ck h hS hP
    have g0 := Blk.cell G1 0
    have g1 := Blk.cell G1 1
    have s0 := Blk.cell D1 0
    have s1 := Blk.cell D1 1
    have s2 := Blk.cell D1 2
    have s3 := Blk.cell D1 3
    have s4 := Blk.cell D1 4
    simp at g0 g1 s0 s1 s2 s3 s4
    have gl := G1.lt
    have dl := D1.lt
    have kS : Hid (∀ w' : World, Below w1.heap.size w1 w' → w'.cell? ⟨w.heap.size, 0, none⟩ = some (.int .i64 n) ∧ w'.cell? ⟨w.heap.size, 1, none⟩ = some (.slice A m c) ∧ w'.cell? ⟨w.heap.size + 1, 0, none⟩ = some (.slice AS ns cs) ∧ w'.cell? ⟨w.heap.size + 1, 3, none⟩ = some (.int .i64 den) ∧ w'.cell? ⟨w.heap.size + 1, 4, none⟩ = some (.slice AP np cp)) := Lib.hid (fun w' hb => ⟨(hb.cell (p := ⟨w.heap.size, 0, none⟩) gl).trans g0, (hb.cell (p := ⟨w.heap.size, 1, none⟩) gl).trans g1, (hb.cell (p := ⟨w.heap.size + 1, 0, none⟩) dl).trans s0, (hb.cell (p := ⟨w.heap.size + 1, 3, none⟩) dl).trans s3, (hb.cell (p := ⟨w.heap.size + 1, 4, none⟩) dl).trans s4⟩)
    have BN : Below w1.heap.size w1 w1.drew := (Below.refl w1.heap.size w1).drew
    clear s0 s1 s2 s3 s4 g0 g1
    go_upto_region 4 with fail
    obtain ⟨SS, hSS⟩ : ∃ SS : World → Prop, ∀ w', SS w' ↔ (w'.cell? ⟨w.heap.size, 0, none⟩ = some (.int .i64 n) ∧ w'.cell? ⟨w.heap.size, 1, none⟩ = some (.slice A m c) ∧ w'.cell? ⟨w.heap.size + 1, 0, none⟩ = some (.slice AS ns cs) ∧ w'.cell? ⟨w.heap.size + 1, 3, none⟩ = some (.int .i64 den) ∧ w'.cell? ⟨w.heap.size + 1, 4, none⟩ = some (.slice AP np cp)) := ⟨fun w' => _, fun _ => Iff.rfl⟩
    replace hSS := Lib.hid hSS
    refine wp_region_TS (T := fun _ w' => SS w') (by kernel_rfl) ?_
    intro QQ hQQ hQP
    have s0 : SS w1.drew := (hSS.out _).2 (kS.out _ BN)
    generalize w1.drew = X at *
    refine wpAnyT_take (i := 0) (v := .pointer (some ⟨w.heap.size + 1, 0, none⟩)) rfl (by kernel_rfl) (by kernel_rfl) (by kernel_rfl) (fun c a w h => (hQP.out _ _ _ h).elim) (fun w h => h) (fun j oj hj hji hun hno w hT => hT) (Or.inl ⟨by rfl, fun w' hS => ?_⟩) s0 ?_
    · obtain ⟨y0, y1, y2, y3, y4⟩ := (hSS.out _).1 hS
      go_simp
    (try simp only [Act.put, List.setIfInBounds_toArray, List.set_cons_zero, List.set_cons_succ])
    refine wpAnyT_take (i := 1) (v := .slice AS ns cs) rfl (by kernel_rfl) (by kernel_rfl) (by kernel_rfl) (fun c a w h => (hQP.out _ _ _ h).elim) (fun w h => h) (fun j oj hj hji hun hno w hT => hT) (Or.inl ⟨by rfl, fun w' hS => ?_⟩) s0 ?_
    · obtain ⟨y0, y1, y2, y3, y4⟩ := (hSS.out _).1 hS
      go_simp
    (try simp only [Act.put, List.setIfInBounds_toArray, List.set_cons_zero, List.set_cons_succ])
    refine wpAnyT_take (i := 2) (v := .pointer (some ⟨w.heap.size, 0, none⟩)) rfl (by kernel_rfl) (by kernel_rfl) (by kernel_rfl) (fun c a w h => (hQP.out _ _ _ h).elim) (fun w h => h) (fun j oj hj hji hun hno w hT => hT) (Or.inl ⟨by rfl, fun w' hS => ?_⟩) s0 ?_
    · obtain ⟨y0, y1, y2, y3, y4⟩ := (hSS.out _).1 hS
      go_simp
    (try simp only [Act.put, List.setIfInBounds_toArray, List.set_cons_zero, List.set_cons_succ])
    refine wpAnyT_take (i := 3) (v := .int .i64 n) rfl (by kernel_rfl) (by kernel_rfl) (by kernel_rfl) (fun c a w h => (hQP.out _ _ _ h).elim) (fun w h => h) (fun j oj hj hji hun hno w hT => hT) (Or.inl ⟨by rfl, fun w' hS => ?_⟩) s0 ?_
    · obtain ⟨y0, y1, y2, y3, y4⟩ := (hSS.out _).1 hS
      go_simp
    (try simp only [Act.put, List.setIfInBounds_toArray, List.set_cons_zero, List.set_cons_succ])
    refine wpAnyT_ready (rs := [4]) (by kernel_rfl) (by simp) ?_
    intro j hj
    rw [List.mem_singleton] at hj
    subst hj
    refine wpOpT_step (T := fun _ w' => SS w') (by rfl) (fun K hK => ?_)
    go_simp
    (with_reducible refine (kv.out _ (hS1.below BN (Nat.le_refl _))).mono ?_)
    rintro e w2 ⟨rfl, hw⟩
    obtain rfl := hw
    refine hK.out _ _ ?_ ?_
    · exact s0
    clear hK K
    (try simp only [Act.put, List.setIfInBounds_toArray, List.set_cons_zero, List.set_cons_succ])
    refine wpAnyT_ready (rs := [5]) (by kernel_rfl) (by simp) ?_
    intro j hj
    rw [List.mem_singleton] at hj
    subst hj
    refine wpOpT_step (T := fun _ w' => SS w') (by rfl) (fun K hK => ?_)
    go_simp
    refine hK.out _ _ ?_ ?_
    · exact s0
    clear hK K
    (try simp only [Act.put, List.setIfInBounds_toArray, List.set_cons_zero, List.set_cons_succ])
    refine wpAnyT_ready (rs := [6]) (by kernel_rfl) (by simp) ?_
    intro j hj
    rw [List.mem_singleton] at hj
    subst hj
    refine wpOpT_step (T := fun _ w' => SS w') (by rfl) (fun K hK => ?_)
    go_simp
    refine hK.out _ _ ?_ ?_
    · exact s0
    clear hK K
    (try simp only [Act.put, List.setIfInBounds_toArray, List.set_cons_zero, List.set_cons_succ])
    refine wpAnyT_take (i := 7) rfl (by kernel_rfl) (by kernel_rfl) (by kernel_rfl) (fun c a w h => (hQP.out _ _ _ h).elim) (fun w h => h) (fun j oj hj hji hun hno w hT => hT) (Or.inr ⟨by rfl, rfl⟩) s0 ?_
    (try simp only [Act.put, List.setIfInBounds_toArray, List.set_cons_zero, List.set_cons_succ])
    refine wpAnyT_take (i := 8) rfl (by kernel_rfl) (by kernel_rfl) (by kernel_rfl) (fun c a w h => (hQP.out _ _ _ h).elim) (fun w h => h) (fun j oj hj hji hun hno w hT => hT) (Or.inr ⟨by rfl, rfl⟩) s0 ?_
    (try simp only [Act.put, List.setIfInBounds_toArray, List.set_cons_zero, List.set_cons_succ])
    refine wpAnyT_take (i := 9) rfl (by kernel_rfl) (by kernel_rfl) (by kernel_rfl) (fun c a w h => (hQP.out _ _ _ h).elim) (fun w h => h) (fun j oj hj hji hun hno w hT => hT) (Or.inr ⟨by rfl, rfl⟩) s0 ?_
    (try simp only [Act.put, List.setIfInBounds_toArray, List.set_cons_zero, List.set_cons_succ])
    refine wpAnyT_take (i := 10) rfl (by kernel_rfl) (by kernel_rfl) (by kernel_rfl) (fun c a w h => (hQP.out _ _ _ h).elim) (fun w h => h) (fun j oj hj hji hun hno w hT => hT) (Or.inr ⟨by rfl, rfl⟩) s0 ?_
    (try simp only [Act.put, List.setIfInBounds_toArray, List.set_cons_zero, List.set_cons_succ])
    refine wpAnyT_take (i := 11) rfl (by kernel_rfl) (by kernel_rfl) (by kernel_rfl) (fun c a w h => (hQP.out _ _ _ h).elim) (fun w h => h) (fun j oj hj hji hun hno w hT => hT) (Or.inr ⟨by rfl, rfl⟩) s0 ?_
    (try simp only [Act.put, List.setIfInBounds_toArray, List.set_cons_zero, List.set_cons_succ])
    refine wpAnyT_take (i := 12) rfl (by kernel_rfl) (by kernel_rfl) (by kernel_rfl) (fun c a w h => (hQP.out _ _ _ h).elim) (fun w h => h) (fun j oj hj hji hun hno w hT => hT) (Or.inr ⟨by rfl, rfl⟩) s0 ?_
    (try simp only [Act.put, List.setIfInBounds_toArray, List.set_cons_zero, List.set_cons_succ])
    refine wpAnyT_take (i := 13) rfl (by kernel_rfl) (by kernel_rfl) (by kernel_rfl) (fun c a w h => (hQP.out _ _ _ h).elim) (fun w h => h) (fun j oj hj hji hun hno w hT => hT) (Or.inr ⟨by rfl, rfl⟩) s0 ?_
    (try simp only [Act.put, List.setIfInBounds_toArray, List.set_cons_zero, List.set_cons_succ])
    refine wpAnyT_take (i := 14) rfl (by kernel_rfl) (by kernel_rfl) (by kernel_rfl) (fun c a w h => (hQP.out _ _ _ h).elim) (fun w h => h) (fun j oj hj hji hun hno w hT => hT) (Or.inr ⟨by rfl, rfl⟩) s0 ?_
    (try simp only [Act.put, List.setIfInBounds_toArray, List.set_cons_zero, List.set_cons_succ])
    refine wpAnyT_take (i := 15) rfl (by kernel_rfl) (by kernel_rfl) (by kernel_rfl) (fun c a w h => (hQP.out _ _ _ h).elim) (fun w h => h) (fun j oj hj hji hun hno w hT => hT) (Or.inr ⟨by rfl, rfl⟩) s0 ?_
    (try simp only [Act.put, List.setIfInBounds_toArray, List.set_cons_zero, List.set_cons_succ])
    refine wpAnyT_ready (rs := [16]) (by kernel_rfl) (by simp) ?_
    intro j hj
    rw [List.mem_singleton] at hj
    subst hj
    refine wpOpT_step (T := fun _ w' => SS w') (by rfl) (fun K hK => ?_)
    go_simp
    refine hK.out _ _ ?_ ?_
    · exact s0
    clear hK K
    (try simp only [Act.put, List.setIfInBounds_toArray, List.set_cons_zero, List.set_cons_succ])
    refine wpAnyT_ready (rs := [17]) (by kernel_rfl) (by simp) ?_
    intro j hj
    rw [List.mem_singleton] at hj
    subst hj
    refine wpOpT_step (T := fun _ w' => SS w') (by rfl) (fun K hK => ?_)
    go_simp
    refine hK.out _ _ ?_ ?_
    · exact s0
    clear hK K
    (try simp only [Act.put, List.setIfInBounds_toArray, List.set_cons_zero, List.set_cons_succ])
    refine wpAnyT_take (i := 18) rfl (by kernel_rfl) (by kernel_rfl) (by kernel_rfl) (fun c a w h => (hQP.out _ _ _ h).elim) (fun w h => h) (fun j oj hj hji hun hno w hT => hT) (Or.inr ⟨by rfl, rfl⟩) s0 ?_
    (try simp only [Act.put, List.setIfInBounds_toArray, List.set_cons_zero, List.set_cons_succ])
    refine wpAnyT_take (i := 19) rfl (by kernel_rfl) (by kernel_rfl) (by kernel_rfl) (fun c a w h => (hQP.out _ _ _ h).elim) (fun w h => h) (fun j oj hj hji hun hno w hT => hT) (Or.inr ⟨by rfl, rfl⟩) s0 ?_
    (try simp only [Act.put, List.setIfInBounds_toArray, List.set_cons_zero, List.set_cons_succ])
    refine wpAnyT_take (i := 20) rfl (by kernel_rfl) (by kernel_rfl) (by kernel_rfl) (fun c a w h => (hQP.out _ _ _ h).elim) (fun w h => h) (fun j oj hj hji hun hno w hT => hT) (Or.inr ⟨by rfl, rfl⟩) s0 ?_
    (try simp only [Act.put, List.setIfInBounds_toArray, List.set_cons_zero, List.set_cons_succ])
    refine wpAnyT_take (i := 21) rfl (by kernel_rfl) (by kernel_rfl) (by kernel_rfl) (fun c a w h => (hQP.out _ _ _ h).elim) (fun w h => h) (fun j oj hj hji hun hno w hT => hT) (Or.inr ⟨by rfl, rfl⟩) s0 ?_
    (try simp only [Act.put, List.setIfInBounds_toArray, List.set_cons_zero, List.set_cons_succ])
    refine wpAnyT_take (i := 22) rfl (by kernel_rfl) (by kernel_rfl) (by kernel_rfl) (fun c a w h => (hQP.out _ _ _ h).elim) (fun w h => h) (fun j oj hj hji hun hno w hT => hT) (Or.inr ⟨by rfl, rfl⟩) s0 ?_
    (try simp only [Act.put, List.setIfInBounds_toArray, List.set_cons_zero, List.set_cons_succ])
    refine wpAnyT_take (i := 23) rfl (by kernel_rfl) (by kernel_rfl) (by kernel_rfl) (fun c a w h => (hQP.out _ _ _ h).elim) (fun w h => h) (fun j oj hj hji hun hno w hT => hT) (Or.inr ⟨by rfl, rfl⟩) s0 ?_
    (try simp only [Act.put, List.setIfInBounds_toArray, List.set_cons_zero, List.set_cons_succ])
    refine wpAnyT_ready (rs := [24]) (by kernel_rfl) (by simp) ?_
    intro j hj
    rw [List.mem_singleton] at hj
    subst hj
    refine wpOpT_step (T := fun _ w' => SS w') (by rfl) (fun K hK => ?_)
    go_simp
    refine hK.out _ _ ?_ ?_
    · exact s0
    clear hK K
    (try simp only [Act.put, List.setIfInBounds_toArray, List.set_cons_zero, List.set_cons_succ])
    refine wpAnyT_done (by kernel_rfl) (hQQ.out _ _ ?_) _
    clear hQQ hQP QQ s0 hSS SS
    have B2 := B1.trans (BN.mono B1.size)
    go_wp2_with fail
    go_ret
    exact ⟨rfl, B2⟩
end Go.Proofs.YticekkjambkifaaGreatDoor.Fl
