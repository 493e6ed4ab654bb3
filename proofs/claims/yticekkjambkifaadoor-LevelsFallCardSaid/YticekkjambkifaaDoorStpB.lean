/- (*levels.ladder).step (printed by genStpB.py). -/
import Derived.Test.YticekkjambkifaaDoorStpA
set_option linter.unusedVariables false
set_option linter.unusedSimpArgs false
namespace Go.Proofs.YticekkjambkifaaDoor.Fl
open Go.RowKit Go.Proofs.YticekkjambkifaaDoor CoBit CoRat Rt

/-- What a step does: the next level is found and laid to the ladder. -/
def RetStp (w : World) (gl n : Nat) (es : List (Int × Int)) (inn B : Nat) (v : Value) (ls : List (Nat × Nat × Nat)) (rs : List Dn) (e : Ending) (w' : World) : Prop :=
  e = .returned (.tuple #[]) ∧ ∃ (x P D : Nat) (v' : Value) (r : Dn), IsDen (outE es inn) (bsO n es inn) n (offM n inn) x P D ∧ Blk w' gl 128 #[.int .u64 ((inn ||| x : Nat) : Int), v'] ∧ LvO w' B v' (ls ++ [(x, P, D)]) (rs ++ [r]) ∧ Same (fun q => q = gl ∨ v.ownBlock = some q) w w'
set_option maxRecDepth 100000 in
set_option maxHeartbeats 16000000 in
theorem step_any (gl n m c B inn : Nat) (A : Option Addr) (es : List (Int × Int)) (v : Value) (ls : List (Nat × Nat × Nat)) (rs : List Dn) (w : World) (h : RE w A m es) (hT : Tab w) (hm : m ≤ 4096) (hz : chkG n es = 0) (hn : n ≤ 64) (hi : inn < 18446744073709551616) (hp : 0 < pop (offM n inn)) (hL : Blk w gl 128 #[.int .u64 (inn : Nat), v]) (hO : LvO w B v ls rs) (hgB : gl < B) (hB : B ≤ w.heap.size) (hll : rs.length ≤ 64) :
    Calls Tryd.prog 95 #[.pointer (some ⟨gl, 0, none⟩), .agg #[.int .i64 (n : Nat), .slice A m c]] w (RetStp w gl n es inn B v ls rs) := by
  have hmf : ∀ (fn : Fn) (first cap : Array Value) (w : World), (Instr.makeFunc fn first cap).run Tryd.prog w = .ok (.func fn first cap) w := fun _ _ _ _ => rfl
  have hprb := Lib.hid (prb_out (i := inn) hz hn (by rw [h.len]; exact hm))
  have kO := Lib.hid (fun w' (h : RE w' A m es) => outer_any A m c n es inn w' h hm hz hn hi)
  obtain ⟨W, hW0⟩ : ∃ W, W = (w.alloc (.cells #[.pointer (some ⟨gl, 0, none⟩)] 163)).alloc (.cells #[.int .i64 (n : Nat), .slice A m c] 25) := ⟨_, rfl⟩
  have bP : Blk W w.heap.size 163 #[.pointer (some ⟨gl, 0, none⟩)] := by rw [hW0]; exact (Blk.new' _ _ _ rfl).alloc _
  have bG : Blk W (w.heap.size + 1) 25 #[.int .i64 (n : Nat), .slice A m c] := by rw [hW0]; exact Blk.new' _ _ _ (by simp)
  have BW : Below w.heap.size w W := by rw [hW0]; exact ((Below.refl _ w).alloc (Nat.le_refl _) _).alloc (by simp) _
  have hWs : Hid (W.heap.size = w.heap.size + 2) := Lib.hid (by rw [hW0]; simp)
  have E1 := h.below BW (Nat.le_refl _)
  have T1 := hT.keep BW
  have L1 := hL.below BW hL.lt
  have O1 := hO.below BW
  have hvo := hO.os.block_lt
  have hglw := hL.lt
  replace hW0 := Lib.hid hW0
  replace hz := Lib.hid hz
  replace hp := Lib.hid hp
  replace BW := Lib.hid BW
  replace hvo := Lib.hid hvo
  clear h hT hL hO
  go_enter_defers Tryd.func95, Tryd.ntmps95
  go_upto_region 1 with fail
  rw [← hW0.out]
  clear hW0
  go_cut [4, 5] from 6 to 31 (fun p4 p5 wx => ∃ (gs gf x P D : Nat) (A' : Option Addr) (n' c' : Nat), p4 = .pointer (some ⟨gs, 0, none⟩) ∧ p5 = .pointer (some ⟨gf, 0, none⟩) ∧ Blk wx gs 111 #[.int .u64 (x : Nat), .slice A' n' c'] ∧ Blk wx gf 36 #[.int .i64 (P : Nat), .int .i64 (D : Nat)] ∧ Hid (IsDen (outE es inn) (bsO n es inn) n (offM n inn) x P D) ∧ Below W.heap.size W wx ∧ Hid (W.heap.size ≤ gs ∧ W.heap.size ≤ gf))
  case first =>
    obtain ⟨SS, hSS⟩ : ∃ SS : World → Prop, ∀ w', SS w' ↔ (w'.cell? ⟨w.heap.size + 1, 0, none⟩ = some (.int .i64 (n : Nat)) ∧ w'.cell? ⟨w.heap.size + 1, 1, none⟩ = some (.slice A m c) ∧ w'.cell? ⟨w.heap.size, 0, none⟩ = some (.pointer (some ⟨gl, 0, none⟩)) ∧ w'.cell? ⟨gl, 0, none⟩ = some (.int .u64 (inn : Nat))) := ⟨fun w' => _, fun _ => Iff.rfl⟩
    have hsS : Hid (∀ w', Below W.heap.size W w' → SS w') := Lib.hid (fun w' hb => (hSS w').2 ⟨by have := Blk.cell (bG.below hb bG.lt) 0; simpa using this, by have := Blk.cell (bG.below hb bG.lt) 1; simpa using this, by have := Blk.cell (bP.below hb bP.lt) 0; simpa using this, by have := Blk.cell (L1.below hb L1.lt) 0; simpa using this⟩)
    replace hSS := Lib.hid hSS
    refine wp_region_TS (T := fun j w' => j ∈ ([] : List Nat) ∨ SS w') (by kernel_rfl) ?_
    intro QQ hQQ hQP
    have b0 : Hid (Below W.heap.size W W.drew) := Lib.hid (Below.refl _ W).drew
    have s0 : SS W.drew := hsS.out _ b0.out
    generalize W.drew = X0 at *
    clear bP bG
    refine takeM (i := 0) (M := ([] : List Nat)) (S := SS) (d := some 7) (v := .agg #[.int .i64 (n : Nat), .slice A m c]) rfl rfl (by kernel_rfl) (by kernel_rfl) (by kernel_rfl) hQP.out (by kernel_rfl) (Or.inl ⟨by rfl, fun w' hS => ?_⟩) s0 ?_
    · obtain ⟨y0, y1, y2, y3⟩ := (hSS.out _).1 hS
      go_simp
    (try simp only [Act.put, List.setIfInBounds_toArray, List.set_cons_zero, List.set_cons_succ])
    refine takeM (i := 1) (M := ([] : List Nat)) (S := SS) (d := some 8) (v := .pointer (some ⟨gl, 0, none⟩)) rfl rfl (by kernel_rfl) (by kernel_rfl) (by kernel_rfl) hQP.out (by kernel_rfl) (Or.inl ⟨by rfl, fun w' hS => ?_⟩) s0 ?_
    · obtain ⟨y0, y1, y2, y3⟩ := (hSS.out _).1 hS
      go_simp
    (try simp only [Act.put, List.setIfInBounds_toArray, List.set_cons_zero, List.set_cons_succ])
    refine takeM (i := 2) (M := ([] : List Nat)) (S := SS) (d := some 9) (v := .pointer (some ⟨gl, 0, none⟩)) rfl rfl (by kernel_rfl) (by kernel_rfl) (by kernel_rfl) hQP.out (by kernel_rfl) (Or.inl ⟨by rfl, fun w' hS => ?_⟩) s0 ?_
    · obtain ⟨y0, y1, y2, y3⟩ := (hSS.out _).1 hS
      go_simp
    (try simp only [Act.put, List.setIfInBounds_toArray, List.set_cons_zero, List.set_cons_succ])
    refine takeM (i := 3) (M := ([] : List Nat)) (S := SS) (d := some 10) (v := .pointer (some ⟨gl, 0, none⟩)) rfl rfl (by kernel_rfl) (by kernel_rfl) (by kernel_rfl) hQP.out (by kernel_rfl) (Or.inl ⟨by rfl, fun w' hS => ?_⟩) s0 ?_
    · obtain ⟨y0, y1, y2, y3⟩ := (hSS.out _).1 hS
      go_simp
    (try simp only [Act.put, List.setIfInBounds_toArray, List.set_cons_zero, List.set_cons_succ])
    refine takeM (i := 4) (M := ([] : List Nat)) (S := SS) (d := some 11) (v := .int .u64 (inn : Nat)) rfl rfl (by kernel_rfl) (by kernel_rfl) (by kernel_rfl) hQP.out (by kernel_rfl) (Or.inl ⟨by rfl, fun w' hS => ?_⟩) s0 ?_
    · obtain ⟨y0, y1, y2, y3⟩ := (hSS.out _).1 hS
      go_simp
    (try simp only [Act.put, List.setIfInBounds_toArray, List.set_cons_zero, List.set_cons_succ])
    refine wpAnyT_ready (rs := [5, 10, 11]) (by kernel_rfl) (by simp) ?_
    intro j hj
    simp only [List.mem_cons, List.not_mem_nil, or_false] at hj
    rcases hj with rfl | rfl | rfl
    · skip
      refine wpOpT_step (T := fun j w' => j ∈ ([] : List Nat) ∨ SS w') (by rfl) (fun K hK => ?_)
      go_simp
      (with_reducible refine (kO.out _ (E1.below b0.out (Nat.le_refl _))).mono ?_)
      intro e X1 hq
      obtain ⟨EA, WA, BA, CA, ec, wc, bc, cc, rfl, hE, hW, hBn, hC, hb⟩ := hq
      have b1 := Lib.hid (b0.out.trans (hb.mono b0.out.size))
      have M1 := Lib.hid (show PM X1 EA WA BA CA (outE es inn).length n (outE es inn) (bsO n es inn) from ⟨hE, hW, hBn, hC, T1.keep b1.out⟩)
      have s1 := hsS.out _ b1.out
      clear hE hW hBn hC hb
      refine hK.out _ _ ?_ ?_
      · exact .inr s1
      clear hK K
      (try simp only [Act.put, List.setIfInBounds_toArray, List.set_cons_zero, List.set_cons_succ])
      refine wpAnyT_ready (rs := [6, 10, 11]) (by kernel_rfl) (by simp) ?_
      intro j hj
      simp only [List.mem_cons, List.not_mem_nil, or_false] at hj
      rcases hj with rfl | rfl | rfl
      · skip
        refine wpOpT_step (T := fun j w' => j ∈ ([] : List Nat) ∨ SS w') (by rfl) (fun K hK => ?_)
        go_simp
        (with_reducible refine (densest_any EA WA BA CA ec wc bc cc _ n (offM n inn) (outE es inn) (bsO n es inn) hprb.out _ M1.out hp.out).mono ?_)
        intro e X2 hq
        obtain ⟨x, P, D, A', n', c', Lf, Sf, rfl, hDen, -, -, -, -, -, hb⟩ := hq
        replace hDen := Lib.hid hDen
        have b2 := Lib.hid (b1.out.trans (hb.mono b1.out.size))
        have s2 := hsS.out _ b2.out
        clear hb
        refine hK.out _ _ ?_ ?_
        · exact .inr s2
        clear hK K
        (try simp only [Act.put, List.setIfInBounds_toArray, List.set_cons_zero, List.set_cons_succ])
        refine takeM (i := 7) (M := ([] : List Nat)) (S := SS) (d := some 6) (v := .tuple #[.agg #[.int .u64 (x : Nat), .slice A' n' c'], .agg #[.int .i64 (P : Nat), .int .i64 (D : Nat)]]) rfl rfl (by kernel_rfl) (by kernel_rfl) (by kernel_rfl) hQP.out (by kernel_rfl) (Or.inl ⟨by rfl, fun w' hS => ?_⟩) s2 ?_
        · obtain ⟨y0, y1, y2, y3⟩ := (hSS.out _).1 hS
          go_simp
        (try simp only [Act.put, List.setIfInBounds_toArray, List.set_cons_zero, List.set_cons_succ])
        refine takeM (i := 8) (M := ([] : List Nat)) (S := SS) (d := some 14) (v := .agg #[.int .u64 (x : Nat), .slice A' n' c']) rfl rfl (by kernel_rfl) (by kernel_rfl) (by kernel_rfl) hQP.out (by kernel_rfl) (Or.inl ⟨by rfl, fun w' hS => ?_⟩) s2 ?_
        · obtain ⟨y0, y1, y2, y3⟩ := (hSS.out _).1 hS
          go_simp
        (try simp only [Act.put, List.setIfInBounds_toArray, List.set_cons_zero, List.set_cons_succ])
        refine takeM (i := 9) (M := ([] : List Nat)) (S := SS) (d := some 15) (v := .agg #[.int .i64 (P : Nat), .int .i64 (D : Nat)]) rfl rfl (by kernel_rfl) (by kernel_rfl) (by kernel_rfl) hQP.out (by kernel_rfl) (Or.inl ⟨by rfl, fun w' hS => ?_⟩) s2 ?_
        · obtain ⟨y0, y1, y2, y3⟩ := (hSS.out _).1 hS
          go_simp
        (try simp only [Act.put, List.setIfInBounds_toArray, List.set_cons_zero, List.set_cons_succ])
        refine wpAnyT_ready (rs := [10, 11]) (by kernel_rfl) (by simp) ?_
        intro j hj
        simp only [List.mem_cons, List.not_mem_nil, or_false] at hj
        rcases hj with rfl | rfl
        · skip
          refine wpOpT_step (T := fun j w' => j ∈ ([] : List Nat) ∨ SS w') (by rfl) (fun K hK => ?_)
          go_simp
          have b3 := Lib.hid (b2.out.alloc b2.out.size (.cells #[.int .u64 0, .slice none 0 0] 111))
          have s3 := hsS.out _ b3.out
          have a3 := Lib.hid (Blk.new X2 111 #[.int .u64 0, .slice none 0 0])
          have hga : Hid (W.heap.size ≤ X2.heap.size) := Lib.hid b2.out.size
          refine hK.out _ _ ?_ ?_
          · exact .inr s3
          clear hK K
          (try simp only [Act.put, List.setIfInBounds_toArray, List.set_cons_zero, List.set_cons_succ])
          generalize X2.alloc (.cells #[.int .u64 0, .slice none 0 0] 111) = X3 at *
          generalize X2.heap.size = ga at *
          refine wpAnyT_ready (rs := [11]) (by kernel_rfl) (by simp) ?_
          intro j hj
          rw [List.mem_singleton] at hj
          subst hj
          refine wpOpT_step (T := fun j w' => j ∈ ([] : List Nat) ∨ SS w') (by rfl) (fun K hK => ?_)
          go_simp
          have b4 := Lib.hid (b3.out.alloc b3.out.size (.cells #[.int .i64 0, .int .i64 0] 36))
          have s4 := hsS.out _ b4.out
          have f4 := Lib.hid (Blk.new X3 36 #[.int .i64 0, .int .i64 0])
          have hgf : Hid (W.heap.size ≤ X3.heap.size) := Lib.hid b3.out.size
          have hne : Hid (ga ≠ X3.heap.size) := Lib.hid (by have := a3.out.lt; omega)
          have a4 := Lib.hid (a3.out.alloc (.cells #[.int .i64 0, .int .i64 0] 36))
          refine hK.out _ _ ?_ ?_
          · exact .inr s4
          clear hK K
          (try simp only [Act.put, List.setIfInBounds_toArray, List.set_cons_zero, List.set_cons_succ])
          generalize X3.alloc (.cells #[.int .i64 0, .int .i64 0] 36) = X4 at *
          generalize X3.heap.size = gf at *
          have z0 := Blk.cell a4.out 0
          have z1 := Blk.cell a4.out 1
          have f0 := Blk.frozen a4.out 0
          have f1 := Blk.frozen a4.out 1
          simp at z0 z1
          have na : ga ≠ gf := hne.out
          have bS := Lib.hid ((b4.out.setCell (p := ⟨ga, 0, none⟩) hga.out (.int .u64 (x : Nat))).setCell (p := ⟨ga, 1, none⟩) hga.out (.slice A' n' c'))
          have aS : Hid (Blk ((X4.setCell ⟨ga, 0, none⟩ (.int .u64 (x : Nat))).setCell ⟨ga, 1, none⟩ (.slice A' n' c')) ga 111 #[.int .u64 (x : Nat), .slice A' n' c']) := Lib.hid (Blk.set (Blk.set a4.out 0 (.int .u64 (x : Nat))) 1 (.slice A' n' c'))
          have fS : Hid (Blk ((X4.setCell ⟨ga, 0, none⟩ (.int .u64 (x : Nat))).setCell ⟨ga, 1, none⟩ (.slice A' n' c')) gf 36 #[.int .i64 0, .int .i64 0]) := Lib.hid (Blk.far (Blk.far f4.out (p := ⟨ga, 0, none⟩) (fun e => na e.symm) _) (p := ⟨ga, 1, none⟩) (fun e => na e.symm) _)
          refine wpAnyT_ready (rs := [12]) (by kernel_rfl) (by simp) ?_
          intro j hj
          rw [List.mem_singleton] at hj
          subst hj
          refine wpOpT_step (T := fun j w' => j ∈ ([] : List Nat) ∨ SS w') (by rfl) (fun K hK => ?_)
          go_simp
          refine hK.out _ _ ?_ ?_
          · exact .inr (hsS.out _ bS.out)
          clear hK K
          (try simp only [Act.put, List.setIfInBounds_toArray, List.set_cons_zero, List.set_cons_succ])
          clear z0 z1 f0 f1
          generalize (X4.setCell ⟨ga, 0, none⟩ (.int .u64 (x : Nat))).setCell ⟨ga, 1, none⟩ (.slice A' n' c') = Y at *
          have sY := hsS.out _ bS.out
          have z0 := Blk.cell fS.out 0
          have z1 := Blk.cell fS.out 1
          have f0 := Blk.frozen fS.out 0
          have f1 := Blk.frozen fS.out 1
          simp at z0 z1
          have bU := Lib.hid ((bS.out.setCell (p := ⟨gf, 0, none⟩) hgf.out (.int .i64 (P : Nat))).setCell (p := ⟨gf, 1, none⟩) hgf.out (.int .i64 (D : Nat)))
          have fU : Hid (Blk ((Y.setCell ⟨gf, 0, none⟩ (.int .i64 (P : Nat))).setCell ⟨gf, 1, none⟩ (.int .i64 (D : Nat))) gf 36 #[.int .i64 (P : Nat), .int .i64 (D : Nat)]) := Lib.hid (Blk.set (Blk.set fS.out 0 (.int .i64 (P : Nat))) 1 (.int .i64 (D : Nat)))
          have aU : Hid (Blk ((Y.setCell ⟨gf, 0, none⟩ (.int .i64 (P : Nat))).setCell ⟨gf, 1, none⟩ (.int .i64 (D : Nat))) ga 111 #[.int .u64 (x : Nat), .slice A' n' c']) := Lib.hid (Blk.far (Blk.far aS.out (p := ⟨gf, 0, none⟩) na _) (p := ⟨gf, 1, none⟩) na _)
          refine wpAnyT_ready (rs := [13]) (by kernel_rfl) (by simp) ?_
          intro j hj
          rw [List.mem_singleton] at hj
          subst hj
          refine wpOpT_step (T := fun j w' => j ∈ ([] : List Nat) ∨ SS w') (by rfl) (fun K hK => ?_)
          go_simp
          refine hK.out _ _ ?_ ?_
          · exact .inr (hsS.out _ bU.out)
          clear hK K
          (try simp only [Act.put, List.setIfInBounds_toArray, List.set_cons_zero, List.set_cons_succ])
          refine wpAnyT_done (by kernel_rfl) (hQQ.out _ _ ?_) _
          clear hQQ hQP QQ
          clear z0 z1 f0 f1
          go_wp2_with fail
          go_meet
          exact ⟨ga, gf, x, P, D, A', n', c', rfl, rfl, aU.out, fU.out, hDen, bU.out, Lib.hid ⟨hga.out, hgf.out⟩⟩
        · skip
          refine wpOpT_step (T := fun j w' => j ∈ ([] : List Nat) ∨ SS w') (by rfl) (fun K hK => ?_)
          go_simp
          have b5 := Lib.hid (b2.out.alloc b2.out.size (.cells #[.int .i64 0, .int .i64 0] 36))
          have s5 := hsS.out _ b5.out
          have f5 := Lib.hid (Blk.new X2 36 #[.int .i64 0, .int .i64 0])
          have hgf : Hid (W.heap.size ≤ X2.heap.size) := Lib.hid b2.out.size
          refine hK.out _ _ ?_ ?_
          · exact .inr s5
          clear hK K
          (try simp only [Act.put, List.setIfInBounds_toArray, List.set_cons_zero, List.set_cons_succ])
          generalize X2.alloc (.cells #[.int .i64 0, .int .i64 0] 36) = X5 at *
          generalize X2.heap.size = gf at *
          refine wpAnyT_ready (rs := [10]) (by kernel_rfl) (by simp) ?_
          intro j hj
          rw [List.mem_singleton] at hj
          subst hj
          refine wpOpT_step (T := fun j w' => j ∈ ([] : List Nat) ∨ SS w') (by rfl) (fun K hK => ?_)
          go_simp
          have b6 := Lib.hid (b5.out.alloc b5.out.size (.cells #[.int .u64 0, .slice none 0 0] 111))
          have s6 := hsS.out _ b6.out
          have a6 := Lib.hid (Blk.new X5 111 #[.int .u64 0, .slice none 0 0])
          have hga : Hid (W.heap.size ≤ X5.heap.size) := Lib.hid b5.out.size
          have hne : Hid (gf ≠ X5.heap.size) := Lib.hid (by have := f5.out.lt; omega)
          have f6 := Lib.hid (f5.out.alloc (.cells #[.int .u64 0, .slice none 0 0] 111))
          refine hK.out _ _ ?_ ?_
          · exact .inr s6
          clear hK K
          (try simp only [Act.put, List.setIfInBounds_toArray, List.set_cons_zero, List.set_cons_succ])
          generalize X5.alloc (.cells #[.int .u64 0, .slice none 0 0] 111) = X6 at *
          generalize X5.heap.size = ga at *
          have z0 := Blk.cell a6.out 0
          have z1 := Blk.cell a6.out 1
          have f0 := Blk.frozen a6.out 0
          have f1 := Blk.frozen a6.out 1
          simp at z0 z1
          have na : ga ≠ gf := (fun e => hne.out e.symm)
          have bS := Lib.hid ((b6.out.setCell (p := ⟨ga, 0, none⟩) hga.out (.int .u64 (x : Nat))).setCell (p := ⟨ga, 1, none⟩) hga.out (.slice A' n' c'))
          have aS : Hid (Blk ((X6.setCell ⟨ga, 0, none⟩ (.int .u64 (x : Nat))).setCell ⟨ga, 1, none⟩ (.slice A' n' c')) ga 111 #[.int .u64 (x : Nat), .slice A' n' c']) := Lib.hid (Blk.set (Blk.set a6.out 0 (.int .u64 (x : Nat))) 1 (.slice A' n' c'))
          have fS : Hid (Blk ((X6.setCell ⟨ga, 0, none⟩ (.int .u64 (x : Nat))).setCell ⟨ga, 1, none⟩ (.slice A' n' c')) gf 36 #[.int .i64 0, .int .i64 0]) := Lib.hid (Blk.far (Blk.far f6.out (p := ⟨ga, 0, none⟩) (fun e => na e.symm) _) (p := ⟨ga, 1, none⟩) (fun e => na e.symm) _)
          refine wpAnyT_ready (rs := [12]) (by kernel_rfl) (by simp) ?_
          intro j hj
          rw [List.mem_singleton] at hj
          subst hj
          refine wpOpT_step (T := fun j w' => j ∈ ([] : List Nat) ∨ SS w') (by rfl) (fun K hK => ?_)
          go_simp
          refine hK.out _ _ ?_ ?_
          · exact .inr (hsS.out _ bS.out)
          clear hK K
          (try simp only [Act.put, List.setIfInBounds_toArray, List.set_cons_zero, List.set_cons_succ])
          clear z0 z1 f0 f1
          generalize (X6.setCell ⟨ga, 0, none⟩ (.int .u64 (x : Nat))).setCell ⟨ga, 1, none⟩ (.slice A' n' c') = Y at *
          have sY := hsS.out _ bS.out
          have z0 := Blk.cell fS.out 0
          have z1 := Blk.cell fS.out 1
          have f0 := Blk.frozen fS.out 0
          have f1 := Blk.frozen fS.out 1
          simp at z0 z1
          have bU := Lib.hid ((bS.out.setCell (p := ⟨gf, 0, none⟩) hgf.out (.int .i64 (P : Nat))).setCell (p := ⟨gf, 1, none⟩) hgf.out (.int .i64 (D : Nat)))
          have fU : Hid (Blk ((Y.setCell ⟨gf, 0, none⟩ (.int .i64 (P : Nat))).setCell ⟨gf, 1, none⟩ (.int .i64 (D : Nat))) gf 36 #[.int .i64 (P : Nat), .int .i64 (D : Nat)]) := Lib.hid (Blk.set (Blk.set fS.out 0 (.int .i64 (P : Nat))) 1 (.int .i64 (D : Nat)))
          have aU : Hid (Blk ((Y.setCell ⟨gf, 0, none⟩ (.int .i64 (P : Nat))).setCell ⟨gf, 1, none⟩ (.int .i64 (D : Nat))) ga 111 #[.int .u64 (x : Nat), .slice A' n' c']) := Lib.hid (Blk.far (Blk.far aS.out (p := ⟨gf, 0, none⟩) na _) (p := ⟨gf, 1, none⟩) na _)
          refine wpAnyT_ready (rs := [13]) (by kernel_rfl) (by simp) ?_
          intro j hj
          rw [List.mem_singleton] at hj
          subst hj
          refine wpOpT_step (T := fun j w' => j ∈ ([] : List Nat) ∨ SS w') (by rfl) (fun K hK => ?_)
          go_simp
          refine hK.out _ _ ?_ ?_
          · exact .inr (hsS.out _ bU.out)
          clear hK K
          (try simp only [Act.put, List.setIfInBounds_toArray, List.set_cons_zero, List.set_cons_succ])
          refine wpAnyT_done (by kernel_rfl) (hQQ.out _ _ ?_) _
          clear hQQ hQP QQ
          clear z0 z1 f0 f1
          go_wp2_with fail
          go_meet
          exact ⟨ga, gf, x, P, D, A', n', c', rfl, rfl, aU.out, fU.out, hDen, bU.out, Lib.hid ⟨hga.out, hgf.out⟩⟩
      · skip
        refine wpOpT_step (T := fun j w' => j ∈ ([] : List Nat) ∨ SS w') (by rfl) (fun K hK => ?_)
        go_simp
        have b7 := Lib.hid (b1.out.alloc b1.out.size (.cells #[.int .u64 0, .slice none 0 0] 111))
        have s7 := hsS.out _ b7.out
        have a7 := Lib.hid (Blk.new X1 111 #[.int .u64 0, .slice none 0 0])
        have hga : Hid (W.heap.size ≤ X1.heap.size) := Lib.hid b1.out.size
        have M7 := Lib.hid (M1.out.below ((Below.refl X1.heap.size X1).alloc (Nat.le_refl _) (.cells #[.int .u64 0, .slice none 0 0] 111)))
        refine hK.out _ _ ?_ ?_
        · exact .inr s7
        clear hK K
        (try simp only [Act.put, List.setIfInBounds_toArray, List.set_cons_zero, List.set_cons_succ])
        generalize X1.alloc (.cells #[.int .u64 0, .slice none 0 0] 111) = X7 at *
        generalize X1.heap.size = ga at *
        refine wpAnyT_ready (rs := [6, 11]) (by kernel_rfl) (by simp) ?_
        intro j hj
        simp only [List.mem_cons, List.not_mem_nil, or_false] at hj
        rcases hj with rfl | rfl
        · skip
          refine wpOpT_step (T := fun j w' => j ∈ ([] : List Nat) ∨ SS w') (by rfl) (fun K hK => ?_)
          go_simp
          (with_reducible refine (densest_any EA WA BA CA ec wc bc cc _ n (offM n inn) (outE es inn) (bsO n es inn) hprb.out _ M7.out hp.out).mono ?_)
          intro e X8 hq
          obtain ⟨x, P, D, A', n', c', Lf, Sf, rfl, hDen, -, -, -, -, -, hb⟩ := hq
          replace hDen := Lib.hid hDen
          have b8 := Lib.hid (b7.out.trans (hb.mono b7.out.size))
          have s8 := hsS.out _ b8.out
          have a8 := Lib.hid (a7.out.below hb a7.out.lt)
          clear hb
          refine hK.out _ _ ?_ ?_
          · exact .inr s8
          clear hK K
          (try simp only [Act.put, List.setIfInBounds_toArray, List.set_cons_zero, List.set_cons_succ])
          refine takeM (i := 7) (M := ([] : List Nat)) (S := SS) (d := some 6) (v := .tuple #[.agg #[.int .u64 (x : Nat), .slice A' n' c'], .agg #[.int .i64 (P : Nat), .int .i64 (D : Nat)]]) rfl rfl (by kernel_rfl) (by kernel_rfl) (by kernel_rfl) hQP.out (by kernel_rfl) (Or.inl ⟨by rfl, fun w' hS => ?_⟩) s8 ?_
          · obtain ⟨y0, y1, y2, y3⟩ := (hSS.out _).1 hS
            go_simp
          (try simp only [Act.put, List.setIfInBounds_toArray, List.set_cons_zero, List.set_cons_succ])
          refine takeM (i := 8) (M := ([] : List Nat)) (S := SS) (d := some 14) (v := .agg #[.int .u64 (x : Nat), .slice A' n' c']) rfl rfl (by kernel_rfl) (by kernel_rfl) (by kernel_rfl) hQP.out (by kernel_rfl) (Or.inl ⟨by rfl, fun w' hS => ?_⟩) s8 ?_
          · obtain ⟨y0, y1, y2, y3⟩ := (hSS.out _).1 hS
            go_simp
          (try simp only [Act.put, List.setIfInBounds_toArray, List.set_cons_zero, List.set_cons_succ])
          refine takeM (i := 9) (M := ([] : List Nat)) (S := SS) (d := some 15) (v := .agg #[.int .i64 (P : Nat), .int .i64 (D : Nat)]) rfl rfl (by kernel_rfl) (by kernel_rfl) (by kernel_rfl) hQP.out (by kernel_rfl) (Or.inl ⟨by rfl, fun w' hS => ?_⟩) s8 ?_
          · obtain ⟨y0, y1, y2, y3⟩ := (hSS.out _).1 hS
            go_simp
          (try simp only [Act.put, List.setIfInBounds_toArray, List.set_cons_zero, List.set_cons_succ])
          refine wpAnyT_ready (rs := [11]) (by kernel_rfl) (by simp) ?_
          intro j hj
          rw [List.mem_singleton] at hj
          subst hj
          refine wpOpT_step (T := fun j w' => j ∈ ([] : List Nat) ∨ SS w') (by rfl) (fun K hK => ?_)
          go_simp
          have b9 := Lib.hid (b8.out.alloc b8.out.size (.cells #[.int .i64 0, .int .i64 0] 36))
          have s9 := hsS.out _ b9.out
          have f9 := Lib.hid (Blk.new X8 36 #[.int .i64 0, .int .i64 0])
          have hgf : Hid (W.heap.size ≤ X8.heap.size) := Lib.hid b8.out.size
          have hne : Hid (ga ≠ X8.heap.size) := Lib.hid (by have := a8.out.lt; omega)
          have a9 := Lib.hid (a8.out.alloc (.cells #[.int .i64 0, .int .i64 0] 36))
          refine hK.out _ _ ?_ ?_
          · exact .inr s9
          clear hK K
          (try simp only [Act.put, List.setIfInBounds_toArray, List.set_cons_zero, List.set_cons_succ])
          generalize X8.alloc (.cells #[.int .i64 0, .int .i64 0] 36) = X9 at *
          generalize X8.heap.size = gf at *
          have z0 := Blk.cell a9.out 0
          have z1 := Blk.cell a9.out 1
          have f0 := Blk.frozen a9.out 0
          have f1 := Blk.frozen a9.out 1
          simp at z0 z1
          have na : ga ≠ gf := hne.out
          have bS := Lib.hid ((b9.out.setCell (p := ⟨ga, 0, none⟩) hga.out (.int .u64 (x : Nat))).setCell (p := ⟨ga, 1, none⟩) hga.out (.slice A' n' c'))
          have aS : Hid (Blk ((X9.setCell ⟨ga, 0, none⟩ (.int .u64 (x : Nat))).setCell ⟨ga, 1, none⟩ (.slice A' n' c')) ga 111 #[.int .u64 (x : Nat), .slice A' n' c']) := Lib.hid (Blk.set (Blk.set a9.out 0 (.int .u64 (x : Nat))) 1 (.slice A' n' c'))
          have fS : Hid (Blk ((X9.setCell ⟨ga, 0, none⟩ (.int .u64 (x : Nat))).setCell ⟨ga, 1, none⟩ (.slice A' n' c')) gf 36 #[.int .i64 0, .int .i64 0]) := Lib.hid (Blk.far (Blk.far f9.out (p := ⟨ga, 0, none⟩) (fun e => na e.symm) _) (p := ⟨ga, 1, none⟩) (fun e => na e.symm) _)
          refine wpAnyT_ready (rs := [12]) (by kernel_rfl) (by simp) ?_
          intro j hj
          rw [List.mem_singleton] at hj
          subst hj
          refine wpOpT_step (T := fun j w' => j ∈ ([] : List Nat) ∨ SS w') (by rfl) (fun K hK => ?_)
          go_simp
          refine hK.out _ _ ?_ ?_
          · exact .inr (hsS.out _ bS.out)
          clear hK K
          (try simp only [Act.put, List.setIfInBounds_toArray, List.set_cons_zero, List.set_cons_succ])
          clear z0 z1 f0 f1
          generalize (X9.setCell ⟨ga, 0, none⟩ (.int .u64 (x : Nat))).setCell ⟨ga, 1, none⟩ (.slice A' n' c') = Y at *
          have sY := hsS.out _ bS.out
          have z0 := Blk.cell fS.out 0
          have z1 := Blk.cell fS.out 1
          have f0 := Blk.frozen fS.out 0
          have f1 := Blk.frozen fS.out 1
          simp at z0 z1
          have bU := Lib.hid ((bS.out.setCell (p := ⟨gf, 0, none⟩) hgf.out (.int .i64 (P : Nat))).setCell (p := ⟨gf, 1, none⟩) hgf.out (.int .i64 (D : Nat)))
          have fU : Hid (Blk ((Y.setCell ⟨gf, 0, none⟩ (.int .i64 (P : Nat))).setCell ⟨gf, 1, none⟩ (.int .i64 (D : Nat))) gf 36 #[.int .i64 (P : Nat), .int .i64 (D : Nat)]) := Lib.hid (Blk.set (Blk.set fS.out 0 (.int .i64 (P : Nat))) 1 (.int .i64 (D : Nat)))
          have aU : Hid (Blk ((Y.setCell ⟨gf, 0, none⟩ (.int .i64 (P : Nat))).setCell ⟨gf, 1, none⟩ (.int .i64 (D : Nat))) ga 111 #[.int .u64 (x : Nat), .slice A' n' c']) := Lib.hid (Blk.far (Blk.far aS.out (p := ⟨gf, 0, none⟩) na _) (p := ⟨gf, 1, none⟩) na _)
          refine wpAnyT_ready (rs := [13]) (by kernel_rfl) (by simp) ?_
          intro j hj
          rw [List.mem_singleton] at hj
          subst hj
          refine wpOpT_step (T := fun j w' => j ∈ ([] : List Nat) ∨ SS w') (by rfl) (fun K hK => ?_)
          go_simp
          refine hK.out _ _ ?_ ?_
          · exact .inr (hsS.out _ bU.out)
          clear hK K
          (try simp only [Act.put, List.setIfInBounds_toArray, List.set_cons_zero, List.set_cons_succ])
          refine wpAnyT_done (by kernel_rfl) (hQQ.out _ _ ?_) _
          clear hQQ hQP QQ
          clear z0 z1 f0 f1
          go_wp2_with fail
          go_meet
          exact ⟨ga, gf, x, P, D, A', n', c', rfl, rfl, aU.out, fU.out, hDen, bU.out, Lib.hid ⟨hga.out, hgf.out⟩⟩
        · skip
          refine wpOpT_step (T := fun j w' => j ∈ ([] : List Nat) ∨ SS w') (by rfl) (fun K hK => ?_)
          go_simp
          have b10 := Lib.hid (b7.out.alloc b7.out.size (.cells #[.int .i64 0, .int .i64 0] 36))
          have s10 := hsS.out _ b10.out
          have f10 := Lib.hid (Blk.new X7 36 #[.int .i64 0, .int .i64 0])
          have hgf : Hid (W.heap.size ≤ X7.heap.size) := Lib.hid b7.out.size
          have hne : Hid (ga ≠ X7.heap.size) := Lib.hid (by have := a7.out.lt; omega)
          have a10 := Lib.hid (a7.out.alloc (.cells #[.int .i64 0, .int .i64 0] 36))
          have M10 := Lib.hid (M7.out.below ((Below.refl X7.heap.size X7).alloc (Nat.le_refl _) (.cells #[.int .i64 0, .int .i64 0] 36)))
          refine hK.out _ _ ?_ ?_
          · exact .inr s10
          clear hK K
          (try simp only [Act.put, List.setIfInBounds_toArray, List.set_cons_zero, List.set_cons_succ])
          generalize X7.alloc (.cells #[.int .i64 0, .int .i64 0] 36) = X10 at *
          generalize X7.heap.size = gf at *
          refine wpAnyT_ready (rs := [6]) (by kernel_rfl) (by simp) ?_
          intro j hj
          rw [List.mem_singleton] at hj
          subst hj
          refine wpOpT_step (T := fun j w' => j ∈ ([] : List Nat) ∨ SS w') (by rfl) (fun K hK => ?_)
          go_simp
          (with_reducible refine (densest_any EA WA BA CA ec wc bc cc _ n (offM n inn) (outE es inn) (bsO n es inn) hprb.out _ M10.out hp.out).mono ?_)
          intro e X11 hq
          obtain ⟨x, P, D, A', n', c', Lf, Sf, rfl, hDen, -, -, -, -, -, hb⟩ := hq
          replace hDen := Lib.hid hDen
          have b11 := Lib.hid (b10.out.trans (hb.mono b10.out.size))
          have s11 := hsS.out _ b11.out
          have a11 := Lib.hid (a10.out.below hb a10.out.lt)
          have f11 := Lib.hid (f10.out.below hb f10.out.lt)
          clear hb
          refine hK.out _ _ ?_ ?_
          · exact .inr s11
          clear hK K
          (try simp only [Act.put, List.setIfInBounds_toArray, List.set_cons_zero, List.set_cons_succ])
          refine takeM (i := 7) (M := ([] : List Nat)) (S := SS) (d := some 6) (v := .tuple #[.agg #[.int .u64 (x : Nat), .slice A' n' c'], .agg #[.int .i64 (P : Nat), .int .i64 (D : Nat)]]) rfl rfl (by kernel_rfl) (by kernel_rfl) (by kernel_rfl) hQP.out (by kernel_rfl) (Or.inl ⟨by rfl, fun w' hS => ?_⟩) s11 ?_
          · obtain ⟨y0, y1, y2, y3⟩ := (hSS.out _).1 hS
            go_simp
          (try simp only [Act.put, List.setIfInBounds_toArray, List.set_cons_zero, List.set_cons_succ])
          refine takeM (i := 8) (M := ([] : List Nat)) (S := SS) (d := some 14) (v := .agg #[.int .u64 (x : Nat), .slice A' n' c']) rfl rfl (by kernel_rfl) (by kernel_rfl) (by kernel_rfl) hQP.out (by kernel_rfl) (Or.inl ⟨by rfl, fun w' hS => ?_⟩) s11 ?_
          · obtain ⟨y0, y1, y2, y3⟩ := (hSS.out _).1 hS
            go_simp
          (try simp only [Act.put, List.setIfInBounds_toArray, List.set_cons_zero, List.set_cons_succ])
          refine takeM (i := 9) (M := ([] : List Nat)) (S := SS) (d := some 15) (v := .agg #[.int .i64 (P : Nat), .int .i64 (D : Nat)]) rfl rfl (by kernel_rfl) (by kernel_rfl) (by kernel_rfl) hQP.out (by kernel_rfl) (Or.inl ⟨by rfl, fun w' hS => ?_⟩) s11 ?_
          · obtain ⟨y0, y1, y2, y3⟩ := (hSS.out _).1 hS
            go_simp
          (try simp only [Act.put, List.setIfInBounds_toArray, List.set_cons_zero, List.set_cons_succ])
          have z0 := Blk.cell a11.out 0
          have z1 := Blk.cell a11.out 1
          have f0 := Blk.frozen a11.out 0
          have f1 := Blk.frozen a11.out 1
          simp at z0 z1
          have na : ga ≠ gf := hne.out
          have bS := Lib.hid ((b11.out.setCell (p := ⟨ga, 0, none⟩) hga.out (.int .u64 (x : Nat))).setCell (p := ⟨ga, 1, none⟩) hga.out (.slice A' n' c'))
          have aS : Hid (Blk ((X11.setCell ⟨ga, 0, none⟩ (.int .u64 (x : Nat))).setCell ⟨ga, 1, none⟩ (.slice A' n' c')) ga 111 #[.int .u64 (x : Nat), .slice A' n' c']) := Lib.hid (Blk.set (Blk.set a11.out 0 (.int .u64 (x : Nat))) 1 (.slice A' n' c'))
          have fS : Hid (Blk ((X11.setCell ⟨ga, 0, none⟩ (.int .u64 (x : Nat))).setCell ⟨ga, 1, none⟩ (.slice A' n' c')) gf 36 #[.int .i64 0, .int .i64 0]) := Lib.hid (Blk.far (Blk.far f11.out (p := ⟨ga, 0, none⟩) (fun e => na e.symm) _) (p := ⟨ga, 1, none⟩) (fun e => na e.symm) _)
          refine wpAnyT_ready (rs := [12]) (by kernel_rfl) (by simp) ?_
          intro j hj
          rw [List.mem_singleton] at hj
          subst hj
          refine wpOpT_step (T := fun j w' => j ∈ ([] : List Nat) ∨ SS w') (by rfl) (fun K hK => ?_)
          go_simp
          refine hK.out _ _ ?_ ?_
          · exact .inr (hsS.out _ bS.out)
          clear hK K
          (try simp only [Act.put, List.setIfInBounds_toArray, List.set_cons_zero, List.set_cons_succ])
          clear z0 z1 f0 f1
          generalize (X11.setCell ⟨ga, 0, none⟩ (.int .u64 (x : Nat))).setCell ⟨ga, 1, none⟩ (.slice A' n' c') = Y at *
          have sY := hsS.out _ bS.out
          have z0 := Blk.cell fS.out 0
          have z1 := Blk.cell fS.out 1
          have f0 := Blk.frozen fS.out 0
          have f1 := Blk.frozen fS.out 1
          simp at z0 z1
          have bU := Lib.hid ((bS.out.setCell (p := ⟨gf, 0, none⟩) hgf.out (.int .i64 (P : Nat))).setCell (p := ⟨gf, 1, none⟩) hgf.out (.int .i64 (D : Nat)))
          have fU : Hid (Blk ((Y.setCell ⟨gf, 0, none⟩ (.int .i64 (P : Nat))).setCell ⟨gf, 1, none⟩ (.int .i64 (D : Nat))) gf 36 #[.int .i64 (P : Nat), .int .i64 (D : Nat)]) := Lib.hid (Blk.set (Blk.set fS.out 0 (.int .i64 (P : Nat))) 1 (.int .i64 (D : Nat)))
          have aU : Hid (Blk ((Y.setCell ⟨gf, 0, none⟩ (.int .i64 (P : Nat))).setCell ⟨gf, 1, none⟩ (.int .i64 (D : Nat))) ga 111 #[.int .u64 (x : Nat), .slice A' n' c']) := Lib.hid (Blk.far (Blk.far aS.out (p := ⟨gf, 0, none⟩) na _) (p := ⟨gf, 1, none⟩) na _)
          refine wpAnyT_ready (rs := [13]) (by kernel_rfl) (by simp) ?_
          intro j hj
          rw [List.mem_singleton] at hj
          subst hj
          refine wpOpT_step (T := fun j w' => j ∈ ([] : List Nat) ∨ SS w') (by rfl) (fun K hK => ?_)
          go_simp
          refine hK.out _ _ ?_ ?_
          · exact .inr (hsS.out _ bU.out)
          clear hK K
          (try simp only [Act.put, List.setIfInBounds_toArray, List.set_cons_zero, List.set_cons_succ])
          refine wpAnyT_done (by kernel_rfl) (hQQ.out _ _ ?_) _
          clear hQQ hQP QQ
          clear z0 z1 f0 f1
          go_wp2_with fail
          go_meet
          exact ⟨ga, gf, x, P, D, A', n', c', rfl, rfl, aU.out, fU.out, hDen, bU.out, Lib.hid ⟨hga.out, hgf.out⟩⟩
      · skip
        refine wpOpT_step (T := fun j w' => j ∈ ([] : List Nat) ∨ SS w') (by rfl) (fun K hK => ?_)
        go_simp
        have b12 := Lib.hid (b1.out.alloc b1.out.size (.cells #[.int .i64 0, .int .i64 0] 36))
        have s12 := hsS.out _ b12.out
        have f12 := Lib.hid (Blk.new X1 36 #[.int .i64 0, .int .i64 0])
        have hgf : Hid (W.heap.size ≤ X1.heap.size) := Lib.hid b1.out.size
        have M12 := Lib.hid (M1.out.below ((Below.refl X1.heap.size X1).alloc (Nat.le_refl _) (.cells #[.int .i64 0, .int .i64 0] 36)))
        refine hK.out _ _ ?_ ?_
        · exact .inr s12
        clear hK K
        (try simp only [Act.put, List.setIfInBounds_toArray, List.set_cons_zero, List.set_cons_succ])
        generalize X1.alloc (.cells #[.int .i64 0, .int .i64 0] 36) = X12 at *
        generalize X1.heap.size = gf at *
        refine wpAnyT_ready (rs := [6, 10]) (by kernel_rfl) (by simp) ?_
        intro j hj
        simp only [List.mem_cons, List.not_mem_nil, or_false] at hj
        rcases hj with rfl | rfl
        · skip
          refine wpOpT_step (T := fun j w' => j ∈ ([] : List Nat) ∨ SS w') (by rfl) (fun K hK => ?_)
          go_simp
          (with_reducible refine (densest_any EA WA BA CA ec wc bc cc _ n (offM n inn) (outE es inn) (bsO n es inn) hprb.out _ M12.out hp.out).mono ?_)
          intro e X13 hq
          obtain ⟨x, P, D, A', n', c', Lf, Sf, rfl, hDen, -, -, -, -, -, hb⟩ := hq
          replace hDen := Lib.hid hDen
          have b13 := Lib.hid (b12.out.trans (hb.mono b12.out.size))
          have s13 := hsS.out _ b13.out
          have f13 := Lib.hid (f12.out.below hb f12.out.lt)
          clear hb
          refine hK.out _ _ ?_ ?_
          · exact .inr s13
          clear hK K
          (try simp only [Act.put, List.setIfInBounds_toArray, List.set_cons_zero, List.set_cons_succ])
          refine takeM (i := 7) (M := ([] : List Nat)) (S := SS) (d := some 6) (v := .tuple #[.agg #[.int .u64 (x : Nat), .slice A' n' c'], .agg #[.int .i64 (P : Nat), .int .i64 (D : Nat)]]) rfl rfl (by kernel_rfl) (by kernel_rfl) (by kernel_rfl) hQP.out (by kernel_rfl) (Or.inl ⟨by rfl, fun w' hS => ?_⟩) s13 ?_
          · obtain ⟨y0, y1, y2, y3⟩ := (hSS.out _).1 hS
            go_simp
          (try simp only [Act.put, List.setIfInBounds_toArray, List.set_cons_zero, List.set_cons_succ])
          refine takeM (i := 8) (M := ([] : List Nat)) (S := SS) (d := some 14) (v := .agg #[.int .u64 (x : Nat), .slice A' n' c']) rfl rfl (by kernel_rfl) (by kernel_rfl) (by kernel_rfl) hQP.out (by kernel_rfl) (Or.inl ⟨by rfl, fun w' hS => ?_⟩) s13 ?_
          · obtain ⟨y0, y1, y2, y3⟩ := (hSS.out _).1 hS
            go_simp
          (try simp only [Act.put, List.setIfInBounds_toArray, List.set_cons_zero, List.set_cons_succ])
          refine takeM (i := 9) (M := ([] : List Nat)) (S := SS) (d := some 15) (v := .agg #[.int .i64 (P : Nat), .int .i64 (D : Nat)]) rfl rfl (by kernel_rfl) (by kernel_rfl) (by kernel_rfl) hQP.out (by kernel_rfl) (Or.inl ⟨by rfl, fun w' hS => ?_⟩) s13 ?_
          · obtain ⟨y0, y1, y2, y3⟩ := (hSS.out _).1 hS
            go_simp
          (try simp only [Act.put, List.setIfInBounds_toArray, List.set_cons_zero, List.set_cons_succ])
          refine wpAnyT_ready (rs := [10]) (by kernel_rfl) (by simp) ?_
          intro j hj
          rw [List.mem_singleton] at hj
          subst hj
          refine wpOpT_step (T := fun j w' => j ∈ ([] : List Nat) ∨ SS w') (by rfl) (fun K hK => ?_)
          go_simp
          have b14 := Lib.hid (b13.out.alloc b13.out.size (.cells #[.int .u64 0, .slice none 0 0] 111))
          have s14 := hsS.out _ b14.out
          have a14 := Lib.hid (Blk.new X13 111 #[.int .u64 0, .slice none 0 0])
          have hga : Hid (W.heap.size ≤ X13.heap.size) := Lib.hid b13.out.size
          have hne : Hid (gf ≠ X13.heap.size) := Lib.hid (by have := f13.out.lt; omega)
          have f14 := Lib.hid (f13.out.alloc (.cells #[.int .u64 0, .slice none 0 0] 111))
          refine hK.out _ _ ?_ ?_
          · exact .inr s14
          clear hK K
          (try simp only [Act.put, List.setIfInBounds_toArray, List.set_cons_zero, List.set_cons_succ])
          generalize X13.alloc (.cells #[.int .u64 0, .slice none 0 0] 111) = X14 at *
          generalize X13.heap.size = ga at *
          have z0 := Blk.cell a14.out 0
          have z1 := Blk.cell a14.out 1
          have f0 := Blk.frozen a14.out 0
          have f1 := Blk.frozen a14.out 1
          simp at z0 z1
          have na : ga ≠ gf := (fun e => hne.out e.symm)
          have bS := Lib.hid ((b14.out.setCell (p := ⟨ga, 0, none⟩) hga.out (.int .u64 (x : Nat))).setCell (p := ⟨ga, 1, none⟩) hga.out (.slice A' n' c'))
          have aS : Hid (Blk ((X14.setCell ⟨ga, 0, none⟩ (.int .u64 (x : Nat))).setCell ⟨ga, 1, none⟩ (.slice A' n' c')) ga 111 #[.int .u64 (x : Nat), .slice A' n' c']) := Lib.hid (Blk.set (Blk.set a14.out 0 (.int .u64 (x : Nat))) 1 (.slice A' n' c'))
          have fS : Hid (Blk ((X14.setCell ⟨ga, 0, none⟩ (.int .u64 (x : Nat))).setCell ⟨ga, 1, none⟩ (.slice A' n' c')) gf 36 #[.int .i64 0, .int .i64 0]) := Lib.hid (Blk.far (Blk.far f14.out (p := ⟨ga, 0, none⟩) (fun e => na e.symm) _) (p := ⟨ga, 1, none⟩) (fun e => na e.symm) _)
          refine wpAnyT_ready (rs := [12]) (by kernel_rfl) (by simp) ?_
          intro j hj
          rw [List.mem_singleton] at hj
          subst hj
          refine wpOpT_step (T := fun j w' => j ∈ ([] : List Nat) ∨ SS w') (by rfl) (fun K hK => ?_)
          go_simp
          refine hK.out _ _ ?_ ?_
          · exact .inr (hsS.out _ bS.out)
          clear hK K
          (try simp only [Act.put, List.setIfInBounds_toArray, List.set_cons_zero, List.set_cons_succ])
          clear z0 z1 f0 f1
          generalize (X14.setCell ⟨ga, 0, none⟩ (.int .u64 (x : Nat))).setCell ⟨ga, 1, none⟩ (.slice A' n' c') = Y at *
          have sY := hsS.out _ bS.out
          have z0 := Blk.cell fS.out 0
          have z1 := Blk.cell fS.out 1
          have f0 := Blk.frozen fS.out 0
          have f1 := Blk.frozen fS.out 1
          simp at z0 z1
          have bU := Lib.hid ((bS.out.setCell (p := ⟨gf, 0, none⟩) hgf.out (.int .i64 (P : Nat))).setCell (p := ⟨gf, 1, none⟩) hgf.out (.int .i64 (D : Nat)))
          have fU : Hid (Blk ((Y.setCell ⟨gf, 0, none⟩ (.int .i64 (P : Nat))).setCell ⟨gf, 1, none⟩ (.int .i64 (D : Nat))) gf 36 #[.int .i64 (P : Nat), .int .i64 (D : Nat)]) := Lib.hid (Blk.set (Blk.set fS.out 0 (.int .i64 (P : Nat))) 1 (.int .i64 (D : Nat)))
          have aU : Hid (Blk ((Y.setCell ⟨gf, 0, none⟩ (.int .i64 (P : Nat))).setCell ⟨gf, 1, none⟩ (.int .i64 (D : Nat))) ga 111 #[.int .u64 (x : Nat), .slice A' n' c']) := Lib.hid (Blk.far (Blk.far aS.out (p := ⟨gf, 0, none⟩) na _) (p := ⟨gf, 1, none⟩) na _)
          refine wpAnyT_ready (rs := [13]) (by kernel_rfl) (by simp) ?_
          intro j hj
          rw [List.mem_singleton] at hj
          subst hj
          refine wpOpT_step (T := fun j w' => j ∈ ([] : List Nat) ∨ SS w') (by rfl) (fun K hK => ?_)
          go_simp
          refine hK.out _ _ ?_ ?_
          · exact .inr (hsS.out _ bU.out)
          clear hK K
          (try simp only [Act.put, List.setIfInBounds_toArray, List.set_cons_zero, List.set_cons_succ])
          refine wpAnyT_done (by kernel_rfl) (hQQ.out _ _ ?_) _
          clear hQQ hQP QQ
          clear z0 z1 f0 f1
          go_wp2_with fail
          go_meet
          exact ⟨ga, gf, x, P, D, A', n', c', rfl, rfl, aU.out, fU.out, hDen, bU.out, Lib.hid ⟨hga.out, hgf.out⟩⟩
        · skip
          refine wpOpT_step (T := fun j w' => j ∈ ([] : List Nat) ∨ SS w') (by rfl) (fun K hK => ?_)
          go_simp
          have b15 := Lib.hid (b12.out.alloc b12.out.size (.cells #[.int .u64 0, .slice none 0 0] 111))
          have s15 := hsS.out _ b15.out
          have a15 := Lib.hid (Blk.new X12 111 #[.int .u64 0, .slice none 0 0])
          have hga : Hid (W.heap.size ≤ X12.heap.size) := Lib.hid b12.out.size
          have hne : Hid (gf ≠ X12.heap.size) := Lib.hid (by have := f12.out.lt; omega)
          have f15 := Lib.hid (f12.out.alloc (.cells #[.int .u64 0, .slice none 0 0] 111))
          have M15 := Lib.hid (M12.out.below ((Below.refl X12.heap.size X12).alloc (Nat.le_refl _) (.cells #[.int .u64 0, .slice none 0 0] 111)))
          refine hK.out _ _ ?_ ?_
          · exact .inr s15
          clear hK K
          (try simp only [Act.put, List.setIfInBounds_toArray, List.set_cons_zero, List.set_cons_succ])
          generalize X12.alloc (.cells #[.int .u64 0, .slice none 0 0] 111) = X15 at *
          generalize X12.heap.size = ga at *
          refine wpAnyT_ready (rs := [6]) (by kernel_rfl) (by simp) ?_
          intro j hj
          rw [List.mem_singleton] at hj
          subst hj
          refine wpOpT_step (T := fun j w' => j ∈ ([] : List Nat) ∨ SS w') (by rfl) (fun K hK => ?_)
          go_simp
          (with_reducible refine (densest_any EA WA BA CA ec wc bc cc _ n (offM n inn) (outE es inn) (bsO n es inn) hprb.out _ M15.out hp.out).mono ?_)
          intro e X16 hq
          obtain ⟨x, P, D, A', n', c', Lf, Sf, rfl, hDen, -, -, -, -, -, hb⟩ := hq
          replace hDen := Lib.hid hDen
          have b16 := Lib.hid (b15.out.trans (hb.mono b15.out.size))
          have s16 := hsS.out _ b16.out
          have a16 := Lib.hid (a15.out.below hb a15.out.lt)
          have f16 := Lib.hid (f15.out.below hb f15.out.lt)
          clear hb
          refine hK.out _ _ ?_ ?_
          · exact .inr s16
          clear hK K
          (try simp only [Act.put, List.setIfInBounds_toArray, List.set_cons_zero, List.set_cons_succ])
          refine takeM (i := 7) (M := ([] : List Nat)) (S := SS) (d := some 6) (v := .tuple #[.agg #[.int .u64 (x : Nat), .slice A' n' c'], .agg #[.int .i64 (P : Nat), .int .i64 (D : Nat)]]) rfl rfl (by kernel_rfl) (by kernel_rfl) (by kernel_rfl) hQP.out (by kernel_rfl) (Or.inl ⟨by rfl, fun w' hS => ?_⟩) s16 ?_
          · obtain ⟨y0, y1, y2, y3⟩ := (hSS.out _).1 hS
            go_simp
          (try simp only [Act.put, List.setIfInBounds_toArray, List.set_cons_zero, List.set_cons_succ])
          refine takeM (i := 8) (M := ([] : List Nat)) (S := SS) (d := some 14) (v := .agg #[.int .u64 (x : Nat), .slice A' n' c']) rfl rfl (by kernel_rfl) (by kernel_rfl) (by kernel_rfl) hQP.out (by kernel_rfl) (Or.inl ⟨by rfl, fun w' hS => ?_⟩) s16 ?_
          · obtain ⟨y0, y1, y2, y3⟩ := (hSS.out _).1 hS
            go_simp
          (try simp only [Act.put, List.setIfInBounds_toArray, List.set_cons_zero, List.set_cons_succ])
          refine takeM (i := 9) (M := ([] : List Nat)) (S := SS) (d := some 15) (v := .agg #[.int .i64 (P : Nat), .int .i64 (D : Nat)]) rfl rfl (by kernel_rfl) (by kernel_rfl) (by kernel_rfl) hQP.out (by kernel_rfl) (Or.inl ⟨by rfl, fun w' hS => ?_⟩) s16 ?_
          · obtain ⟨y0, y1, y2, y3⟩ := (hSS.out _).1 hS
            go_simp
          (try simp only [Act.put, List.setIfInBounds_toArray, List.set_cons_zero, List.set_cons_succ])
          have z0 := Blk.cell a16.out 0
          have z1 := Blk.cell a16.out 1
          have f0 := Blk.frozen a16.out 0
          have f1 := Blk.frozen a16.out 1
          simp at z0 z1
          have na : ga ≠ gf := (fun e => hne.out e.symm)
          have bS := Lib.hid ((b16.out.setCell (p := ⟨ga, 0, none⟩) hga.out (.int .u64 (x : Nat))).setCell (p := ⟨ga, 1, none⟩) hga.out (.slice A' n' c'))
          have aS : Hid (Blk ((X16.setCell ⟨ga, 0, none⟩ (.int .u64 (x : Nat))).setCell ⟨ga, 1, none⟩ (.slice A' n' c')) ga 111 #[.int .u64 (x : Nat), .slice A' n' c']) := Lib.hid (Blk.set (Blk.set a16.out 0 (.int .u64 (x : Nat))) 1 (.slice A' n' c'))
          have fS : Hid (Blk ((X16.setCell ⟨ga, 0, none⟩ (.int .u64 (x : Nat))).setCell ⟨ga, 1, none⟩ (.slice A' n' c')) gf 36 #[.int .i64 0, .int .i64 0]) := Lib.hid (Blk.far (Blk.far f16.out (p := ⟨ga, 0, none⟩) (fun e => na e.symm) _) (p := ⟨ga, 1, none⟩) (fun e => na e.symm) _)
          refine wpAnyT_ready (rs := [12]) (by kernel_rfl) (by simp) ?_
          intro j hj
          rw [List.mem_singleton] at hj
          subst hj
          refine wpOpT_step (T := fun j w' => j ∈ ([] : List Nat) ∨ SS w') (by rfl) (fun K hK => ?_)
          go_simp
          refine hK.out _ _ ?_ ?_
          · exact .inr (hsS.out _ bS.out)
          clear hK K
          (try simp only [Act.put, List.setIfInBounds_toArray, List.set_cons_zero, List.set_cons_succ])
          clear z0 z1 f0 f1
          generalize (X16.setCell ⟨ga, 0, none⟩ (.int .u64 (x : Nat))).setCell ⟨ga, 1, none⟩ (.slice A' n' c') = Y at *
          have sY := hsS.out _ bS.out
          have z0 := Blk.cell fS.out 0
          have z1 := Blk.cell fS.out 1
          have f0 := Blk.frozen fS.out 0
          have f1 := Blk.frozen fS.out 1
          simp at z0 z1
          have bU := Lib.hid ((bS.out.setCell (p := ⟨gf, 0, none⟩) hgf.out (.int .i64 (P : Nat))).setCell (p := ⟨gf, 1, none⟩) hgf.out (.int .i64 (D : Nat)))
          have fU : Hid (Blk ((Y.setCell ⟨gf, 0, none⟩ (.int .i64 (P : Nat))).setCell ⟨gf, 1, none⟩ (.int .i64 (D : Nat))) gf 36 #[.int .i64 (P : Nat), .int .i64 (D : Nat)]) := Lib.hid (Blk.set (Blk.set fS.out 0 (.int .i64 (P : Nat))) 1 (.int .i64 (D : Nat)))
          have aU : Hid (Blk ((Y.setCell ⟨gf, 0, none⟩ (.int .i64 (P : Nat))).setCell ⟨gf, 1, none⟩ (.int .i64 (D : Nat))) ga 111 #[.int .u64 (x : Nat), .slice A' n' c']) := Lib.hid (Blk.far (Blk.far aS.out (p := ⟨gf, 0, none⟩) na _) (p := ⟨gf, 1, none⟩) na _)
          refine wpAnyT_ready (rs := [13]) (by kernel_rfl) (by simp) ?_
          intro j hj
          rw [List.mem_singleton] at hj
          subst hj
          refine wpOpT_step (T := fun j w' => j ∈ ([] : List Nat) ∨ SS w') (by rfl) (fun K hK => ?_)
          go_simp
          refine hK.out _ _ ?_ ?_
          · exact .inr (hsS.out _ bU.out)
          clear hK K
          (try simp only [Act.put, List.setIfInBounds_toArray, List.set_cons_zero, List.set_cons_succ])
          refine wpAnyT_done (by kernel_rfl) (hQQ.out _ _ ?_) _
          clear hQQ hQP QQ
          clear z0 z1 f0 f1
          go_wp2_with fail
          go_meet
          exact ⟨ga, gf, x, P, D, A', n', c', rfl, rfl, aU.out, fU.out, hDen, bU.out, Lib.hid ⟨hga.out, hgf.out⟩⟩
    · skip
      refine wpOpT_step (T := fun j w' => j ∈ ([] : List Nat) ∨ SS w') (by rfl) (fun K hK => ?_)
      go_simp
      have b17 := Lib.hid (b0.out.alloc b0.out.size (.cells #[.int .u64 0, .slice none 0 0] 111))
      have s17 := hsS.out _ b17.out
      have a17 := Lib.hid (Blk.new X0 111 #[.int .u64 0, .slice none 0 0])
      have hga : Hid (W.heap.size ≤ X0.heap.size) := Lib.hid b0.out.size
      refine hK.out _ _ ?_ ?_
      · exact .inr s17
      clear hK K
      (try simp only [Act.put, List.setIfInBounds_toArray, List.set_cons_zero, List.set_cons_succ])
      generalize X0.alloc (.cells #[.int .u64 0, .slice none 0 0] 111) = X17 at *
      generalize X0.heap.size = ga at *
      refine wpAnyT_ready (rs := [5, 11]) (by kernel_rfl) (by simp) ?_
      intro j hj
      simp only [List.mem_cons, List.not_mem_nil, or_false] at hj
      rcases hj with rfl | rfl
      · skip
        refine wpOpT_step (T := fun j w' => j ∈ ([] : List Nat) ∨ SS w') (by rfl) (fun K hK => ?_)
        go_simp
        (with_reducible refine (kO.out _ (E1.below b17.out (Nat.le_refl _))).mono ?_)
        intro e X18 hq
        obtain ⟨EA, WA, BA, CA, ec, wc, bc, cc, rfl, hE, hW, hBn, hC, hb⟩ := hq
        have b18 := Lib.hid (b17.out.trans (hb.mono b17.out.size))
        have M18 := Lib.hid (show PM X18 EA WA BA CA (outE es inn).length n (outE es inn) (bsO n es inn) from ⟨hE, hW, hBn, hC, T1.keep b18.out⟩)
        have s18 := hsS.out _ b18.out
        have a18 := Lib.hid (a17.out.below hb a17.out.lt)
        clear hE hW hBn hC hb
        refine hK.out _ _ ?_ ?_
        · exact .inr s18
        clear hK K
        (try simp only [Act.put, List.setIfInBounds_toArray, List.set_cons_zero, List.set_cons_succ])
        refine wpAnyT_ready (rs := [6, 11]) (by kernel_rfl) (by simp) ?_
        intro j hj
        simp only [List.mem_cons, List.not_mem_nil, or_false] at hj
        rcases hj with rfl | rfl
        · skip
          refine wpOpT_step (T := fun j w' => j ∈ ([] : List Nat) ∨ SS w') (by rfl) (fun K hK => ?_)
          go_simp
          (with_reducible refine (densest_any EA WA BA CA ec wc bc cc _ n (offM n inn) (outE es inn) (bsO n es inn) hprb.out _ M18.out hp.out).mono ?_)
          intro e X19 hq
          obtain ⟨x, P, D, A', n', c', Lf, Sf, rfl, hDen, -, -, -, -, -, hb⟩ := hq
          replace hDen := Lib.hid hDen
          have b19 := Lib.hid (b18.out.trans (hb.mono b18.out.size))
          have s19 := hsS.out _ b19.out
          have a19 := Lib.hid (a18.out.below hb a18.out.lt)
          clear hb
          refine hK.out _ _ ?_ ?_
          · exact .inr s19
          clear hK K
          (try simp only [Act.put, List.setIfInBounds_toArray, List.set_cons_zero, List.set_cons_succ])
          refine takeM (i := 7) (M := ([] : List Nat)) (S := SS) (d := some 6) (v := .tuple #[.agg #[.int .u64 (x : Nat), .slice A' n' c'], .agg #[.int .i64 (P : Nat), .int .i64 (D : Nat)]]) rfl rfl (by kernel_rfl) (by kernel_rfl) (by kernel_rfl) hQP.out (by kernel_rfl) (Or.inl ⟨by rfl, fun w' hS => ?_⟩) s19 ?_
          · obtain ⟨y0, y1, y2, y3⟩ := (hSS.out _).1 hS
            go_simp
          (try simp only [Act.put, List.setIfInBounds_toArray, List.set_cons_zero, List.set_cons_succ])
          refine takeM (i := 8) (M := ([] : List Nat)) (S := SS) (d := some 14) (v := .agg #[.int .u64 (x : Nat), .slice A' n' c']) rfl rfl (by kernel_rfl) (by kernel_rfl) (by kernel_rfl) hQP.out (by kernel_rfl) (Or.inl ⟨by rfl, fun w' hS => ?_⟩) s19 ?_
          · obtain ⟨y0, y1, y2, y3⟩ := (hSS.out _).1 hS
            go_simp
          (try simp only [Act.put, List.setIfInBounds_toArray, List.set_cons_zero, List.set_cons_succ])
          refine takeM (i := 9) (M := ([] : List Nat)) (S := SS) (d := some 15) (v := .agg #[.int .i64 (P : Nat), .int .i64 (D : Nat)]) rfl rfl (by kernel_rfl) (by kernel_rfl) (by kernel_rfl) hQP.out (by kernel_rfl) (Or.inl ⟨by rfl, fun w' hS => ?_⟩) s19 ?_
          · obtain ⟨y0, y1, y2, y3⟩ := (hSS.out _).1 hS
            go_simp
          (try simp only [Act.put, List.setIfInBounds_toArray, List.set_cons_zero, List.set_cons_succ])
          refine wpAnyT_ready (rs := [11]) (by kernel_rfl) (by simp) ?_
          intro j hj
          rw [List.mem_singleton] at hj
          subst hj
          refine wpOpT_step (T := fun j w' => j ∈ ([] : List Nat) ∨ SS w') (by rfl) (fun K hK => ?_)
          go_simp
          have b20 := Lib.hid (b19.out.alloc b19.out.size (.cells #[.int .i64 0, .int .i64 0] 36))
          have s20 := hsS.out _ b20.out
          have f20 := Lib.hid (Blk.new X19 36 #[.int .i64 0, .int .i64 0])
          have hgf : Hid (W.heap.size ≤ X19.heap.size) := Lib.hid b19.out.size
          have hne : Hid (ga ≠ X19.heap.size) := Lib.hid (by have := a19.out.lt; omega)
          have a20 := Lib.hid (a19.out.alloc (.cells #[.int .i64 0, .int .i64 0] 36))
          refine hK.out _ _ ?_ ?_
          · exact .inr s20
          clear hK K
          (try simp only [Act.put, List.setIfInBounds_toArray, List.set_cons_zero, List.set_cons_succ])
          generalize X19.alloc (.cells #[.int .i64 0, .int .i64 0] 36) = X20 at *
          generalize X19.heap.size = gf at *
          have z0 := Blk.cell a20.out 0
          have z1 := Blk.cell a20.out 1
          have f0 := Blk.frozen a20.out 0
          have f1 := Blk.frozen a20.out 1
          simp at z0 z1
          have na : ga ≠ gf := hne.out
          have bS := Lib.hid ((b20.out.setCell (p := ⟨ga, 0, none⟩) hga.out (.int .u64 (x : Nat))).setCell (p := ⟨ga, 1, none⟩) hga.out (.slice A' n' c'))
          have aS : Hid (Blk ((X20.setCell ⟨ga, 0, none⟩ (.int .u64 (x : Nat))).setCell ⟨ga, 1, none⟩ (.slice A' n' c')) ga 111 #[.int .u64 (x : Nat), .slice A' n' c']) := Lib.hid (Blk.set (Blk.set a20.out 0 (.int .u64 (x : Nat))) 1 (.slice A' n' c'))
          have fS : Hid (Blk ((X20.setCell ⟨ga, 0, none⟩ (.int .u64 (x : Nat))).setCell ⟨ga, 1, none⟩ (.slice A' n' c')) gf 36 #[.int .i64 0, .int .i64 0]) := Lib.hid (Blk.far (Blk.far f20.out (p := ⟨ga, 0, none⟩) (fun e => na e.symm) _) (p := ⟨ga, 1, none⟩) (fun e => na e.symm) _)
          refine wpAnyT_ready (rs := [12]) (by kernel_rfl) (by simp) ?_
          intro j hj
          rw [List.mem_singleton] at hj
          subst hj
          refine wpOpT_step (T := fun j w' => j ∈ ([] : List Nat) ∨ SS w') (by rfl) (fun K hK => ?_)
          go_simp
          refine hK.out _ _ ?_ ?_
          · exact .inr (hsS.out _ bS.out)
          clear hK K
          (try simp only [Act.put, List.setIfInBounds_toArray, List.set_cons_zero, List.set_cons_succ])
          clear z0 z1 f0 f1
          generalize (X20.setCell ⟨ga, 0, none⟩ (.int .u64 (x : Nat))).setCell ⟨ga, 1, none⟩ (.slice A' n' c') = Y at *
          have sY := hsS.out _ bS.out
          have z0 := Blk.cell fS.out 0
          have z1 := Blk.cell fS.out 1
          have f0 := Blk.frozen fS.out 0
          have f1 := Blk.frozen fS.out 1
          simp at z0 z1
          have bU := Lib.hid ((bS.out.setCell (p := ⟨gf, 0, none⟩) hgf.out (.int .i64 (P : Nat))).setCell (p := ⟨gf, 1, none⟩) hgf.out (.int .i64 (D : Nat)))
          have fU : Hid (Blk ((Y.setCell ⟨gf, 0, none⟩ (.int .i64 (P : Nat))).setCell ⟨gf, 1, none⟩ (.int .i64 (D : Nat))) gf 36 #[.int .i64 (P : Nat), .int .i64 (D : Nat)]) := Lib.hid (Blk.set (Blk.set fS.out 0 (.int .i64 (P : Nat))) 1 (.int .i64 (D : Nat)))
          have aU : Hid (Blk ((Y.setCell ⟨gf, 0, none⟩ (.int .i64 (P : Nat))).setCell ⟨gf, 1, none⟩ (.int .i64 (D : Nat))) ga 111 #[.int .u64 (x : Nat), .slice A' n' c']) := Lib.hid (Blk.far (Blk.far aS.out (p := ⟨gf, 0, none⟩) na _) (p := ⟨gf, 1, none⟩) na _)
          refine wpAnyT_ready (rs := [13]) (by kernel_rfl) (by simp) ?_
          intro j hj
          rw [List.mem_singleton] at hj
          subst hj
          refine wpOpT_step (T := fun j w' => j ∈ ([] : List Nat) ∨ SS w') (by rfl) (fun K hK => ?_)
          go_simp
          refine hK.out _ _ ?_ ?_
          · exact .inr (hsS.out _ bU.out)
          clear hK K
          (try simp only [Act.put, List.setIfInBounds_toArray, List.set_cons_zero, List.set_cons_succ])
          refine wpAnyT_done (by kernel_rfl) (hQQ.out _ _ ?_) _
          clear hQQ hQP QQ
          clear z0 z1 f0 f1
          go_wp2_with fail
          go_meet
          exact ⟨ga, gf, x, P, D, A', n', c', rfl, rfl, aU.out, fU.out, hDen, bU.out, Lib.hid ⟨hga.out, hgf.out⟩⟩
        · skip
          refine wpOpT_step (T := fun j w' => j ∈ ([] : List Nat) ∨ SS w') (by rfl) (fun K hK => ?_)
          go_simp
          have b21 := Lib.hid (b18.out.alloc b18.out.size (.cells #[.int .i64 0, .int .i64 0] 36))
          have s21 := hsS.out _ b21.out
          have f21 := Lib.hid (Blk.new X18 36 #[.int .i64 0, .int .i64 0])
          have hgf : Hid (W.heap.size ≤ X18.heap.size) := Lib.hid b18.out.size
          have hne : Hid (ga ≠ X18.heap.size) := Lib.hid (by have := a18.out.lt; omega)
          have a21 := Lib.hid (a18.out.alloc (.cells #[.int .i64 0, .int .i64 0] 36))
          have M21 := Lib.hid (M18.out.below ((Below.refl X18.heap.size X18).alloc (Nat.le_refl _) (.cells #[.int .i64 0, .int .i64 0] 36)))
          refine hK.out _ _ ?_ ?_
          · exact .inr s21
          clear hK K
          (try simp only [Act.put, List.setIfInBounds_toArray, List.set_cons_zero, List.set_cons_succ])
          generalize X18.alloc (.cells #[.int .i64 0, .int .i64 0] 36) = X21 at *
          generalize X18.heap.size = gf at *
          refine wpAnyT_ready (rs := [6]) (by kernel_rfl) (by simp) ?_
          intro j hj
          rw [List.mem_singleton] at hj
          subst hj
          refine wpOpT_step (T := fun j w' => j ∈ ([] : List Nat) ∨ SS w') (by rfl) (fun K hK => ?_)
          go_simp
          (with_reducible refine (densest_any EA WA BA CA ec wc bc cc _ n (offM n inn) (outE es inn) (bsO n es inn) hprb.out _ M21.out hp.out).mono ?_)
          intro e X22 hq
          obtain ⟨x, P, D, A', n', c', Lf, Sf, rfl, hDen, -, -, -, -, -, hb⟩ := hq
          replace hDen := Lib.hid hDen
          have b22 := Lib.hid (b21.out.trans (hb.mono b21.out.size))
          have s22 := hsS.out _ b22.out
          have a22 := Lib.hid (a21.out.below hb a21.out.lt)
          have f22 := Lib.hid (f21.out.below hb f21.out.lt)
          clear hb
          refine hK.out _ _ ?_ ?_
          · exact .inr s22
          clear hK K
          (try simp only [Act.put, List.setIfInBounds_toArray, List.set_cons_zero, List.set_cons_succ])
          refine takeM (i := 7) (M := ([] : List Nat)) (S := SS) (d := some 6) (v := .tuple #[.agg #[.int .u64 (x : Nat), .slice A' n' c'], .agg #[.int .i64 (P : Nat), .int .i64 (D : Nat)]]) rfl rfl (by kernel_rfl) (by kernel_rfl) (by kernel_rfl) hQP.out (by kernel_rfl) (Or.inl ⟨by rfl, fun w' hS => ?_⟩) s22 ?_
          · obtain ⟨y0, y1, y2, y3⟩ := (hSS.out _).1 hS
            go_simp
          (try simp only [Act.put, List.setIfInBounds_toArray, List.set_cons_zero, List.set_cons_succ])
          refine takeM (i := 8) (M := ([] : List Nat)) (S := SS) (d := some 14) (v := .agg #[.int .u64 (x : Nat), .slice A' n' c']) rfl rfl (by kernel_rfl) (by kernel_rfl) (by kernel_rfl) hQP.out (by kernel_rfl) (Or.inl ⟨by rfl, fun w' hS => ?_⟩) s22 ?_
          · obtain ⟨y0, y1, y2, y3⟩ := (hSS.out _).1 hS
            go_simp
          (try simp only [Act.put, List.setIfInBounds_toArray, List.set_cons_zero, List.set_cons_succ])
          refine takeM (i := 9) (M := ([] : List Nat)) (S := SS) (d := some 15) (v := .agg #[.int .i64 (P : Nat), .int .i64 (D : Nat)]) rfl rfl (by kernel_rfl) (by kernel_rfl) (by kernel_rfl) hQP.out (by kernel_rfl) (Or.inl ⟨by rfl, fun w' hS => ?_⟩) s22 ?_
          · obtain ⟨y0, y1, y2, y3⟩ := (hSS.out _).1 hS
            go_simp
          (try simp only [Act.put, List.setIfInBounds_toArray, List.set_cons_zero, List.set_cons_succ])
          have z0 := Blk.cell a22.out 0
          have z1 := Blk.cell a22.out 1
          have f0 := Blk.frozen a22.out 0
          have f1 := Blk.frozen a22.out 1
          simp at z0 z1
          have na : ga ≠ gf := hne.out
          have bS := Lib.hid ((b22.out.setCell (p := ⟨ga, 0, none⟩) hga.out (.int .u64 (x : Nat))).setCell (p := ⟨ga, 1, none⟩) hga.out (.slice A' n' c'))
          have aS : Hid (Blk ((X22.setCell ⟨ga, 0, none⟩ (.int .u64 (x : Nat))).setCell ⟨ga, 1, none⟩ (.slice A' n' c')) ga 111 #[.int .u64 (x : Nat), .slice A' n' c']) := Lib.hid (Blk.set (Blk.set a22.out 0 (.int .u64 (x : Nat))) 1 (.slice A' n' c'))
          have fS : Hid (Blk ((X22.setCell ⟨ga, 0, none⟩ (.int .u64 (x : Nat))).setCell ⟨ga, 1, none⟩ (.slice A' n' c')) gf 36 #[.int .i64 0, .int .i64 0]) := Lib.hid (Blk.far (Blk.far f22.out (p := ⟨ga, 0, none⟩) (fun e => na e.symm) _) (p := ⟨ga, 1, none⟩) (fun e => na e.symm) _)
          refine wpAnyT_ready (rs := [12]) (by kernel_rfl) (by simp) ?_
          intro j hj
          rw [List.mem_singleton] at hj
          subst hj
          refine wpOpT_step (T := fun j w' => j ∈ ([] : List Nat) ∨ SS w') (by rfl) (fun K hK => ?_)
          go_simp
          refine hK.out _ _ ?_ ?_
          · exact .inr (hsS.out _ bS.out)
          clear hK K
          (try simp only [Act.put, List.setIfInBounds_toArray, List.set_cons_zero, List.set_cons_succ])
          clear z0 z1 f0 f1
          generalize (X22.setCell ⟨ga, 0, none⟩ (.int .u64 (x : Nat))).setCell ⟨ga, 1, none⟩ (.slice A' n' c') = Y at *
          have sY := hsS.out _ bS.out
          have z0 := Blk.cell fS.out 0
          have z1 := Blk.cell fS.out 1
          have f0 := Blk.frozen fS.out 0
          have f1 := Blk.frozen fS.out 1
          simp at z0 z1
          have bU := Lib.hid ((bS.out.setCell (p := ⟨gf, 0, none⟩) hgf.out (.int .i64 (P : Nat))).setCell (p := ⟨gf, 1, none⟩) hgf.out (.int .i64 (D : Nat)))
          have fU : Hid (Blk ((Y.setCell ⟨gf, 0, none⟩ (.int .i64 (P : Nat))).setCell ⟨gf, 1, none⟩ (.int .i64 (D : Nat))) gf 36 #[.int .i64 (P : Nat), .int .i64 (D : Nat)]) := Lib.hid (Blk.set (Blk.set fS.out 0 (.int .i64 (P : Nat))) 1 (.int .i64 (D : Nat)))
          have aU : Hid (Blk ((Y.setCell ⟨gf, 0, none⟩ (.int .i64 (P : Nat))).setCell ⟨gf, 1, none⟩ (.int .i64 (D : Nat))) ga 111 #[.int .u64 (x : Nat), .slice A' n' c']) := Lib.hid (Blk.far (Blk.far aS.out (p := ⟨gf, 0, none⟩) na _) (p := ⟨gf, 1, none⟩) na _)
          refine wpAnyT_ready (rs := [13]) (by kernel_rfl) (by simp) ?_
          intro j hj
          rw [List.mem_singleton] at hj
          subst hj
          refine wpOpT_step (T := fun j w' => j ∈ ([] : List Nat) ∨ SS w') (by rfl) (fun K hK => ?_)
          go_simp
          refine hK.out _ _ ?_ ?_
          · exact .inr (hsS.out _ bU.out)
          clear hK K
          (try simp only [Act.put, List.setIfInBounds_toArray, List.set_cons_zero, List.set_cons_succ])
          refine wpAnyT_done (by kernel_rfl) (hQQ.out _ _ ?_) _
          clear hQQ hQP QQ
          clear z0 z1 f0 f1
          go_wp2_with fail
          go_meet
          exact ⟨ga, gf, x, P, D, A', n', c', rfl, rfl, aU.out, fU.out, hDen, bU.out, Lib.hid ⟨hga.out, hgf.out⟩⟩
      · skip
        refine wpOpT_step (T := fun j w' => j ∈ ([] : List Nat) ∨ SS w') (by rfl) (fun K hK => ?_)
        go_simp
        have b23 := Lib.hid (b17.out.alloc b17.out.size (.cells #[.int .i64 0, .int .i64 0] 36))
        have s23 := hsS.out _ b23.out
        have f23 := Lib.hid (Blk.new X17 36 #[.int .i64 0, .int .i64 0])
        have hgf : Hid (W.heap.size ≤ X17.heap.size) := Lib.hid b17.out.size
        have hne : Hid (ga ≠ X17.heap.size) := Lib.hid (by have := a17.out.lt; omega)
        have a23 := Lib.hid (a17.out.alloc (.cells #[.int .i64 0, .int .i64 0] 36))
        refine hK.out _ _ ?_ ?_
        · exact .inr s23
        clear hK K
        (try simp only [Act.put, List.setIfInBounds_toArray, List.set_cons_zero, List.set_cons_succ])
        generalize X17.alloc (.cells #[.int .i64 0, .int .i64 0] 36) = X23 at *
        generalize X17.heap.size = gf at *
        refine wpAnyT_ready (rs := [5]) (by kernel_rfl) (by simp) ?_
        intro j hj
        rw [List.mem_singleton] at hj
        subst hj
        refine wpOpT_step (T := fun j w' => j ∈ ([] : List Nat) ∨ SS w') (by rfl) (fun K hK => ?_)
        go_simp
        (with_reducible refine (kO.out _ (E1.below b23.out (Nat.le_refl _))).mono ?_)
        intro e X24 hq
        obtain ⟨EA, WA, BA, CA, ec, wc, bc, cc, rfl, hE, hW, hBn, hC, hb⟩ := hq
        have b24 := Lib.hid (b23.out.trans (hb.mono b23.out.size))
        have M24 := Lib.hid (show PM X24 EA WA BA CA (outE es inn).length n (outE es inn) (bsO n es inn) from ⟨hE, hW, hBn, hC, T1.keep b24.out⟩)
        have s24 := hsS.out _ b24.out
        have a24 := Lib.hid (a23.out.below hb a23.out.lt)
        have f24 := Lib.hid (f23.out.below hb f23.out.lt)
        clear hE hW hBn hC hb
        refine hK.out _ _ ?_ ?_
        · exact .inr s24
        clear hK K
        (try simp only [Act.put, List.setIfInBounds_toArray, List.set_cons_zero, List.set_cons_succ])
        refine wpAnyT_ready (rs := [6]) (by kernel_rfl) (by simp) ?_
        intro j hj
        rw [List.mem_singleton] at hj
        subst hj
        refine wpOpT_step (T := fun j w' => j ∈ ([] : List Nat) ∨ SS w') (by rfl) (fun K hK => ?_)
        go_simp
        (with_reducible refine (densest_any EA WA BA CA ec wc bc cc _ n (offM n inn) (outE es inn) (bsO n es inn) hprb.out _ M24.out hp.out).mono ?_)
        intro e X25 hq
        obtain ⟨x, P, D, A', n', c', Lf, Sf, rfl, hDen, -, -, -, -, -, hb⟩ := hq
        replace hDen := Lib.hid hDen
        have b25 := Lib.hid (b24.out.trans (hb.mono b24.out.size))
        have s25 := hsS.out _ b25.out
        have a25 := Lib.hid (a24.out.below hb a24.out.lt)
        have f25 := Lib.hid (f24.out.below hb f24.out.lt)
        clear hb
        refine hK.out _ _ ?_ ?_
        · exact .inr s25
        clear hK K
        (try simp only [Act.put, List.setIfInBounds_toArray, List.set_cons_zero, List.set_cons_succ])
        refine takeM (i := 7) (M := ([] : List Nat)) (S := SS) (d := some 6) (v := .tuple #[.agg #[.int .u64 (x : Nat), .slice A' n' c'], .agg #[.int .i64 (P : Nat), .int .i64 (D : Nat)]]) rfl rfl (by kernel_rfl) (by kernel_rfl) (by kernel_rfl) hQP.out (by kernel_rfl) (Or.inl ⟨by rfl, fun w' hS => ?_⟩) s25 ?_
        · obtain ⟨y0, y1, y2, y3⟩ := (hSS.out _).1 hS
          go_simp
        (try simp only [Act.put, List.setIfInBounds_toArray, List.set_cons_zero, List.set_cons_succ])
        refine takeM (i := 8) (M := ([] : List Nat)) (S := SS) (d := some 14) (v := .agg #[.int .u64 (x : Nat), .slice A' n' c']) rfl rfl (by kernel_rfl) (by kernel_rfl) (by kernel_rfl) hQP.out (by kernel_rfl) (Or.inl ⟨by rfl, fun w' hS => ?_⟩) s25 ?_
        · obtain ⟨y0, y1, y2, y3⟩ := (hSS.out _).1 hS
          go_simp
        (try simp only [Act.put, List.setIfInBounds_toArray, List.set_cons_zero, List.set_cons_succ])
        refine takeM (i := 9) (M := ([] : List Nat)) (S := SS) (d := some 15) (v := .agg #[.int .i64 (P : Nat), .int .i64 (D : Nat)]) rfl rfl (by kernel_rfl) (by kernel_rfl) (by kernel_rfl) hQP.out (by kernel_rfl) (Or.inl ⟨by rfl, fun w' hS => ?_⟩) s25 ?_
        · obtain ⟨y0, y1, y2, y3⟩ := (hSS.out _).1 hS
          go_simp
        (try simp only [Act.put, List.setIfInBounds_toArray, List.set_cons_zero, List.set_cons_succ])
        have z0 := Blk.cell a25.out 0
        have z1 := Blk.cell a25.out 1
        have f0 := Blk.frozen a25.out 0
        have f1 := Blk.frozen a25.out 1
        simp at z0 z1
        have na : ga ≠ gf := hne.out
        have bS := Lib.hid ((b25.out.setCell (p := ⟨ga, 0, none⟩) hga.out (.int .u64 (x : Nat))).setCell (p := ⟨ga, 1, none⟩) hga.out (.slice A' n' c'))
        have aS : Hid (Blk ((X25.setCell ⟨ga, 0, none⟩ (.int .u64 (x : Nat))).setCell ⟨ga, 1, none⟩ (.slice A' n' c')) ga 111 #[.int .u64 (x : Nat), .slice A' n' c']) := Lib.hid (Blk.set (Blk.set a25.out 0 (.int .u64 (x : Nat))) 1 (.slice A' n' c'))
        have fS : Hid (Blk ((X25.setCell ⟨ga, 0, none⟩ (.int .u64 (x : Nat))).setCell ⟨ga, 1, none⟩ (.slice A' n' c')) gf 36 #[.int .i64 0, .int .i64 0]) := Lib.hid (Blk.far (Blk.far f25.out (p := ⟨ga, 0, none⟩) (fun e => na e.symm) _) (p := ⟨ga, 1, none⟩) (fun e => na e.symm) _)
        refine wpAnyT_ready (rs := [12]) (by kernel_rfl) (by simp) ?_
        intro j hj
        rw [List.mem_singleton] at hj
        subst hj
        refine wpOpT_step (T := fun j w' => j ∈ ([] : List Nat) ∨ SS w') (by rfl) (fun K hK => ?_)
        go_simp
        refine hK.out _ _ ?_ ?_
        · exact .inr (hsS.out _ bS.out)
        clear hK K
        (try simp only [Act.put, List.setIfInBounds_toArray, List.set_cons_zero, List.set_cons_succ])
        clear z0 z1 f0 f1
        generalize (X25.setCell ⟨ga, 0, none⟩ (.int .u64 (x : Nat))).setCell ⟨ga, 1, none⟩ (.slice A' n' c') = Y at *
        have sY := hsS.out _ bS.out
        have z0 := Blk.cell fS.out 0
        have z1 := Blk.cell fS.out 1
        have f0 := Blk.frozen fS.out 0
        have f1 := Blk.frozen fS.out 1
        simp at z0 z1
        have bU := Lib.hid ((bS.out.setCell (p := ⟨gf, 0, none⟩) hgf.out (.int .i64 (P : Nat))).setCell (p := ⟨gf, 1, none⟩) hgf.out (.int .i64 (D : Nat)))
        have fU : Hid (Blk ((Y.setCell ⟨gf, 0, none⟩ (.int .i64 (P : Nat))).setCell ⟨gf, 1, none⟩ (.int .i64 (D : Nat))) gf 36 #[.int .i64 (P : Nat), .int .i64 (D : Nat)]) := Lib.hid (Blk.set (Blk.set fS.out 0 (.int .i64 (P : Nat))) 1 (.int .i64 (D : Nat)))
        have aU : Hid (Blk ((Y.setCell ⟨gf, 0, none⟩ (.int .i64 (P : Nat))).setCell ⟨gf, 1, none⟩ (.int .i64 (D : Nat))) ga 111 #[.int .u64 (x : Nat), .slice A' n' c']) := Lib.hid (Blk.far (Blk.far aS.out (p := ⟨gf, 0, none⟩) na _) (p := ⟨gf, 1, none⟩) na _)
        refine wpAnyT_ready (rs := [13]) (by kernel_rfl) (by simp) ?_
        intro j hj
        rw [List.mem_singleton] at hj
        subst hj
        refine wpOpT_step (T := fun j w' => j ∈ ([] : List Nat) ∨ SS w') (by rfl) (fun K hK => ?_)
        go_simp
        refine hK.out _ _ ?_ ?_
        · exact .inr (hsS.out _ bU.out)
        clear hK K
        (try simp only [Act.put, List.setIfInBounds_toArray, List.set_cons_zero, List.set_cons_succ])
        refine wpAnyT_done (by kernel_rfl) (hQQ.out _ _ ?_) _
        clear hQQ hQP QQ
        clear z0 z1 f0 f1
        go_wp2_with fail
        go_meet
        exact ⟨ga, gf, x, P, D, A', n', c', rfl, rfl, aU.out, fU.out, hDen, bU.out, Lib.hid ⟨hga.out, hgf.out⟩⟩
    · skip
      refine wpOpT_step (T := fun j w' => j ∈ ([] : List Nat) ∨ SS w') (by rfl) (fun K hK => ?_)
      go_simp
      have b26 := Lib.hid (b0.out.alloc b0.out.size (.cells #[.int .i64 0, .int .i64 0] 36))
      have s26 := hsS.out _ b26.out
      have f26 := Lib.hid (Blk.new X0 36 #[.int .i64 0, .int .i64 0])
      have hgf : Hid (W.heap.size ≤ X0.heap.size) := Lib.hid b0.out.size
      refine hK.out _ _ ?_ ?_
      · exact .inr s26
      clear hK K
      (try simp only [Act.put, List.setIfInBounds_toArray, List.set_cons_zero, List.set_cons_succ])
      generalize X0.alloc (.cells #[.int .i64 0, .int .i64 0] 36) = X26 at *
      generalize X0.heap.size = gf at *
      refine wpAnyT_ready (rs := [5, 10]) (by kernel_rfl) (by simp) ?_
      intro j hj
      simp only [List.mem_cons, List.not_mem_nil, or_false] at hj
      rcases hj with rfl | rfl
      · skip
        refine wpOpT_step (T := fun j w' => j ∈ ([] : List Nat) ∨ SS w') (by rfl) (fun K hK => ?_)
        go_simp
        (with_reducible refine (kO.out _ (E1.below b26.out (Nat.le_refl _))).mono ?_)
        intro e X27 hq
        obtain ⟨EA, WA, BA, CA, ec, wc, bc, cc, rfl, hE, hW, hBn, hC, hb⟩ := hq
        have b27 := Lib.hid (b26.out.trans (hb.mono b26.out.size))
        have M27 := Lib.hid (show PM X27 EA WA BA CA (outE es inn).length n (outE es inn) (bsO n es inn) from ⟨hE, hW, hBn, hC, T1.keep b27.out⟩)
        have s27 := hsS.out _ b27.out
        have f27 := Lib.hid (f26.out.below hb f26.out.lt)
        clear hE hW hBn hC hb
        refine hK.out _ _ ?_ ?_
        · exact .inr s27
        clear hK K
        (try simp only [Act.put, List.setIfInBounds_toArray, List.set_cons_zero, List.set_cons_succ])
        refine wpAnyT_ready (rs := [6, 10]) (by kernel_rfl) (by simp) ?_
        intro j hj
        simp only [List.mem_cons, List.not_mem_nil, or_false] at hj
        rcases hj with rfl | rfl
        · skip
          refine wpOpT_step (T := fun j w' => j ∈ ([] : List Nat) ∨ SS w') (by rfl) (fun K hK => ?_)
          go_simp
          (with_reducible refine (densest_any EA WA BA CA ec wc bc cc _ n (offM n inn) (outE es inn) (bsO n es inn) hprb.out _ M27.out hp.out).mono ?_)
          intro e X28 hq
          obtain ⟨x, P, D, A', n', c', Lf, Sf, rfl, hDen, -, -, -, -, -, hb⟩ := hq
          replace hDen := Lib.hid hDen
          have b28 := Lib.hid (b27.out.trans (hb.mono b27.out.size))
          have s28 := hsS.out _ b28.out
          have f28 := Lib.hid (f27.out.below hb f27.out.lt)
          clear hb
          refine hK.out _ _ ?_ ?_
          · exact .inr s28
          clear hK K
          (try simp only [Act.put, List.setIfInBounds_toArray, List.set_cons_zero, List.set_cons_succ])
          refine takeM (i := 7) (M := ([] : List Nat)) (S := SS) (d := some 6) (v := .tuple #[.agg #[.int .u64 (x : Nat), .slice A' n' c'], .agg #[.int .i64 (P : Nat), .int .i64 (D : Nat)]]) rfl rfl (by kernel_rfl) (by kernel_rfl) (by kernel_rfl) hQP.out (by kernel_rfl) (Or.inl ⟨by rfl, fun w' hS => ?_⟩) s28 ?_
          · obtain ⟨y0, y1, y2, y3⟩ := (hSS.out _).1 hS
            go_simp
          (try simp only [Act.put, List.setIfInBounds_toArray, List.set_cons_zero, List.set_cons_succ])
          refine takeM (i := 8) (M := ([] : List Nat)) (S := SS) (d := some 14) (v := .agg #[.int .u64 (x : Nat), .slice A' n' c']) rfl rfl (by kernel_rfl) (by kernel_rfl) (by kernel_rfl) hQP.out (by kernel_rfl) (Or.inl ⟨by rfl, fun w' hS => ?_⟩) s28 ?_
          · obtain ⟨y0, y1, y2, y3⟩ := (hSS.out _).1 hS
            go_simp
          (try simp only [Act.put, List.setIfInBounds_toArray, List.set_cons_zero, List.set_cons_succ])
          refine takeM (i := 9) (M := ([] : List Nat)) (S := SS) (d := some 15) (v := .agg #[.int .i64 (P : Nat), .int .i64 (D : Nat)]) rfl rfl (by kernel_rfl) (by kernel_rfl) (by kernel_rfl) hQP.out (by kernel_rfl) (Or.inl ⟨by rfl, fun w' hS => ?_⟩) s28 ?_
          · obtain ⟨y0, y1, y2, y3⟩ := (hSS.out _).1 hS
            go_simp
          (try simp only [Act.put, List.setIfInBounds_toArray, List.set_cons_zero, List.set_cons_succ])
          refine wpAnyT_ready (rs := [10]) (by kernel_rfl) (by simp) ?_
          intro j hj
          rw [List.mem_singleton] at hj
          subst hj
          refine wpOpT_step (T := fun j w' => j ∈ ([] : List Nat) ∨ SS w') (by rfl) (fun K hK => ?_)
          go_simp
          have b29 := Lib.hid (b28.out.alloc b28.out.size (.cells #[.int .u64 0, .slice none 0 0] 111))
          have s29 := hsS.out _ b29.out
          have a29 := Lib.hid (Blk.new X28 111 #[.int .u64 0, .slice none 0 0])
          have hga : Hid (W.heap.size ≤ X28.heap.size) := Lib.hid b28.out.size
          have hne : Hid (gf ≠ X28.heap.size) := Lib.hid (by have := f28.out.lt; omega)
          have f29 := Lib.hid (f28.out.alloc (.cells #[.int .u64 0, .slice none 0 0] 111))
          refine hK.out _ _ ?_ ?_
          · exact .inr s29
          clear hK K
          (try simp only [Act.put, List.setIfInBounds_toArray, List.set_cons_zero, List.set_cons_succ])
          generalize X28.alloc (.cells #[.int .u64 0, .slice none 0 0] 111) = X29 at *
          generalize X28.heap.size = ga at *
          have z0 := Blk.cell a29.out 0
          have z1 := Blk.cell a29.out 1
          have f0 := Blk.frozen a29.out 0
          have f1 := Blk.frozen a29.out 1
          simp at z0 z1
          have na : ga ≠ gf := (fun e => hne.out e.symm)
          have bS := Lib.hid ((b29.out.setCell (p := ⟨ga, 0, none⟩) hga.out (.int .u64 (x : Nat))).setCell (p := ⟨ga, 1, none⟩) hga.out (.slice A' n' c'))
          have aS : Hid (Blk ((X29.setCell ⟨ga, 0, none⟩ (.int .u64 (x : Nat))).setCell ⟨ga, 1, none⟩ (.slice A' n' c')) ga 111 #[.int .u64 (x : Nat), .slice A' n' c']) := Lib.hid (Blk.set (Blk.set a29.out 0 (.int .u64 (x : Nat))) 1 (.slice A' n' c'))
          have fS : Hid (Blk ((X29.setCell ⟨ga, 0, none⟩ (.int .u64 (x : Nat))).setCell ⟨ga, 1, none⟩ (.slice A' n' c')) gf 36 #[.int .i64 0, .int .i64 0]) := Lib.hid (Blk.far (Blk.far f29.out (p := ⟨ga, 0, none⟩) (fun e => na e.symm) _) (p := ⟨ga, 1, none⟩) (fun e => na e.symm) _)
          refine wpAnyT_ready (rs := [12]) (by kernel_rfl) (by simp) ?_
          intro j hj
          rw [List.mem_singleton] at hj
          subst hj
          refine wpOpT_step (T := fun j w' => j ∈ ([] : List Nat) ∨ SS w') (by rfl) (fun K hK => ?_)
          go_simp
          refine hK.out _ _ ?_ ?_
          · exact .inr (hsS.out _ bS.out)
          clear hK K
          (try simp only [Act.put, List.setIfInBounds_toArray, List.set_cons_zero, List.set_cons_succ])
          clear z0 z1 f0 f1
          generalize (X29.setCell ⟨ga, 0, none⟩ (.int .u64 (x : Nat))).setCell ⟨ga, 1, none⟩ (.slice A' n' c') = Y at *
          have sY := hsS.out _ bS.out
          have z0 := Blk.cell fS.out 0
          have z1 := Blk.cell fS.out 1
          have f0 := Blk.frozen fS.out 0
          have f1 := Blk.frozen fS.out 1
          simp at z0 z1
          have bU := Lib.hid ((bS.out.setCell (p := ⟨gf, 0, none⟩) hgf.out (.int .i64 (P : Nat))).setCell (p := ⟨gf, 1, none⟩) hgf.out (.int .i64 (D : Nat)))
          have fU : Hid (Blk ((Y.setCell ⟨gf, 0, none⟩ (.int .i64 (P : Nat))).setCell ⟨gf, 1, none⟩ (.int .i64 (D : Nat))) gf 36 #[.int .i64 (P : Nat), .int .i64 (D : Nat)]) := Lib.hid (Blk.set (Blk.set fS.out 0 (.int .i64 (P : Nat))) 1 (.int .i64 (D : Nat)))
          have aU : Hid (Blk ((Y.setCell ⟨gf, 0, none⟩ (.int .i64 (P : Nat))).setCell ⟨gf, 1, none⟩ (.int .i64 (D : Nat))) ga 111 #[.int .u64 (x : Nat), .slice A' n' c']) := Lib.hid (Blk.far (Blk.far aS.out (p := ⟨gf, 0, none⟩) na _) (p := ⟨gf, 1, none⟩) na _)
          refine wpAnyT_ready (rs := [13]) (by kernel_rfl) (by simp) ?_
          intro j hj
          rw [List.mem_singleton] at hj
          subst hj
          refine wpOpT_step (T := fun j w' => j ∈ ([] : List Nat) ∨ SS w') (by rfl) (fun K hK => ?_)
          go_simp
          refine hK.out _ _ ?_ ?_
          · exact .inr (hsS.out _ bU.out)
          clear hK K
          (try simp only [Act.put, List.setIfInBounds_toArray, List.set_cons_zero, List.set_cons_succ])
          refine wpAnyT_done (by kernel_rfl) (hQQ.out _ _ ?_) _
          clear hQQ hQP QQ
          clear z0 z1 f0 f1
          go_wp2_with fail
          go_meet
          exact ⟨ga, gf, x, P, D, A', n', c', rfl, rfl, aU.out, fU.out, hDen, bU.out, Lib.hid ⟨hga.out, hgf.out⟩⟩
        · skip
          refine wpOpT_step (T := fun j w' => j ∈ ([] : List Nat) ∨ SS w') (by rfl) (fun K hK => ?_)
          go_simp
          have b30 := Lib.hid (b27.out.alloc b27.out.size (.cells #[.int .u64 0, .slice none 0 0] 111))
          have s30 := hsS.out _ b30.out
          have a30 := Lib.hid (Blk.new X27 111 #[.int .u64 0, .slice none 0 0])
          have hga : Hid (W.heap.size ≤ X27.heap.size) := Lib.hid b27.out.size
          have hne : Hid (gf ≠ X27.heap.size) := Lib.hid (by have := f27.out.lt; omega)
          have f30 := Lib.hid (f27.out.alloc (.cells #[.int .u64 0, .slice none 0 0] 111))
          have M30 := Lib.hid (M27.out.below ((Below.refl X27.heap.size X27).alloc (Nat.le_refl _) (.cells #[.int .u64 0, .slice none 0 0] 111)))
          refine hK.out _ _ ?_ ?_
          · exact .inr s30
          clear hK K
          (try simp only [Act.put, List.setIfInBounds_toArray, List.set_cons_zero, List.set_cons_succ])
          generalize X27.alloc (.cells #[.int .u64 0, .slice none 0 0] 111) = X30 at *
          generalize X27.heap.size = ga at *
          refine wpAnyT_ready (rs := [6]) (by kernel_rfl) (by simp) ?_
          intro j hj
          rw [List.mem_singleton] at hj
          subst hj
          refine wpOpT_step (T := fun j w' => j ∈ ([] : List Nat) ∨ SS w') (by rfl) (fun K hK => ?_)
          go_simp
          (with_reducible refine (densest_any EA WA BA CA ec wc bc cc _ n (offM n inn) (outE es inn) (bsO n es inn) hprb.out _ M30.out hp.out).mono ?_)
          intro e X31 hq
          obtain ⟨x, P, D, A', n', c', Lf, Sf, rfl, hDen, -, -, -, -, -, hb⟩ := hq
          replace hDen := Lib.hid hDen
          have b31 := Lib.hid (b30.out.trans (hb.mono b30.out.size))
          have s31 := hsS.out _ b31.out
          have a31 := Lib.hid (a30.out.below hb a30.out.lt)
          have f31 := Lib.hid (f30.out.below hb f30.out.lt)
          clear hb
          refine hK.out _ _ ?_ ?_
          · exact .inr s31
          clear hK K
          (try simp only [Act.put, List.setIfInBounds_toArray, List.set_cons_zero, List.set_cons_succ])
          refine takeM (i := 7) (M := ([] : List Nat)) (S := SS) (d := some 6) (v := .tuple #[.agg #[.int .u64 (x : Nat), .slice A' n' c'], .agg #[.int .i64 (P : Nat), .int .i64 (D : Nat)]]) rfl rfl (by kernel_rfl) (by kernel_rfl) (by kernel_rfl) hQP.out (by kernel_rfl) (Or.inl ⟨by rfl, fun w' hS => ?_⟩) s31 ?_
          · obtain ⟨y0, y1, y2, y3⟩ := (hSS.out _).1 hS
            go_simp
          (try simp only [Act.put, List.setIfInBounds_toArray, List.set_cons_zero, List.set_cons_succ])
          refine takeM (i := 8) (M := ([] : List Nat)) (S := SS) (d := some 14) (v := .agg #[.int .u64 (x : Nat), .slice A' n' c']) rfl rfl (by kernel_rfl) (by kernel_rfl) (by kernel_rfl) hQP.out (by kernel_rfl) (Or.inl ⟨by rfl, fun w' hS => ?_⟩) s31 ?_
          · obtain ⟨y0, y1, y2, y3⟩ := (hSS.out _).1 hS
            go_simp
          (try simp only [Act.put, List.setIfInBounds_toArray, List.set_cons_zero, List.set_cons_succ])
          refine takeM (i := 9) (M := ([] : List Nat)) (S := SS) (d := some 15) (v := .agg #[.int .i64 (P : Nat), .int .i64 (D : Nat)]) rfl rfl (by kernel_rfl) (by kernel_rfl) (by kernel_rfl) hQP.out (by kernel_rfl) (Or.inl ⟨by rfl, fun w' hS => ?_⟩) s31 ?_
          · obtain ⟨y0, y1, y2, y3⟩ := (hSS.out _).1 hS
            go_simp
          (try simp only [Act.put, List.setIfInBounds_toArray, List.set_cons_zero, List.set_cons_succ])
          have z0 := Blk.cell a31.out 0
          have z1 := Blk.cell a31.out 1
          have f0 := Blk.frozen a31.out 0
          have f1 := Blk.frozen a31.out 1
          simp at z0 z1
          have na : ga ≠ gf := (fun e => hne.out e.symm)
          have bS := Lib.hid ((b31.out.setCell (p := ⟨ga, 0, none⟩) hga.out (.int .u64 (x : Nat))).setCell (p := ⟨ga, 1, none⟩) hga.out (.slice A' n' c'))
          have aS : Hid (Blk ((X31.setCell ⟨ga, 0, none⟩ (.int .u64 (x : Nat))).setCell ⟨ga, 1, none⟩ (.slice A' n' c')) ga 111 #[.int .u64 (x : Nat), .slice A' n' c']) := Lib.hid (Blk.set (Blk.set a31.out 0 (.int .u64 (x : Nat))) 1 (.slice A' n' c'))
          have fS : Hid (Blk ((X31.setCell ⟨ga, 0, none⟩ (.int .u64 (x : Nat))).setCell ⟨ga, 1, none⟩ (.slice A' n' c')) gf 36 #[.int .i64 0, .int .i64 0]) := Lib.hid (Blk.far (Blk.far f31.out (p := ⟨ga, 0, none⟩) (fun e => na e.symm) _) (p := ⟨ga, 1, none⟩) (fun e => na e.symm) _)
          refine wpAnyT_ready (rs := [12]) (by kernel_rfl) (by simp) ?_
          intro j hj
          rw [List.mem_singleton] at hj
          subst hj
          refine wpOpT_step (T := fun j w' => j ∈ ([] : List Nat) ∨ SS w') (by rfl) (fun K hK => ?_)
          go_simp
          refine hK.out _ _ ?_ ?_
          · exact .inr (hsS.out _ bS.out)
          clear hK K
          (try simp only [Act.put, List.setIfInBounds_toArray, List.set_cons_zero, List.set_cons_succ])
          clear z0 z1 f0 f1
          generalize (X31.setCell ⟨ga, 0, none⟩ (.int .u64 (x : Nat))).setCell ⟨ga, 1, none⟩ (.slice A' n' c') = Y at *
          have sY := hsS.out _ bS.out
          have z0 := Blk.cell fS.out 0
          have z1 := Blk.cell fS.out 1
          have f0 := Blk.frozen fS.out 0
          have f1 := Blk.frozen fS.out 1
          simp at z0 z1
          have bU := Lib.hid ((bS.out.setCell (p := ⟨gf, 0, none⟩) hgf.out (.int .i64 (P : Nat))).setCell (p := ⟨gf, 1, none⟩) hgf.out (.int .i64 (D : Nat)))
          have fU : Hid (Blk ((Y.setCell ⟨gf, 0, none⟩ (.int .i64 (P : Nat))).setCell ⟨gf, 1, none⟩ (.int .i64 (D : Nat))) gf 36 #[.int .i64 (P : Nat), .int .i64 (D : Nat)]) := Lib.hid (Blk.set (Blk.set fS.out 0 (.int .i64 (P : Nat))) 1 (.int .i64 (D : Nat)))
          have aU : Hid (Blk ((Y.setCell ⟨gf, 0, none⟩ (.int .i64 (P : Nat))).setCell ⟨gf, 1, none⟩ (.int .i64 (D : Nat))) ga 111 #[.int .u64 (x : Nat), .slice A' n' c']) := Lib.hid (Blk.far (Blk.far aS.out (p := ⟨gf, 0, none⟩) na _) (p := ⟨gf, 1, none⟩) na _)
          refine wpAnyT_ready (rs := [13]) (by kernel_rfl) (by simp) ?_
          intro j hj
          rw [List.mem_singleton] at hj
          subst hj
          refine wpOpT_step (T := fun j w' => j ∈ ([] : List Nat) ∨ SS w') (by rfl) (fun K hK => ?_)
          go_simp
          refine hK.out _ _ ?_ ?_
          · exact .inr (hsS.out _ bU.out)
          clear hK K
          (try simp only [Act.put, List.setIfInBounds_toArray, List.set_cons_zero, List.set_cons_succ])
          refine wpAnyT_done (by kernel_rfl) (hQQ.out _ _ ?_) _
          clear hQQ hQP QQ
          clear z0 z1 f0 f1
          go_wp2_with fail
          go_meet
          exact ⟨ga, gf, x, P, D, A', n', c', rfl, rfl, aU.out, fU.out, hDen, bU.out, Lib.hid ⟨hga.out, hgf.out⟩⟩
      · skip
        refine wpOpT_step (T := fun j w' => j ∈ ([] : List Nat) ∨ SS w') (by rfl) (fun K hK => ?_)
        go_simp
        have b32 := Lib.hid (b26.out.alloc b26.out.size (.cells #[.int .u64 0, .slice none 0 0] 111))
        have s32 := hsS.out _ b32.out
        have a32 := Lib.hid (Blk.new X26 111 #[.int .u64 0, .slice none 0 0])
        have hga : Hid (W.heap.size ≤ X26.heap.size) := Lib.hid b26.out.size
        have hne : Hid (gf ≠ X26.heap.size) := Lib.hid (by have := f26.out.lt; omega)
        have f32 := Lib.hid (f26.out.alloc (.cells #[.int .u64 0, .slice none 0 0] 111))
        refine hK.out _ _ ?_ ?_
        · exact .inr s32
        clear hK K
        (try simp only [Act.put, List.setIfInBounds_toArray, List.set_cons_zero, List.set_cons_succ])
        generalize X26.alloc (.cells #[.int .u64 0, .slice none 0 0] 111) = X32 at *
        generalize X26.heap.size = ga at *
        refine wpAnyT_ready (rs := [5]) (by kernel_rfl) (by simp) ?_
        intro j hj
        rw [List.mem_singleton] at hj
        subst hj
        refine wpOpT_step (T := fun j w' => j ∈ ([] : List Nat) ∨ SS w') (by rfl) (fun K hK => ?_)
        go_simp
        (with_reducible refine (kO.out _ (E1.below b32.out (Nat.le_refl _))).mono ?_)
        intro e X33 hq
        obtain ⟨EA, WA, BA, CA, ec, wc, bc, cc, rfl, hE, hW, hBn, hC, hb⟩ := hq
        have b33 := Lib.hid (b32.out.trans (hb.mono b32.out.size))
        have M33 := Lib.hid (show PM X33 EA WA BA CA (outE es inn).length n (outE es inn) (bsO n es inn) from ⟨hE, hW, hBn, hC, T1.keep b33.out⟩)
        have s33 := hsS.out _ b33.out
        have a33 := Lib.hid (a32.out.below hb a32.out.lt)
        have f33 := Lib.hid (f32.out.below hb f32.out.lt)
        clear hE hW hBn hC hb
        refine hK.out _ _ ?_ ?_
        · exact .inr s33
        clear hK K
        (try simp only [Act.put, List.setIfInBounds_toArray, List.set_cons_zero, List.set_cons_succ])
        refine wpAnyT_ready (rs := [6]) (by kernel_rfl) (by simp) ?_
        intro j hj
        rw [List.mem_singleton] at hj
        subst hj
        refine wpOpT_step (T := fun j w' => j ∈ ([] : List Nat) ∨ SS w') (by rfl) (fun K hK => ?_)
        go_simp
        (with_reducible refine (densest_any EA WA BA CA ec wc bc cc _ n (offM n inn) (outE es inn) (bsO n es inn) hprb.out _ M33.out hp.out).mono ?_)
        intro e X34 hq
        obtain ⟨x, P, D, A', n', c', Lf, Sf, rfl, hDen, -, -, -, -, -, hb⟩ := hq
        replace hDen := Lib.hid hDen
        have b34 := Lib.hid (b33.out.trans (hb.mono b33.out.size))
        have s34 := hsS.out _ b34.out
        have a34 := Lib.hid (a33.out.below hb a33.out.lt)
        have f34 := Lib.hid (f33.out.below hb f33.out.lt)
        clear hb
        refine hK.out _ _ ?_ ?_
        · exact .inr s34
        clear hK K
        (try simp only [Act.put, List.setIfInBounds_toArray, List.set_cons_zero, List.set_cons_succ])
        refine takeM (i := 7) (M := ([] : List Nat)) (S := SS) (d := some 6) (v := .tuple #[.agg #[.int .u64 (x : Nat), .slice A' n' c'], .agg #[.int .i64 (P : Nat), .int .i64 (D : Nat)]]) rfl rfl (by kernel_rfl) (by kernel_rfl) (by kernel_rfl) hQP.out (by kernel_rfl) (Or.inl ⟨by rfl, fun w' hS => ?_⟩) s34 ?_
        · obtain ⟨y0, y1, y2, y3⟩ := (hSS.out _).1 hS
          go_simp
        (try simp only [Act.put, List.setIfInBounds_toArray, List.set_cons_zero, List.set_cons_succ])
        refine takeM (i := 8) (M := ([] : List Nat)) (S := SS) (d := some 14) (v := .agg #[.int .u64 (x : Nat), .slice A' n' c']) rfl rfl (by kernel_rfl) (by kernel_rfl) (by kernel_rfl) hQP.out (by kernel_rfl) (Or.inl ⟨by rfl, fun w' hS => ?_⟩) s34 ?_
        · obtain ⟨y0, y1, y2, y3⟩ := (hSS.out _).1 hS
          go_simp
        (try simp only [Act.put, List.setIfInBounds_toArray, List.set_cons_zero, List.set_cons_succ])
        refine takeM (i := 9) (M := ([] : List Nat)) (S := SS) (d := some 15) (v := .agg #[.int .i64 (P : Nat), .int .i64 (D : Nat)]) rfl rfl (by kernel_rfl) (by kernel_rfl) (by kernel_rfl) hQP.out (by kernel_rfl) (Or.inl ⟨by rfl, fun w' hS => ?_⟩) s34 ?_
        · obtain ⟨y0, y1, y2, y3⟩ := (hSS.out _).1 hS
          go_simp
        (try simp only [Act.put, List.setIfInBounds_toArray, List.set_cons_zero, List.set_cons_succ])
        have z0 := Blk.cell a34.out 0
        have z1 := Blk.cell a34.out 1
        have f0 := Blk.frozen a34.out 0
        have f1 := Blk.frozen a34.out 1
        simp at z0 z1
        have na : ga ≠ gf := (fun e => hne.out e.symm)
        have bS := Lib.hid ((b34.out.setCell (p := ⟨ga, 0, none⟩) hga.out (.int .u64 (x : Nat))).setCell (p := ⟨ga, 1, none⟩) hga.out (.slice A' n' c'))
        have aS : Hid (Blk ((X34.setCell ⟨ga, 0, none⟩ (.int .u64 (x : Nat))).setCell ⟨ga, 1, none⟩ (.slice A' n' c')) ga 111 #[.int .u64 (x : Nat), .slice A' n' c']) := Lib.hid (Blk.set (Blk.set a34.out 0 (.int .u64 (x : Nat))) 1 (.slice A' n' c'))
        have fS : Hid (Blk ((X34.setCell ⟨ga, 0, none⟩ (.int .u64 (x : Nat))).setCell ⟨ga, 1, none⟩ (.slice A' n' c')) gf 36 #[.int .i64 0, .int .i64 0]) := Lib.hid (Blk.far (Blk.far f34.out (p := ⟨ga, 0, none⟩) (fun e => na e.symm) _) (p := ⟨ga, 1, none⟩) (fun e => na e.symm) _)
        refine wpAnyT_ready (rs := [12]) (by kernel_rfl) (by simp) ?_
        intro j hj
        rw [List.mem_singleton] at hj
        subst hj
        refine wpOpT_step (T := fun j w' => j ∈ ([] : List Nat) ∨ SS w') (by rfl) (fun K hK => ?_)
        go_simp
        refine hK.out _ _ ?_ ?_
        · exact .inr (hsS.out _ bS.out)
        clear hK K
        (try simp only [Act.put, List.setIfInBounds_toArray, List.set_cons_zero, List.set_cons_succ])
        clear z0 z1 f0 f1
        generalize (X34.setCell ⟨ga, 0, none⟩ (.int .u64 (x : Nat))).setCell ⟨ga, 1, none⟩ (.slice A' n' c') = Y at *
        have sY := hsS.out _ bS.out
        have z0 := Blk.cell fS.out 0
        have z1 := Blk.cell fS.out 1
        have f0 := Blk.frozen fS.out 0
        have f1 := Blk.frozen fS.out 1
        simp at z0 z1
        have bU := Lib.hid ((bS.out.setCell (p := ⟨gf, 0, none⟩) hgf.out (.int .i64 (P : Nat))).setCell (p := ⟨gf, 1, none⟩) hgf.out (.int .i64 (D : Nat)))
        have fU : Hid (Blk ((Y.setCell ⟨gf, 0, none⟩ (.int .i64 (P : Nat))).setCell ⟨gf, 1, none⟩ (.int .i64 (D : Nat))) gf 36 #[.int .i64 (P : Nat), .int .i64 (D : Nat)]) := Lib.hid (Blk.set (Blk.set fS.out 0 (.int .i64 (P : Nat))) 1 (.int .i64 (D : Nat)))
        have aU : Hid (Blk ((Y.setCell ⟨gf, 0, none⟩ (.int .i64 (P : Nat))).setCell ⟨gf, 1, none⟩ (.int .i64 (D : Nat))) ga 111 #[.int .u64 (x : Nat), .slice A' n' c']) := Lib.hid (Blk.far (Blk.far aS.out (p := ⟨gf, 0, none⟩) na _) (p := ⟨gf, 1, none⟩) na _)
        refine wpAnyT_ready (rs := [13]) (by kernel_rfl) (by simp) ?_
        intro j hj
        rw [List.mem_singleton] at hj
        subst hj
        refine wpOpT_step (T := fun j w' => j ∈ ([] : List Nat) ∨ SS w') (by rfl) (fun K hK => ?_)
        go_simp
        refine hK.out _ _ ?_ ?_
        · exact .inr (hsS.out _ bU.out)
        clear hK K
        (try simp only [Act.put, List.setIfInBounds_toArray, List.set_cons_zero, List.set_cons_succ])
        refine wpAnyT_done (by kernel_rfl) (hQQ.out _ _ ?_) _
        clear hQQ hQP QQ
        clear z0 z1 f0 f1
        go_wp2_with fail
        go_meet
        exact ⟨ga, gf, x, P, D, A', n', c', rfl, rfl, aU.out, fU.out, hDen, bU.out, Lib.hid ⟨hga.out, hgf.out⟩⟩
  case rest =>
    obtain ⟨gs, gf, x, P, D, A', n', c', rfl, rfl, aS, fS, hDen, b2, hgg⟩ := hcut
    obtain ⟨w2, rfl⟩ : ∃ w2, w2 = wc := ⟨_, rfl⟩
    have hLv := Lib.hid (Lvl.of_den hDen.out)
    have hx64 : x < 18446744073709551616 := mask_lt (Nat.le_refl 64) fun v hv => Nat.lt_of_lt_of_le (hLv.out.off v hv).1 hn
    have bP2 := bP.below b2 bP.lt
    have L2 := L1.below b2 L1.lt
    have hlen := bl_length x
    have hpx : Hid (0 < pop x) := Lib.hid hDen.out.pos
    have O2 := O1.below b2
    have T2 := T1.keep b2
    clear bG bP E1 T1 L1 O1 kO
    go_upto_region 3 with fail
    obtain ⟨SS, hSS⟩ : ∃ SS : World → Prop, ∀ w', SS w' ↔ (w'.cell? ⟨w.heap.size, 0, none⟩ = some (.pointer (some ⟨gl, 0, none⟩)) ∧ w'.cell? ⟨gl, 1, none⟩ = some v ∧ w'.cell? ⟨gs, 0, none⟩ = some (.int .u64 (x : Nat)) ∧ w'.cell? ⟨gf, 0, none⟩ = some (.int .i64 (P : Nat)) ∧ w'.cell? ⟨gf, 1, none⟩ = some (.int .i64 (D : Nat))) := ⟨fun w' => _, fun _ => Iff.rfl⟩
    have hsS : Hid (∀ w', Blk w' w.heap.size 163 #[.pointer (some ⟨gl, 0, none⟩)] → Blk w' gl 128 #[.int .u64 (inn : Nat), v] → Blk w' gs 111 #[.int .u64 (x : Nat), .slice A' n' c'] → Blk w' gf 36 #[.int .i64 (P : Nat), .int .i64 (D : Nat)] → SS w') := Lib.hid (fun w' h1 h2 h3 h4 => (hSS w').2 ⟨by have := Blk.cell h1 0; simpa using this, by have := Blk.cell h2 1; simpa using this, by have := Blk.cell h3 0; simpa using this, by have := Blk.cell h4 0; simpa using this, by have := Blk.cell h4 1; simpa using this⟩)
    replace hSS := Lib.hid hSS
    refine wp_region_TS (T := fun j w' => j ∈ ([5, 12, 14] : List Nat) ∨ SS w') (by kernel_rfl) ?_
    intro QQ hQQ hQP
    have sX := hsS.out _ bP2.drew L2.drew aS.drew fS.drew
    have p0 := Lib.hid bP2.drew
    have l0 := Lib.hid L2.drew
    have a0 := Lib.hid aS.drew
    have c0 := Lib.hid fS.drew
    have o0 := Lib.hid (O2.below ((Below.refl w2.heap.size w2).drew))
    have t0 : Tab w2.drew := T2.keep (Below.refl _ w2).drew
    have b0 := Lib.hid b2.drew
    clear bP2 L2 aS fS O2 T2 b2
    generalize w2.drew = X at *
    refine takeU (i := 5) (M := [5, 12, 14]) (S := SS) (d := some 22) (v := .pointer (some ⟨gs, 0, none⟩)) rfl rfl (by kernel_rfl) (by kernel_rfl) (by kernel_rfl) hQP.out (by decide) (Or.inl ⟨by rfl, fun w' _ => ?_⟩) ?_
    · go_simp
    (try simp only [Act.put, List.setIfInBounds_toArray, List.set_cons_zero, List.set_cons_succ])
    refine takeM (i := 0) (M := [5, 12, 14]) (S := SS) (d := some 17) (v := .pointer (some ⟨gl, 0, none⟩)) rfl rfl (by kernel_rfl) (by kernel_rfl) (by kernel_rfl) hQP.out (by kernel_rfl) (Or.inl ⟨by rfl, fun w' hS => ?_⟩) sX ?_
    · obtain ⟨y0, y1, y2, y3, y4⟩ := (hSS.out _).1 hS
      go_simp
    (try simp only [Act.put, List.setIfInBounds_toArray, List.set_cons_zero, List.set_cons_succ])
    refine takeM (i := 1) (M := [5, 12, 14]) (S := SS) (d := some 18) (v := .pointer (some ⟨gl, 0, none⟩)) rfl rfl (by kernel_rfl) (by kernel_rfl) (by kernel_rfl) hQP.out (by kernel_rfl) (Or.inl ⟨by rfl, fun w' hS => ?_⟩) sX ?_
    · obtain ⟨y0, y1, y2, y3, y4⟩ := (hSS.out _).1 hS
      go_simp
    (try simp only [Act.put, List.setIfInBounds_toArray, List.set_cons_zero, List.set_cons_succ])
    refine takeM (i := 2) (M := [5, 12, 14]) (S := SS) (d := some 19) (v := .pointer (some ⟨gl, 0, none⟩)) rfl rfl (by kernel_rfl) (by kernel_rfl) (by kernel_rfl) hQP.out (by kernel_rfl) (Or.inl ⟨by rfl, fun w' hS => ?_⟩) sX ?_
    · obtain ⟨y0, y1, y2, y3, y4⟩ := (hSS.out _).1 hS
      go_simp
    (try simp only [Act.put, List.setIfInBounds_toArray, List.set_cons_zero, List.set_cons_succ])
    refine takeM (i := 3) (M := [5, 12, 14]) (S := SS) (d := some 20) (v := .pointer (some ⟨gl, 1, none⟩)) rfl rfl (by kernel_rfl) (by kernel_rfl) (by kernel_rfl) hQP.out (by kernel_rfl) (Or.inl ⟨by rfl, fun w' hS => ?_⟩) sX ?_
    · obtain ⟨y0, y1, y2, y3, y4⟩ := (hSS.out _).1 hS
      go_simp
    (try simp only [Act.put, List.setIfInBounds_toArray, List.set_cons_zero, List.set_cons_succ])
    refine takeM (i := 4) (M := [5, 12, 14]) (S := SS) (d := some 21) (v := v) rfl rfl (by kernel_rfl) (by kernel_rfl) (by kernel_rfl) hQP.out (by kernel_rfl) (Or.inl ⟨by rfl, fun w' hS => ?_⟩) sX ?_
    · obtain ⟨y0, y1, y2, y3, y4⟩ := (hSS.out _).1 hS
      go_simp
    (try simp only [Act.put, List.setIfInBounds_toArray, List.set_cons_zero, List.set_cons_succ])
    refine takeM (i := 6) (M := [5, 12, 14]) (S := SS) (d := some 23) (v := .int .u64 (x : Nat)) rfl rfl (by kernel_rfl) (by kernel_rfl) (by kernel_rfl) hQP.out (by kernel_rfl) (Or.inl ⟨by rfl, fun w' hS => ?_⟩) sX ?_
    · obtain ⟨y0, y1, y2, y3, y4⟩ := (hSS.out _).1 hS
      go_simp
    (try simp only [Act.put, List.setIfInBounds_toArray, List.set_cons_zero, List.set_cons_succ])
    refine takeM (i := 8) (M := [5, 12, 14]) (S := SS) (d := some 25) (v := .agg #[.int .i64 (P : Nat), .int .i64 (D : Nat)]) rfl rfl (by kernel_rfl) (by kernel_rfl) (by kernel_rfl) hQP.out (by kernel_rfl) (Or.inl ⟨by rfl, fun w' hS => ?_⟩) sX ?_
    · obtain ⟨y0, y1, y2, y3, y4⟩ := (hSS.out _).1 hS
      go_simp
    (try simp only [Act.put, List.setIfInBounds_toArray, List.set_cons_zero, List.set_cons_succ])
    refine wpAnyT_ready (rs := [7]) (by kernel_rfl) (by simp) ?_
    intro j hj
    rw [List.mem_singleton] at hj
    subst hj
    refine wpOpT_step (T := fun j w' => j ∈ ([5, 12, 14] : List Nat) ∨ SS w') (by rfl) (fun K hK => ?_)
    go_simp
    (with_reducible refine (list_any x hx64 X t0).mono ?_)
    intro e X4 hq
    obtain ⟨Al, nl, cl, rfl, hnl, hRl, hbl, hfl⟩ := hq
    have p4 := Lib.hid (p0.out.below hbl p0.out.lt)
    have l4 := Lib.hid (l0.out.below hbl l0.out.lt)
    have a4 := Lib.hid (a0.out.below hbl a0.out.lt)
    have c4 := Lib.hid (c0.out.below hbl c0.out.lt)
    have o4 := Lib.hid (o0.out.below hbl)
    have b4 := Lib.hid (b0.out.trans (hbl.mono b0.out.size))
    have hX : Hid (W.heap.size ≤ X.heap.size) := Lib.hid b0.out.size
    have hAl : Hid (∀ ad, Al = some ad → X.heap.size ≤ ad.block ∧ ad.block < X4.heap.size) := Lib.hid (fun ad e => ⟨hfl ad e, by
      have h1 := hRl.len
      have h2 := hpx.out
      rw [nts_length] at h1
      rw [pop_bl] at h2
      obtain ⟨ad', hA', hb', -⟩ := hRl.2 (by omega)
      rw [e] at hA'; injection hA' with hA'; subst hA'; exact hb'⟩)
    have hLl : Hid (IsLv X4 ⟨Al, nl, cl, (P : Nat), (D : Nat), 0, none, 0, 0⟩ (x, P, D)) := Lib.hid ⟨rfl, rfl, rfl, rfl, rfl, rfl, hRl, hnl⟩
    have s4 := hsS.out _ p4.out l4.out a4.out c4.out
    clear hRl hfl hbl p0 l0 a0 c0 o0 t0
    refine hK.out _ _ ?_ ?_
    · exact .inr s4
    clear hK K
    (try simp only [Act.put, List.setIfInBounds_toArray, List.set_cons_zero, List.set_cons_succ])
    refine takeM (i := 9) (M := [5, 12, 14]) (S := SS) (d := some 26) (v := .agg #[.slice Al nl cl, .int .i64 (P : Nat), .int .i64 (D : Nat), .int .i64 0, .slice none 0 0]) rfl rfl (by kernel_rfl) (by kernel_rfl) (by kernel_rfl) hQP.out (by kernel_rfl) (Or.inl ⟨by rfl, fun w' hS => ?_⟩) s4 ?_
    · obtain ⟨y0, y1, y2, y3, y4⟩ := (hSS.out _).1 hS
      go_simp
    (try simp only [Act.put, List.setIfInBounds_toArray, List.set_cons_zero, List.set_cons_succ])
    refine wpAnyT_ready (rs := [10]) (by kernel_rfl) (by simp) ?_
    intro j hj
    rw [List.mem_singleton] at hj
    subst hj
    refine wpOpT_step (T := fun j w' => j ∈ ([5, 12, 14] : List Nat) ∨ SS w') (by rfl) (fun K hK => ?_)
    go_simp
    have p5 := Lib.hid (p4.out.alloc (.cells #[.slice Al nl cl, .int .i64 (P : Nat), .int .i64 (D : Nat), .int .i64 0, .slice none 0 0] 48))
    have l5 := Lib.hid (l4.out.alloc (.cells #[.slice Al nl cl, .int .i64 (P : Nat), .int .i64 (D : Nat), .int .i64 0, .slice none 0 0] 48))
    have a5 := Lib.hid (a4.out.alloc (.cells #[.slice Al nl cl, .int .i64 (P : Nat), .int .i64 (D : Nat), .int .i64 0, .slice none 0 0] 48))
    have c5 := Lib.hid (c4.out.alloc (.cells #[.slice Al nl cl, .int .i64 (P : Nat), .int .i64 (D : Nat), .int .i64 0, .slice none 0 0] 48))
    have o5 := Lib.hid (o4.out.below ((Below.refl X4.heap.size X4).alloc (Nat.le_refl _) (.cells #[.slice Al nl cl, .int .i64 (P : Nat), .int .i64 (D : Nat), .int .i64 0, .slice none 0 0] 48)))
    have r5 : Hid (RS DE (X4.alloc (.cells #[.slice Al nl cl, .int .i64 (P : Nat), .int .i64 (D : Nat), .int .i64 0, .slice none 0 0] 48)) (some ⟨X4.heap.size, 0, none⟩) 1 [⟨Al, nl, cl, (P : Nat), (D : Nat), 0, none, 0, 0⟩]) := Lib.hid (RS.blk (Blk.new X4 48 #[.slice Al nl cl, .int .i64 (P : Nat), .int .i64 (D : Nat), .int .i64 0, .slice none 0 0]) rfl rfl)
    have L5 : Hid (IsLv (X4.alloc (.cells #[.slice Al nl cl, .int .i64 (P : Nat), .int .i64 (D : Nat), .int .i64 0, .slice none 0 0] 48)) ⟨Al, nl, cl, (P : Nat), (D : Nat), 0, none, 0, 0⟩ (x, P, D)) := Lib.hid ⟨rfl, rfl, rfl, rfl, rfl, rfl, RI.alloc hLl.out.2.2.2.2.2.2.1 _, hLl.out.2.2.2.2.2.2.2⟩
    have b5 := Lib.hid (b4.out.alloc b4.out.size (.cells #[.slice Al nl cl, .int .i64 (P : Nat), .int .i64 (D : Nat), .int .i64 0, .slice none 0 0] 48))
    have s5 := hsS.out _ p5.out l5.out a5.out c5.out
    refine hK.out _ _ ?_ ?_
    · exact .inr s5
    clear hK K
    (try simp only [Act.put, List.setIfInBounds_toArray, List.set_cons_zero, List.set_cons_succ])
    refine wpAnyT_ready (rs := [11]) (by kernel_rfl) (by simp) ?_
    intro j hj
    rw [List.mem_singleton] at hj
    subst hj
    refine wpOpT_step (T := fun j w' => j ∈ ([5, 12, 14] : List Nat) ∨ SS w') (by rfl) (fun K hK => ?_)
    refine step_catdb (w := X4.alloc (.cells #[.slice Al nl cl, .int .i64 (P : Nat), .int .i64 (D : Nat), .int .i64 0, .slice none 0 0] 48)) (ys := rs) (zs := [⟨Al, nl, cl, (P : Nat), (D : Nat), 0, none, 0, 0⟩]) (B := B) (v := v) (A := some ⟨X4.heap.size, 0, none⟩) (m := 1) (c := 1) (by rfl) (.tmp 21) (.tmp 27) (by rfl) (by rfl) (by first | rfl | simp) o5.out.os r5.out (by omega) (by have := b5.out.size; have := hWs.out; omega) ?_
    intro v' X6 ho hg hv
    have hvl := hvo.out
    have n1 : some w.heap.size ≠ v.ownBlock := fun e => by have := hvl _ e.symm; omega
    have n2 : some gl ≠ v.ownBlock := fun e => by have := hvl _ e.symm; omega
    have n3 : some gs ≠ v.ownBlock := fun e => by have := hvl _ e.symm; have := hgg.out; have := hWs.out; omega
    have n4 : some gf ≠ v.ownBlock := fun e => by have := hvl _ e.symm; have := hgg.out; have := hWs.out; omega
    have p6 := Lib.hid (p5.out.grown hg n1)
    have l6 := Lib.hid (l5.out.grown hg n2)
    have a6 := Lib.hid (a5.out.grown hg n3)
    have c6 := Lib.hid (c5.out.grown hg n4)
    have o6 := Lib.hid (o5.out.push ho hg hv L5.out (fun ad e => by
      have h1 := hAl.out ad e
      have h2 := hX.out
      have h3 := hWs.out
      exact ⟨by omega, fun e2 => by have := hvl _ e2.symm; omega, by simp; omega⟩))
    have S6 : Hid (Same (fun q => q = gl ∨ v.ownBlock = some q) w X6) := Lib.hid (((Same.of_below BW.out (Nat.le_refl _) _).trans (Same.of_below b5.out (Nat.le_refl _) (fun _ => False)) (fun _ _ e => e.elim)).grown hg (fun q hq _ => .inr hq))
    obtain ⟨A6, n6, k6, rfl, -, -, -, -, -⟩ := ho.form
    have s6 := hsS.out _ p6.out l6.out a6.out c6.out
    clear ho hg hv hvl n1 n2 n3 n4 p4 l4 a4 c4 o4 p5 l5 a5 c5 o5
    refine hK.out _ _ ?_ ?_
    · exact .inr s6
    clear hK K
    (try simp only [Act.put, List.setIfInBounds_toArray, List.set_cons_zero, List.set_cons_succ])
    refine takeU (i := 12) (M := [5, 12, 14]) (S := SS) (d := some 29) (v := .pointer (some ⟨gl, 0, none⟩)) rfl rfl (by kernel_rfl) (by kernel_rfl) (by kernel_rfl) hQP.out (by decide) (Or.inl ⟨by rfl, fun w' _ => ?_⟩) ?_
    · go_simp
    (try simp only [Act.put, List.setIfInBounds_toArray, List.set_cons_zero, List.set_cons_succ])
    refine takeM (i := 13) (M := [5, 12, 14]) (S := SS) (d := some 30) (v := .pointer (some ⟨gl, 1, none⟩)) rfl rfl (by kernel_rfl) (by kernel_rfl) (by kernel_rfl) hQP.out (by kernel_rfl) (Or.inl ⟨by rfl, fun w' hS => ?_⟩) s6 ?_
    · obtain ⟨y0, y1, y2, y3, y4⟩ := (hSS.out _).1 hS
      go_simp
    (try simp only [Act.put, List.setIfInBounds_toArray, List.set_cons_zero, List.set_cons_succ])
    have f1 := Blk.frozen l6.out 1
    have z1 := Blk.cell l6.out 1
    simp at z1
    have l7 : Hid (Blk (X6.setCell ⟨gl, 1, none⟩ (.slice A6 n6 k6)) gl 128 #[.int .u64 (inn : Nat), .slice A6 n6 k6]) := Lib.hid (Blk.set l6.out 1 (.slice A6 n6 k6))
    have hne1 : w.heap.size ≠ gl := by omega
    have hne2 : gs ≠ gl := by have := hgg.out; have := hWs.out; omega
    have p7 := Lib.hid (Blk.far p6.out (p := ⟨gl, 1, none⟩) hne1 (.slice A6 n6 k6))
    have a7 := Lib.hid (Blk.far a6.out (p := ⟨gl, 1, none⟩) hne2 (.slice A6 n6 k6))
    have o7 := Lib.hid (o6.out.far 1 hgB (.slice A6 n6 k6))
    have S7 := Lib.hid (S6.out.trans (Same.set X6 gl 1 (.slice A6 n6 k6)) (fun q _ e => .inl e))
    refine wpAnyT_ready (rs := [14]) (by kernel_rfl) (by simp) ?_
    intro j hj
    rw [List.mem_singleton] at hj
    subst hj
    refine wpOpT_step (T := fun j w' => j ∈ ([5, 12, 14] : List Nat) ∨ SS w') (by rfl) (fun K hK => ?_)
    go_simp
    refine hK.out _ _ ?_ ?_
    · exact .inl (by decide)
    clear hK K
    (try simp only [Act.put, List.setIfInBounds_toArray, List.set_cons_zero, List.set_cons_succ])
    refine wpAnyT_done (by kernel_rfl) (hQQ.out _ _ ?_) _
    clear hQQ hQP QQ
    clear z1 f1
    generalize X6.setCell ⟨gl, 1, none⟩ (.slice A6 n6 k6) = Y at *
    go_wp2_with fail
    refine leaves_cons (f := 122) (args := #[.pointer (some ⟨w.heap.size, 0, none⟩), .pointer (some ⟨gs, 0, none⟩)]) (by simp) (by simp [go_sem]) ?_
    refine (stepEnd_any w.heap.size gl gs inn x _ hi hx64 ((Blk.cell p7.out 0).trans rfl) ((Blk.cell l7.out 0).trans rfl) (Blk.frozen l7.out 0) ((Blk.cell a7.out 0).trans rfl)).mono ?_
    rintro e u' w'' ⟨rfl, rfl, rfl⟩
    have l8 : Blk (Y.drew.setCell ⟨gl, 0, none⟩ (.int .u64 ((inn ||| x : Nat) : Int))) gl 128 #[.int .u64 ((inn ||| x : Nat) : Int), .slice A6 n6 k6] := Blk.set l7.out.drew 0 _
    have o8 := (o7.out.below ((Below.refl Y.heap.size Y).drew)).far 0 hgB (.int .u64 ((inn ||| x : Nat) : Int))
    have S8 := S7.out.drew.trans (Same.set Y.drew gl 0 (.int .u64 ((inn ||| x : Nat) : Int))) (fun q _ e => .inl e)
    simp only [settle, Leaves, results, Tryd.results95]
    refine ⟨.tuple #[], by simp [go_sem], rfl, x, P, D, _, _, hDen.out, l8, o8, S8⟩
end Go.Proofs.YticekkjambkifaaDoor.Fl
