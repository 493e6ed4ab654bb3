/- cohesionmake.Split for weights 1. -/
import Derived.Test.YticekkjambkifaaGreatDoorZam
import Derived.Test.YticekkjambkifaaGreatDoorMakC
set_option linter.unusedVariables false
set_option linter.unusedSimpArgs false
namespace Go.Proofs.YticekkjambkifaaGreatDoor.Fl
open Go.RowKit Go.Proofs.YticekkjambkifaaGreatDoor CoBit CoRat Rt

def RetSpl (w : World) (g m : Nat) (e : Ending) (w' : World) : Prop := ∃ (den : Int) (ps : List Int) (A1 : Option Addr) (c1 : Nat), e = .returned (.agg #[.int .i64 den, .slice A1 m c1]) ∧ FitS m den ps ∧ m ≤ c1 ∧ RI w' A1 m ps ∧ Fr w.heap.size A1 ∧ Dk w' g ∧ w.grownBy w' (some g)
set_option maxRecDepth 100000 in
set_option maxHeartbeats 8000000 in
theorem mksplit_any (g : Nat) (A0 : Option Addr) (m c0 : Nat) (w : World) (h : Dk w g) (h0 : RI w A0 m (List.replicate m 1)) (hne : ∀ ad, A0 = some ad → ad.block ≠ g) (hm : m ≤ 1048576) :
    Calls Tryz.prog 13 #[.pointer (some ⟨g, 0, none⟩), .slice A0 m c0] w (RetSpl w g m) := by
  have hg0 := h.lt
  have ba : Below w.heap.size w (w.alloc (.cells #[.int .i64 0, .slice none 0 0] 36)) := (Below.refl _ w).alloc (Nat.le_refl _) _
  have hd0 := h.below ba hg0
  have hgr0 := grown_below (World.grownBy.refl w (some g)) ba (Nat.le_refl _)
  have R0 := Blk.new w 36 #[.int .i64 0, .slice none 0 0]
  have hrg : w.heap.size ≠ g := by omega
  go_enter Tryz.func13, Tryz.ntmps13
  go_upto_region 1 with fail
  generalize w.alloc (.cells #[.int .i64 0, .slice none 0 0] 36) = W0 at *
  have kn := Lib.hid (next_any g 4 W0 hd0 (by omega))
  go_upto_region 2 with (first
    | (go_at_call 15; (with_reducible refine kn.out.mono ?_); rintro e w1 ⟨x, rfl, x0, x1, -, hd1, hg1⟩)
    | fail)
  replace x1 := x1 (by omega)
  have hgw1 := grown_trans hgr0 hg1
  have R1 := Blk.grown R0 hg1 (by simpa using hrg)
  have hd64 : Hid (0 ≤ x ∧ x ≤ 3) := Lib.hid ⟨x0, by omega⟩
  have j1 : IntKind.i64.wrap (1 + x) = 1 + x := IntWalk.i64_in _ ⟨by omega, by omega⟩
  obtain ⟨den, hden⟩ : ∃ den, den = 1 + x := ⟨_, rfl⟩
  rw [← hden] at j1 ⊢
  have hdb : 1 ≤ den ∧ den ≤ 4 := by omega
  replace hden := Lib.hid hden
  clear kn hd0 hgr0 R0 ba hg1
  have s1 := hgw1.size
  have rl := R1.lt
  have D2 := Blk.new w1 36 #[.int .i64 den, .slice none 0 0]
  have R2 := R1.alloc (.cells #[.int .i64 den, .slice none 0 0] 36)
  have hd2 : Dk (w1.alloc (.cells #[.int .i64 den, .slice none 0 0] 36)) g := hd1.below ((Below.refl _ w1).alloc (Nat.le_refl _) _) hd1.lt
  have hg2 := grown_below hgw1 (((Below.refl w1.heap.size w1).alloc (Nat.le_refl _) (.cells #[.int .i64 den, .slice none 0 0] 36)).mono s1) (Nat.le_refl _)
  have hbg : Hid (g ≠ w1.heap.size ∧ w.heap.size ≠ w1.heap.size ∧ w.heap.size ≤ w1.heap.size) := Lib.hid (by have := hd1.lt; omega)
  clear R1 hd1 hgw1 rl s1
  generalize w1.alloc (.cells #[.int .i64 den, .slice none 0 0] 36) = W at *
  generalize w1.heap.size = gt at *
  go_upto_region 3 with fail
  go_loopw [14] (fun i wr => ∃ (k : Nat) (v : Value) (ps : List Int), k ≤ m ∧ i = .int .i64 (k : Nat) ∧ Blk wr gt 36 #[.int .i64 den, v] ∧ Blk wr w.heap.size 36 #[.int .i64 0, .slice none 0 0] ∧ OI wr (gt + 1) v ps ∧ Hid (ps.length = k ∧ FitP den ps) ∧ Dk wr g ∧ w.grownBy wr (some g)) (fun i _ => m - (intOf i).toNat)
  case atStart => exact ⟨0, _, [], Nat.zero_le _, rfl, D2, R2, OI.nil_, Lib.hid ⟨rfl, fun p hp => by cases hp⟩, hd2, hg2⟩
  case round =>
    obtain ⟨k, v, ps, hk, rfl, hD, hR, hO, hf, hd, hg⟩ := hrel
    clear D2 R2 hd2 hg2
    by_cases hlt : k < m
    · have i0 : (k : Int) < (m : Int) := by omega
      have i1 : (0 : Int) ≤ (k : Int) := by omega
      obtain ⟨ad, y, rfl, hy, hcy⟩ := (RI.kept h0 hg (fun a ha he => by injection he with he; exact hne a ha he)).get hlt
      obtain rfl : y = 1 := by
        have := hy.out
        rw [List.getElem?_replicate, if_pos hlt] at this
        injection this with this; exact this.symm
      replace hy := Lib.hid True.intro
      have j2 : IntKind.i64.wrap den = den := IntWalk.i64_in _ ⟨by omega, by omega⟩
      have j3 : IntKind.i64.wrap (den + 1) = den + 1 := IntWalk.i64_in _ ⟨by omega, by omega⟩
      have j4 : (1 : Int) * den = den := Int.one_mul _
      have kn := Lib.hid (next_any g (den + 1) wr.drew (show Dk wr.drew g from hd) (by omega))
      have p0 : wr.drew.cell? ⟨gt, 0, none⟩ = some (.int .i64 den) := by have := Blk.cell hD 0; simpa using this
      have p1 : wr.drew.cell? ⟨gt, 1, none⟩ = some v := by have := Blk.cell hD 1; simpa using this
      have hvb := hO.block_lt
      have gtl := hD.lt
      have n1 : Hid (some gt ≠ v.ownBlock) := Lib.hid (fun e => by have := (hvb gt e.symm).1; omega)
      have n2 : Hid (some w.heap.size ≠ v.ownBlock) := Lib.hid (fun e => by have := (hvb _ e.symm).1; have := hbg.out; omega)
      have n3 : Hid (some g ≠ v.ownBlock ∧ v.ownBlock ≠ some g) := Lib.hid ⟨fun e => by have := (hvb _ e.symm).1; have := hd.lt; have := hg0; have := hbg.out; omega, fun e => by have := (hvb _ e).1; have := hg0; have := hbg.out; omega⟩
      have hvl : Hid (∀ q, v.ownBlock = some q → w.heap.size ≤ q) := Lib.hid (fun q hq => by have := (hvb q hq).1; have := hbg.out; omega)
      have hvg : Hid (∀ q, v.ownBlock = some q → g < q) := Lib.hid (fun q hq => by have := (hvb q hq).1; have := hbg.out; have := hg0; omega)
      have hpl : Hid (ps.length ≤ 1048576) := Lib.hid (by rw [hf.out.1]; omega)
      clear hvb
      go_upto_region 5 with fail
      clear hcy
      -- R5
      obtain ⟨SS, hSS⟩ : ∃ SS : World → Prop, ∀ w', SS w' ↔ (w'.cell? ⟨gt, 0, none⟩ = some (.int .i64 den) ∧ w'.cell? ⟨gt, 1, none⟩ = some v) := ⟨fun w' => _, fun _ => Iff.rfl⟩
      replace hSS := Lib.hid hSS
      refine wp_region_TS (T := fun j w' => j = 12 ∨ SS w') (by kernel_rfl) ?_
      intro QQ hQQ hQP
      have s0 : SS wr.drew := (hSS.out _).2 ⟨p0, p1⟩
      have Od : OI wr.drew (gt + 1) v ps := hO
      have Dd : Blk wr.drew gt 36 #[.int .i64 den, v] := hD
      have Rd : Blk wr.drew w.heap.size 36 #[.int .i64 0, .slice none 0 0] := hR
      have hgd : w.grownBy wr.drew (some g) := grown_drew hg
      have gtd : gt < wr.drew.heap.size := gtl
      clear p0 p1 hO hD hR hg hd gtl
      generalize wr.drew = X at *
      refine takeS (i := 0) (S := SS) (m := 12) (d := some 18) (v := .pointer (some ⟨gt, 1, none⟩)) rfl rfl (by kernel_rfl) (by kernel_rfl) (by kernel_rfl) hQP.out (by kernel_rfl) (Or.inl ⟨by rfl, fun w' hS => ?_⟩) s0 ?_
      · obtain ⟨y0, y1⟩ := (hSS.out _).1 hS
        go_simp
      (try simp only [Act.put, List.setIfInBounds_toArray, List.set_cons_zero, List.set_cons_succ])
      refine takeS (i := 1) (S := SS) (m := 12) (d := some 19) (v := v) rfl rfl (by kernel_rfl) (by kernel_rfl) (by kernel_rfl) hQP.out (by kernel_rfl) (Or.inl ⟨by rfl, fun w' hS => ?_⟩) s0 ?_
      · obtain ⟨y0, y1⟩ := (hSS.out _).1 hS
        go_simp
      (try simp only [Act.put, List.setIfInBounds_toArray, List.set_cons_zero, List.set_cons_succ])
      refine takeS (i := 2) (S := SS) (m := 12) (d := some 20) (v := .pointer (some ⟨g, 0, none⟩)) rfl rfl (by kernel_rfl) (by kernel_rfl) (by kernel_rfl) hQP.out (by kernel_rfl) (Or.inl ⟨by rfl, fun w' hS => ?_⟩) s0 ?_
      · obtain ⟨y0, y1⟩ := (hSS.out _).1 hS
        go_simp
      (try simp only [Act.put, List.setIfInBounds_toArray, List.set_cons_zero, List.set_cons_succ])
      refine takeS (i := 3) (S := SS) (m := 12) (d := some 21) (v := .int .i64 1) rfl rfl (by kernel_rfl) (by kernel_rfl) (by kernel_rfl) hQP.out (by kernel_rfl) (Or.inl ⟨by rfl, fun w' hS => ?_⟩) s0 ?_
      · obtain ⟨y0, y1⟩ := (hSS.out _).1 hS
        go_simp
      (try simp only [Act.put, List.setIfInBounds_toArray, List.set_cons_zero, List.set_cons_succ])
      refine takeS (i := 4) (S := SS) (m := 12) (d := some 22) (v := .pointer (some ⟨gt, 0, none⟩)) rfl rfl (by kernel_rfl) (by kernel_rfl) (by kernel_rfl) hQP.out (by kernel_rfl) (Or.inl ⟨by rfl, fun w' hS => ?_⟩) s0 ?_
      · obtain ⟨y0, y1⟩ := (hSS.out _).1 hS
        go_simp
      (try simp only [Act.put, List.setIfInBounds_toArray, List.set_cons_zero, List.set_cons_succ])
      refine takeS (i := 5) (S := SS) (m := 12) (d := some 23) (v := .int .i64 den) rfl rfl (by kernel_rfl) (by kernel_rfl) (by kernel_rfl) hQP.out (by kernel_rfl) (Or.inl ⟨by rfl, fun w' hS => ?_⟩) s0 ?_
      · obtain ⟨y0, y1⟩ := (hSS.out _).1 hS
        go_simp
      (try simp only [Act.put, List.setIfInBounds_toArray, List.set_cons_zero, List.set_cons_succ])
      refine takeS (i := 6) (S := SS) (m := 12) (d := some 24) (v := .int .i64 den) rfl rfl (by kernel_rfl) (by kernel_rfl) (by kernel_rfl) hQP.out (by kernel_rfl) (Or.inl ⟨by rfl, fun w' hS => ?_⟩) s0 ?_
      · obtain ⟨y0, y1⟩ := (hSS.out _).1 hS
        go_simp
      (try simp only [Act.put, List.setIfInBounds_toArray, List.set_cons_zero, List.set_cons_succ])
      refine takeS (i := 7) (S := SS) (m := 12) (d := some 25) (v := .int .i64 (den + 1)) rfl rfl (by kernel_rfl) (by kernel_rfl) (by kernel_rfl) hQP.out (by kernel_rfl) (Or.inl ⟨by rfl, fun w' hS => ?_⟩) s0 ?_
      · obtain ⟨y0, y1⟩ := (hSS.out _).1 hS
        go_simp
      (try simp only [Act.put, List.setIfInBounds_toArray, List.set_cons_zero, List.set_cons_succ])
      refine wpAnyT_ready (rs := [8]) (by kernel_rfl) (by simp) ?_
      intro j hj
      rw [List.mem_singleton] at hj
      subst hj
      refine wpOpT_step (T := fun j w' => j = 12 ∨ SS w') (by rfl) (fun K hK => ?_)
      go_simp
      (with_reducible refine kn.out.mono ?_)
      clear kn
      rintro e w4 ⟨q, rfl, q0, q1, -, hd4, hg4⟩
      have ngg : some gt ≠ some g := fun e => by injection e with e; exact hbg.out.1 e.symm
      have s1 : SS w4 := by
        obtain ⟨y0, y1⟩ := (hSS.out _).1 s0
        exact (hSS.out _).2 ⟨hg4.cell y0 ngg, hg4.cell y1 ngg⟩
      have O4 : OI w4 (gt + 1) v ps := World.ownsRow.kept Od hg4 (.inr n3.out.2)
      have D4 := Blk.grown Dd hg4 ngg
      have R4 := Blk.grown Rd hg4 (fun e => by injection e with e; exact hrg e)
      have hgw4 := grown_trans hgd hg4
      have gt4 : gt < w4.heap.size := Nat.lt_of_lt_of_le gtd hg4.size
      clear s0 Od Dd Rd hgd hg4 gtd
      refine hK.out _ _ ?_ ?_
      · exact .inr s1
      clear hK K
      (try simp only [Act.put, List.setIfInBounds_toArray, List.set_cons_zero, List.set_cons_succ])
      refine wpAnyT_ready (rs := [9]) (by kernel_rfl) (by simp) ?_
      intro j hj
      rw [List.mem_singleton] at hj
      subst hj
      refine wpOpT_step (T := fun j w' => j = 12 ∨ SS w') (by rfl) (fun K hK => ?_)
      go_simp
      have s2 : SS (w4.alloc (.cells #[.int .i64 q] 3)) := by
        obtain ⟨y0, y1⟩ := (hSS.out _).1 s1
        exact (hSS.out _).2 ⟨kept_alloc y0 _, kept_alloc y1 _⟩
      refine hK.out _ _ ?_ ?_
      · exact .inr s2
      clear hK K s2
      (try simp only [Act.put, List.setIfInBounds_toArray, List.set_cons_zero, List.set_cons_succ])
      refine wpAnyT_ready (rs := [10]) (by kernel_rfl) (by simp) ?_
      intro j hj
      rw [List.mem_singleton] at hj
      subst hj
      refine wpOpT_step (T := fun j w' => j = 12 ∨ SS w') (by rfl) (fun K hK => ?_)
      refine step_pushO (w := w4) (y := q) (T := 3) (H := w4.heap.size) (B := gt + 1) (v := v) (by rfl) (.tmp 19) (.tmp 27) (by rfl) (by rfl) (by rfl) rfl O4 (by have := hpl.out; omega) (by omega) ?_
      intro v5 w5 O5 g5 e5
      obtain ⟨P2, pn2, pc2, rfl, hp2, -, -, -⟩ := O5.form
      have D5 := D4.grown g5 n1.out
      have R5 := R4.grown g5 n2.out
      have d5 : Dk w5 g := Dk.grown hd4 g5 hvg.out
      have gw5 := grown_below hgw4 ((Below.refl w.heap.size w4).grown g5 hgw4.size hvl.out) (Nat.le_refl _)
      have t0 := Blk.cell D5 0
      have t1 := Blk.cell D5 1
      have t2 := Blk.frozen D5 1
      simp at t0 t1
      have s2 : SS w5 := (hSS.out _).2 ⟨t0, t1⟩
      replace hp2 := Lib.hid hp2
      clear s1 D4 R4 hd4 hgw4 e5 g5 t0
      replace O5 := Lib.hid O5
      refine hK.out _ _ ?_ ?_
      · exact .inr s2
      clear hK K
      (try simp only [Act.put, List.setIfInBounds_toArray, List.set_cons_zero, List.set_cons_succ])
      refine wpAnyT_ready (rs := [11]) (by kernel_rfl) (by simp) ?_
      intro j hj
      rw [List.mem_singleton] at hj
      subst hj
      refine wpOpT_step (T := fun j w' => j = 12 ∨ SS w') (by rfl) (fun K hK => ?_)
      go_simp
      refine hK.out _ _ ?_ ?_
      · exact .inr s2
      clear hK K
      (try simp only [Act.put, List.setIfInBounds_toArray, List.set_cons_zero, List.set_cons_succ])
      refine wpAnyT_ready (rs := [12]) (by kernel_rfl) (by simp) ?_
      intro j hj
      rw [List.mem_singleton] at hj
      subst hj
      refine wpOpT_step (T := fun j w' => j = 12 ∨ SS w') (by rfl) (fun K hK => ?_)
      go_simp
      refine hK.out _ _ ?_ ?_
      · exact .inl rfl
      clear hK K
      (try simp only [Act.put, List.setIfInBounds_toArray, List.set_cons_zero, List.set_cons_succ])
      refine wpAnyT_done (by kernel_rfl) (hQQ.out _ _ ?_) _
      clear hQQ hQP QQ s2 hSS SS
      -- E5
      have hfn := Lib.hid (show (ps ++ [q]).length = k + 1 ∧ FitP den (ps ++ [q]) from ⟨by rw [List.length_append, hf.out.1]; rfl, fun p hp => by
        rcases List.mem_append.1 hp with hp | hp
        · exact hf.out.2 p hp
        · rw [List.mem_singleton] at hp; subst hp; exact ⟨q0, by have := q1 (by omega); omega⟩⟩)
      have D6 := D5.set 1 (.slice P2 pn2 pc2)
      simp at D6
      have R6 := R5.far (p := ⟨gt, 1, none⟩) hbg.out.2.1 (.slice P2 pn2 pc2)
      have O6 := ownsRow_setCell_below O5.out (show (⟨gt, 1, none⟩ : Addr).block < gt + 1 from Nat.lt_succ_self _) (.slice P2 pn2 pc2)
      have d6 := Lib.hid (Dk.grown d5 (grown_set (World.grownBy.refl w5 (some gt)) 1 (.slice P2 pn2 pc2)) (fun q hq => by injection hq with hq; have := hbg.out; omega))
      have gw6 := grown_set_new gw5 (p := ⟨gt, 1, none⟩) hbg.out.2.2 (.slice P2 pn2 pc2)
      replace O6 := Lib.hid O6
      clear D5 R5 O5 d5 gw5 t1 t2 hp2 hf hvg hvl hpl n1 n2 n3
      go_wp2_with fail
      go_roundw
      case rel => exact ⟨k + 1, _, _, by omega, by go_num, D6, R6, O6.out, hfn, d6.out, gw6⟩
      case measure => simp [intOf]; omega
    · obtain rfl : k = m := by omega
      have i0 : ¬ (k : Int) < (k : Int) := by omega
      obtain ⟨A1, n1, c1, rfl, hn1, hc1, -, hr1⟩ := hO.form
      have hfr := hO.fresh hn1
      have hlk := hf.out.1
      obtain rfl : n1 = k := by rw [hn1, hlk]
      have t0 := Blk.cell hD 0
      have t1 := Blk.cell hD 1
      have r0 := Blk.cell hR 0
      have r1 := Blk.cell hR 1
      have f0 := Blk.frozen hR 0
      have f1 := Blk.frozen hR 1
      simp at t0 t1 r0 r1
      have RB := Blk.set (Blk.set hR 0 (.int .i64 den)) 1 (.slice A1 n1 c1)
      simp at RB
      have g0 := Lib.hid (Blk.cell RB 0)
      have g1 := Lib.hid (Blk.cell RB 1)
      have hx : ∀ ad, A1 = some ad → ad.block ≠ w.heap.size := fun ad e => by have := hfr ad e; have := hbg.out; omega
      have hri := Lib.hid (RI.farF (RI.farF hr1 0 (g := w.heap.size) hx (.int .i64 den)) 1 (g := w.heap.size) hx (.slice A1 n1 c1))
      have hdz := Lib.hid (Dk.grown (Dk.grown hd (grown_set (World.grownBy.refl wr (some w.heap.size)) 0 (.int .i64 den)) (fun q hq => by injection hq with hq; omega)) (grown_set (World.grownBy.refl _ (some w.heap.size)) 1 (.slice A1 n1 c1)) (fun q hq => by injection hq with hq; omega))
      have hgz := Lib.hid (grown_set_new (grown_set_new hg (p := ⟨w.heap.size, 0, none⟩) (Nat.le_refl _) (.int .i64 den)) (p := ⟨w.heap.size, 1, none⟩) (Nat.le_refl _) (.slice A1 n1 c1))
      have hfz := Lib.hid (show FitS n1 den ps from ⟨hdb.1, by omega, hlk, hf.out.2⟩)
      have hfr2 : Fr w.heap.size A1 := hfr.mono (by have := hbg.out; omega)
      replace hlk := Lib.hid True.intro
      replace hn1 := Lib.hid True.intro
      clear hO hr1 hD hR hd hg RB hx hfr hf
      go_wp2_with fail
      have g0' := g0.out
      have g1' := g1.out
      simp at g0' g1'
      refine bodyPost_ret (v := .agg #[.int .i64 den, .slice A1 n1 c1]) (by simp [results, Tryz.results13, go_sem, g0', g1']) rfl ?_
      exact ⟨den, ps, A1, c1, rfl, hfz.out, hc1, hri.out, hfr2, hdz.out, hgz.out⟩
end Go.Proofs.YticekkjambkifaaGreatDoor.Fl
