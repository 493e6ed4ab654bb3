/- levels.Gain of a level over its inner set. -/
import Derived.Test.YticekkjambkifaaDoorAwkL
import Derived.Deep.RegionHeld3
set_option linter.unusedVariables false
set_option linter.unusedSimpArgs false
namespace Go.Proofs.YticekkjambkifaaDoor.Fl
open Go.RowKit Go.Proofs.YticekkjambkifaaDoor CoBit CoRat Rt

set_option maxRecDepth 100000 in
set_option maxHeartbeats 1000000 in
theorem cloneO_any (A : Option Addr) (n c : Nat) (xs : List Int) (w : World) (h : RI w A n xs) (hn : n ≤ 274877906944) :
    Calls Tryd.prog 64 #[.slice A n c] w fun e w' => ∃ v, e = .returned v ∧ OI w' w.heap.size v xs ∧ Below w.heap.size w w' := by
  have kq := fun (w : World) (a : Option Addr) (l c n' c' : Nat) => Lib.run_eql_slice_nil (P := Tryd.prog) w 22 3 a l c n' c' Tryd.underlying22
  cases A with
  | none =>
    have h0 : n = 0 := by
      rcases Nat.eq_zero_or_pos n with h0 | h0
      · exact h0
      · obtain ⟨ad, e, _⟩ := h.2 h0; cases e
    subst h0
    have hx : xs = [] := List.eq_nil_of_length_eq_zero h.len
    subst hx
    go_enter Tryd.func64, Tryd.ntmps64
    go_wp2_with fail
    go_ret
    exact ⟨_, rfl, OI.nil_, Below.refl _ _⟩
  | some ad =>
    go_enter Tryd.func64, Tryd.ntmps64
    have ho : OI (w.alloc (.cells #[] 3)) w.heap.size (.slice (some ⟨w.heap.size, 0, none⟩) 0 0) [] :=
      ⟨rfl, .inr ⟨w.heap.size, 0, #[], rfl, Nat.le_refl _, heap_alloc_new w _, Nat.le_refl _, Nat.zero_le _, rfl, rfl⟩⟩
    have hr := h.alloc (.cells #[] 3)
    have hb0 : Below w.heap.size w (w.alloc (.cells #[] 3)) := (Below.refl _ _).alloc (Nat.le_refl _) _
    go_wp2_with (at_builtin; refine wpList_cat (B := w.heap.size) rfl _ _ rfl rfl rfl ho hr (by simp; omega) (by simp) ?_; intro v1 w1 ho1 hb1 hg1)
    go_ret
    exact ⟨_, rfl, ho1, hb0.trans hb1⟩
theorem insE_congr {es : List (Int × Int)} {S S' : List Int} (h : ∀ x, x ∈ S ↔ x ∈ S') : insE es S = insE es S' := by
  induction es with
  | nil => rfl
  | cons e es ih => rw [insE_cons, insE_cons, ih]; simp only [h]
theorem Inn.vld {n i : Nat} (h : Inn n i) : Vld (bset i) n := ⟨fun y hy => by
    unfold bset nts at hy
    obtain ⟨k, hk, rfl⟩ := List.mem_map.1 hy
    have := h k (mem_bl.1 hk).2
    omega, bset_sorted i⟩
set_option maxRecDepth 100000 in
set_option maxHeartbeats 8000000 in
theorem lgain_any (A : Option Addr) (m c n : Nat) (es : List (Int × Int)) (AI : Option Addr) (ni ci i : Nat) (AS : Option Addr) (ns cs x N D : Nat) (w : World) (h : RE w A m es) (hm : m ≤ 4096) (hz : chkG n es = 0) (hn : n ≤ 64) (hI : RI w AI ni (bset i)) (hS : RI w AS ns (bset x)) (hin : Inn n i) (hL : Lvl n es i x N D) :
    Calls Tryd.prog 20 #[.agg #[.int .i64 (n : Nat), .slice A m c], .slice AI ni ci, .slice AS ns cs] w fun e w' => e = .returned (.tuple #[.agg #[.int .i64 (N : Nat), .int .i64 (D : Nat)], .int .i64 0]) ∧ Below w.heap.size w w' := by
  have hni : ni = pop i := by rw [← hI.len]; unfold bset; rw [nts_length, pop_bl]
  have hns : ns = pop x := by rw [← hS.len]; unfold bset; rw [nts_length, pop_bl]
  have hni64 : ni ≤ 64 := by rw [hni]; exact pop_le i
  have hns64 : ns ≤ 64 := by rw [hns]; exact pop_le x
  have hns0 : 0 < ns := by rw [hns]; exact hL.pos
  have kc := fun w h => gcheck_any A m c n es w h (by omega)
  rw [hz] at kc
  replace kc := Lib.hid kc
  have kv1 := fun w h => nvalid_any AI ni ci (bset i) n w h (by omega)
  rw [decide_eq_true hin.vld] at kv1
  replace kv1 := Lib.hid kv1
  have kv2 := fun w h => nvalid_any AS ns cs (bset x) n w h (by omega)
  rw [decide_eq_true hL.vld] at kv2
  replace kv2 := Lib.hid kv2
  have hi64 := hin.lt64 hn
  have hx64 := hL.lt hn
  have km1 := Lib.hid (fun w h => mof_at AI ni ci (bset i) i (by have := mo_spec (bset i); rwa [mo_bset hi64] at this) w h (by omega))
  have km2 := Lib.hid (fun w h => mof_at AS ns cs (bset x) x (by have := mo_spec (bset x); rwa [mo_bset hx64] at this) w h (by omega))
  have ea := bits_and_u64_nat i x hi64 hx64
  have hix : i &&& x = 0 := Nat.eq_of_testBit_eq fun v => by
    rw [Nat.testBit_and, Nat.zero_testBit]
    cases hc : x.testBit v with
    | false => rw [Bool.and_false]
    | true => rw [(hL.off v hc).2]; rfl
  rw [hix] at ea
  have kcl := Lib.hid (fun w h => cloneO_any AI ni ci (bset i) w h (by omega))
  have ki := fun AL mL cL l w h hl hmL => pinside_any A m c (n : Int) es AL mL cL l w h (by omega) hz hl hmL
  replace ki := Lib.hid ki
  have hmem : insE es (bset i ++ bset x) = insE es (bset (x ||| i)) := insE_congr fun z => by rw [List.mem_append, mem_bset_or]; exact or_comm
  have hg := gain_out es hL.off
  have hgn : gn es i x = insE es (bset (x ||| i)) - insE es (bset i) := rfl
  have hle1 : insE es (bset (x ||| i)) ≤ 4096 := Nat.le_trans (insE_le _ _) (by rw [h.len]; exact hm)
  have hmk := (mk_small (a := gn es i x) (b := ns) hns0 (by unfold M; omega) (by unfold M; omega)).2.2
  have kmk := fun w => make_any (gn es i x : Nat) (ns : Nat) w (by omega) (by omega) (by omega) (by omega)
  have hdN := hL.dN
  have hdD := hL.dD
  rw [← hns] at hdN hdD
  rw [hmk, ← hdN, ← hdD] at kmk
  replace kmk := Lib.hid kmk
  obtain ⟨P, hP⟩ : ∃ P, P = insE es (bset i ++ bset x) := ⟨_, rfl⟩
  obtain ⟨Q, hQ⟩ : ∃ Q, Q = insE es (bset i) := ⟨_, rfl⟩
  obtain ⟨G, hG⟩ : ∃ G, G = gn es i x := ⟨_, rfl⟩
  rw [← hG] at kmk
  have hsub : (P : Int) - (Q : Int) = (G : Int) := by rw [hP, hQ, hG, hmem, hgn]; omega
  have hwr : IntKind.i64.wrap (G : Int) = (G : Int) := by rw [IntKind.wrap_i64]; have : G ≤ 4096 := (by rw [hG, hgn]; omega); omega
  have hPh := Lib.hid hP
  have hQh := Lib.hid hQ
  have q0 : ((ns : Int) == 0) = false := by rw [beq_eq_false_iff_ne]; omega
  have hil := hI.len
  have hsl9 := Lib.hid hS.len
  obtain ⟨W, hW0⟩ : ∃ W, W = (w.alloc (.cells #[.int .i64 (n : Nat), .slice A m c] 25)).alloc (.cells #[.int .i64 0, .int .i64 0] 36) := ⟨_, rfl⟩
  have G0 : Blk W w.heap.size 25 #[.int .i64 (n : Nat), .slice A m c] := by rw [hW0]; exact (Blk.new' _ _ _ rfl).alloc _
  have F0 : Blk W (w.heap.size + 1) 36 #[.int .i64 0, .int .i64 0] := by rw [hW0]; exact Blk.new' _ _ _ (by simp)
  have B0 : Below w.heap.size w W := by rw [hW0]; exact ((Below.refl _ w).alloc (Nat.le_refl _) _).alloc (by simp) _
  replace hW0 := Lib.hid hW0
  replace hmem := Lib.hid hmem
  clear hz hin hL hix hg hgn hle1 hmk hdN hdD hP hQ hG hni hns
  go_enter Tryd.func20, Tryd.ntmps20
  go_upto_region 1 with fail
  rw [← hW0.out]
  clear hW0
  have E0 := h.below B0 (Nat.le_refl _)
  obtain ⟨d0, d1⟩ := blkG G0
  go_upto_region 2 with (first | (go_at_call 52; (with_reducible refine (kc.out _ E0).mono ?_); rintro e w1 ⟨rfl, hb1⟩) | fail)
  have G1 := G0.below hb1 G0.lt
  have F1 := F0.below hb1 F0.lt
  have B1 := B0.trans (hb1.mono B0.size)
  have E1 := h.below B1 (Nat.le_refl _)
  have I1 := hI.below B1 (Nat.le_refl _)
  have S1 := hS.below B1 (Nat.le_refl _)
  clear G0 F0 B0 E0 hb1 kc h hI hS d0 d1
  obtain ⟨d0, d1⟩ := blkG G1
  go_upto_region 6 with (first
    | (go_at_call 60; (with_reducible refine (kv1.out _ I1).mono ?_); rintro e w7 ⟨rfl, hw⟩; obtain rfl := hw)
    | (go_at_call 60; (with_reducible refine (kv2.out _ S1).mono ?_); rintro e w7 ⟨rfl, hw⟩; obtain rfl := hw)
    | (go_at_call 61; (with_reducible refine (km1.out _ I1).mono ?_); rintro e w7 ⟨rfl, hw⟩; obtain rfl := hw)
    | (go_at_call 61; (with_reducible refine (km2.out _ S1).mono ?_); rintro e w7 ⟨rfl, hw⟩; obtain rfl := hw)
    | fail)
  have hGl := G1.lt
  have hFl := F1.lt
  have kS : Hid (∀ w' : World, Below w1.heap.size w1 w' → w'.cell? ⟨w.heap.size, 0, none⟩ = some (.int .i64 (n : Nat)) ∧ w'.cell? ⟨w.heap.size, 1, none⟩ = some (.slice A m c)) := Lib.hid (fun w' hb => ⟨(hb.cell (p := ⟨w.heap.size, 0, none⟩) hGl).trans d0, (hb.cell (p := ⟨w.heap.size, 1, none⟩) hGl).trans d1⟩)
  have kT : Hid (∀ (w' : World) (j : Nat) (u : Value), (w'.cell? ⟨w.heap.size, 0, none⟩ = some (.int .i64 (n : Nat)) ∧ w'.cell? ⟨w.heap.size, 1, none⟩ = some (.slice A m c)) → ((w'.setCell ⟨w.heap.size + 1, j, none⟩ u).cell? ⟨w.heap.size, 0, none⟩ = some (.int .i64 (n : Nat)) ∧ (w'.setCell ⟨w.heap.size + 1, j, none⟩ u).cell? ⟨w.heap.size, 1, none⟩ = some (.slice A m c))) := Lib.hid (fun w' j u hh => ⟨(World.cell?_setCell_other w' ⟨w.heap.size + 1, j, none⟩ ⟨w.heap.size, 0, none⟩ u (fun e => by injection e with e; omega)).trans hh.1, (World.cell?_setCell_other w' ⟨w.heap.size + 1, j, none⟩ ⟨w.heap.size, 1, none⟩ u (fun e => by injection e with e; omega)).trans hh.2⟩)
  have BN0 : Below w1.heap.size w1 w1.drew := (Below.refl _ w1).drew
  clear d0 d1 kv1 kv2 km1 km2
  go_loud (go_region_held3 (fun w' => w'.cell? ⟨w.heap.size, 0, none⟩ = some (.int .i64 (n : Nat)) ∧ w'.cell? ⟨w.heap.size, 1, none⟩ = some (.slice A m c))
    ((first | (with_reducible exact kS.out _ BN0) | (with_reducible exact kS.out _ BNa) | (with_reducible exact kS.out _ BNb) | (with_reducible exact kS.out _ BNc) | (with_reducible exact kS.out _ BNd) | (with_reducible exact kS.out _ BNe) | (exact kT.out _ _ _ (kT.out _ _ _ (kS.out _ BNe))) | fail))
    ((first
      | (go_at_call 64; (with_reducible refine (kcl.out _ (I1.below BN0 (Nat.le_refl _))).mono ?_); rintro e w2 ⟨v2, rfl, O2, hb2⟩
         have BNa := BN0.trans (hb2.mono BN0.size))
      | (refine step_catib (w := w2) (ys := bset i) (zs := bset x) (B := w1.heap.size) (v := v2) (A := AS) (m := ns) (c := cs) (by rfl) (.tmp 43) (.tmp 44) (by rfl) (by rfl) (by rfl) O2 (S1.below BNa (Nat.le_refl _)) (by omega) BNa.size ?_
         intro v3 w3 O3 g3 e3
         have BNb := below_own BNa g3 BNa.size (fun k hk => (O2.block_lt k hk).1)
         obtain ⟨A3, n3, c3, hv3, hn3, hc3, -, hr3⟩ := O3.form
         subst hv3
         have hn3' : n3 ≤ 128 := by rw [hn3, List.length_append, hil, hsl9.out]; omega
         replace hn3 := Lib.hid hn3)
      | (go_at_call 63; (with_reducible refine (ki.out A3 n3 c3 (bset i ++ bset x) _ (E1.below BNb (Nat.le_refl _)) hr3 (by omega)).mono ?_); rintro e w4 ⟨rfl, hb4⟩
         have BNc := BNb.trans (hb4.mono BNb.size))
      | (go_at_call 63; (with_reducible refine (ki.out AI ni ci (bset i) _ (E1.below BNc (Nat.le_refl _)) (I1.below BNc (Nat.le_refl _)) (by omega)).mono ?_); rintro e w5 ⟨rfl, hb5⟩
         have BNd := BNc.trans (hb5.mono BNc.size)
         rw [← hPh.out, ← hQh.out])
      | (go_at_call 62; (with_reducible refine (kmk.out _).mono ?_); rintro e w6 ⟨rfl, hb6⟩
         have BNe := BNd.trans (hb6.mono BNd.size)
         have F6 := F1.below BNe hFl
         have y0 := Blk.cell F6 0
         have y1 := Blk.cell F6 1
         have f0 := Blk.frozen F6 0
         have f1 := Blk.frozen F6 1
         simp at y0 y1)
      | fail)))
  all_goals go_wp2_with fail
  all_goals
    have hzz := Blk.set (Blk.set F6 0 (.int .i64 (N : Nat))) 1 (.int .i64 (D : Nat))
    have e0 := Blk.cell hzz 0
    have e1 := Blk.cell hzz 1
    simp at e0 e1
    have B6 := B1.trans (BNe.mono B1.size)
    have hbz := (B6.setCell (p := ⟨w.heap.size + 1, 0, none⟩) (by simp) (.int .i64 (N : Nat))).setCell (p := ⟨w.heap.size + 1, 1, none⟩) (by simp) (.int .i64 (D : Nat))
    refine bodyPost_ret (v := .tuple #[.agg #[.int .i64 (N : Nat), .int .i64 (D : Nat)], .int .i64 0]) (by simp [results, Tryd.results20, go_sem, e0, e1]) rfl ?_
    exact ⟨rfl, hbz⟩
end Go.Proofs.YticekkjambkifaaDoor.Fl
