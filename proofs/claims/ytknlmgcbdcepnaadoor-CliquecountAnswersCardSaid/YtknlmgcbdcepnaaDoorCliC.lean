/- Package cliquecount: the closure of Counts. -/
import Derived.Test.YtknlmgcbdcepnaaDoorCliB
import Derived.Test.YtknlmgcbdcepnaaDoorMakC
import Derived.StillTailTactics
set_option linter.unusedVariables false
set_option linter.unusedSimpArgs false
namespace Go.Proofs.YtknlmgcbdcepnaaDoor
open Go.RowKit CoBit CoCli

/-- The cells of the sums. -/
def sumL (su : Nat → Nat) : List Value := (List.range 6).map fun j => Value.int .i64 ((su j : Nat) : Int)
def upd (su : Nat → Nat) (i v : Nat) : Nat → Nat := fun j => if j = i then v else su j
theorem sumL_length (su : Nat → Nat) : (sumL su).length = 6 := by unfold sumL; simp
theorem sumL_set (su : Nat → Nat) (i v : Nat) : (sumL su).set i (.int .i64 (v : Int)) = sumL (upd su i v) := by
  refine List.ext_getElem? fun j => ?_
  unfold sumL
  rw [List.getElem?_set]
  simp only [List.getElem?_map, List.length_map, List.length_range]
  by_cases h : i = j
  · subst h
    by_cases hj : i < 6
    · simp [hj, upd]
    · simp [hj]
  · rw [if_neg h]
    by_cases hj : j < 6
    · simp [hj, upd, Ne.symm h]
    · simp [hj]
/-- The blocks of the walk. -/
structure CW (w : World) (gs gm gw ga gr n : Nat) (rows : List Nat) (most : Nat) (su : Nat → Nat) : Prop where
  s : Blk w gs 63 (sumL su).toArray
  m : Blk w gm 3 #[.int .i64 most]
  f : Blk w gw 64 #[.func (.func 42) #[] #[.pointer (some ⟨gs, 0, none⟩), .pointer (some ⟨gm, 0, none⟩), .pointer (some ⟨gw, 0, none⟩), .pointer (some ⟨ga, 0, none⟩)]]
  a : Blk w ga 61 #[.slice (some ⟨gr, 0, none⟩) n n]
  r : AU w gr rows
  t : Tab w
  d : gs ≠ gm ∧ gs ≠ gw ∧ gs ≠ ga ∧ gs ≠ gr ∧ gs ≠ 0
section
variable {w w' : World} {gs gm gw ga gr n : Nat} {rows : List Nat} {most : Nat} {su : Nat → Nat}
theorem CW.drewN (h : CW w gs gm gw ga gr n rows most su) (k : Nat) : CW (w.drewN k) gs gm gw ga gr n rows most su := ⟨h.s, h.m, h.f, h.a, h.r, h.t, h.d⟩
theorem CW.drew (h : CW w gs gm gw ga gr n rows most su) : CW w.drew gs gm gw ga gr n rows most su := ⟨h.s, h.m, h.f, h.a, h.r, h.t, h.d⟩
theorem CW.set (h : CW w gs gm gw ga gr n rows most su) (i v : Nat) : CW (w.setCell ⟨gs, i, none⟩ (.int .i64 (v : Int))) gs gm gw ga gr n rows most (upd su i v) := by
  obtain ⟨d1, d2, d3, d4, d5⟩ := h.d
  refine ⟨?_, h.m.far (p := ⟨gs, i, none⟩) (Ne.symm d1) _, h.f.far (p := ⟨gs, i, none⟩) (Ne.symm d2) _, h.a.far (p := ⟨gs, i, none⟩) (Ne.symm d3) _, h.r.far (p := ⟨gs, i, none⟩) (Ne.symm d4) _, fun j hj => ?_, h.d⟩
  · have := Blk.set h.s i (.int .i64 (v : Int))
    have e : (sumL su).toArray.setIfInBounds i (.int .i64 (v : Int)) = (sumL (upd su i v)).toArray := by rw [← sumL_set]; simp
    rwa [e] at this
  · rw [World.cell?_setCell_other _ _ _ _ (fun e => d5 (by injection e))]
    exact h.t j hj
theorem CW.cs (h : CW w gs gm gw ga gr n rows most su) {i : Nat} (hi : i < 6) : w.cell? ⟨gs, i, none⟩ = some (.int .i64 ((su i : Nat) : Int)) := by
  rw [Blk.cell h.s i]
  simp [sumL, hi]
theorem CW.cm (h : CW w gs gm gw ga gr n rows most su) : w.cell? ⟨gm, 0, none⟩ = some (.int .i64 most) := Blk.cell h.m 0
theorem CW.cf (h : CW w gs gm gw ga gr n rows most su) : w.cell? ⟨gw, 0, none⟩ = some (.func (.func 42) #[] #[.pointer (some ⟨gs, 0, none⟩), .pointer (some ⟨gm, 0, none⟩), .pointer (some ⟨gw, 0, none⟩), .pointer (some ⟨ga, 0, none⟩)]) := Blk.cell h.f 0
theorem CW.ca (h : CW w gs gm gw ga gr n rows most su) : w.cell? ⟨ga, 0, none⟩ = some (.slice (some ⟨gr, 0, none⟩) n n) := Blk.cell h.a 0
end
/-- What the walk adds to the sums. -/
def adds (rows : List Nat) (most : Nat) (L : List Nat) (nodes j : Nat) : Nat := if nodes ≤ j ∧ j < most then cl (ad rows) (j - nodes + 1) L else 0
theorem adds_at {rows : List Nat} {most nodes : Nat} {L : List Nat} (h : nodes < most) : adds rows most L nodes nodes = L.length := by
  unfold adds
  rw [if_pos ⟨Nat.le_refl _, h⟩, Nat.sub_self, cl_one]
theorem adds_nil {rows : List Nat} {most nodes j : Nat} : adds rows most [] nodes j = 0 := by
  unfold adds
  split
  · exact cl_nil _
  · rfl
theorem adds_cons {rows : List Nat} {most nodes j v : Nat} {L : List Nat} : adds rows most (v :: L) nodes j = (if j = nodes ∧ nodes < most then 1 else 0) + adds rows most (L.filter (ad rows v)) (nodes + 1) j + adds rows most L nodes j := by
  unfold adds
  by_cases h : nodes ≤ j ∧ j < most
  · rw [if_pos h, if_pos h, cl_cons]
    by_cases hj : j = nodes
    · subst hj
      rw [if_pos ⟨rfl, h.2⟩, if_neg (by omega), Nat.sub_self, cl_zero]
    · rw [if_neg (by omega), if_pos (by omega)]
      have e : j - nodes = j - (nodes + 1) + 1 := by omega
      rw [e]; omega
  · rw [if_neg h, if_neg h, if_neg (by omega), if_neg (by omega)]

set_option maxRecDepth 100000 in
set_option maxHeartbeats 2000000 in
theorem walk_any (gs gm gw ga gr n : Nat) (rows : List Nat) (most : Nat) (hl : rows.length = n) (hrl : ∀ x ∈ rows, x < 18446744073709551616) (hm6 : most ≤ 6) (k : Nat) : ∀ (nodes : Nat), nodes + k + 1 = most → ∀ (x : Nat) (su : Nat → Nat) (w : World), x < 18446744073709551616 → (∀ i, x.testBit i = true → i < n) →
    (∀ j, su j + adds rows most (bl x) nodes j ≤ 281474976710656) → CW w gs gm gw ga gr n rows most su →
    Calls Tryd.prog 42 #[.int .u64 x, .int .i64 nodes, .pointer (some ⟨gs, 0, none⟩), .pointer (some ⟨gm, 0, none⟩), .pointer (some ⟨gw, 0, none⟩), .pointer (some ⟨ga, 0, none⟩)] w fun e w' => e = .returned (.tuple #[]) ∧ CW w' gs gm gw ga gr n rows most (fun j => su j + adds rows most (bl x) nodes j) ∧ w.grownBy w' (some gs) := by
  induction k with
  | zero =>
    intro nodes hn x su w hx hxn hbd hW
    have c1 := hW.cs (i := nodes) (by omega)
    have c2 := hW.cm
    have h1 := hbd nodes
    rw [adds_at (by omega), ← pop_bl] at h1
    have hW2 := (hW.set nodes (su nodes + pop x)).drew
    have hF := hW.s.frozen nodes
    have hG : w.grownBy (w.setCell ⟨gs, nodes, none⟩ (.int .i64 ((su nodes + pop x : Nat) : Int))).drew (some gs) := grown_drew (grown_set (World.grownBy.refl _ _) _ _)
    have he : (fun j => su j + adds rows most (bl x) nodes j) = upd su nodes (su nodes + pop x) := by
      funext j
      unfold upd
      by_cases hj : j = nodes
      · rw [if_pos hj, hj, adds_at (by omega), pop_bl]
      · rw [if_neg hj]; unfold adds; rw [if_neg (by omega)]; rfl
    rw [← he] at hW2
    replace he := Lib.hid he
    have i0 : (0 : Int) ≤ (nodes : Int) := Int.natCast_nonneg _
    have i1 : (nodes : Int) < 6 := by omega
    have i2 : ((nodes : Int) + 1 == (most : Int)) = true := by rw [beq_iff_eq]; omega
    have i3 : IntKind.i64.wrap ((su nodes : Int) + (pop x : Int)) = ((su nodes + pop x : Nat) : Int) := by rw [← Int.natCast_add]; exact IntWalk.i64_in _ ⟨by omega, by omega⟩
    obtain ⟨V, hV⟩ : ∃ V : Nat, V = su nodes + pop x := ⟨_, rfl⟩
    rw [← hV] at hW2 hG i3
    have hV2 : V ≤ 281474976710656 := by omega
    replace hV := Lib.hid hV
    have k1 := fun w => ones_any x hx w
    generalize pop x = P at *
    replace k1 := Lib.hid k1
    generalize su nodes = Y at *
    clear hbd
    go_enter Tryd.func42, Tryd.ntmps42
    go_wp2_with fail
    go_region_with (go_at_call 43; refine (k1.out _).mono ?_; rintro e w4 ⟨rfl, rfl⟩)
    all_goals
      generalize (w.setCell ⟨gs, nodes, none⟩ (.int .i64 (V : Int))).drew = w5 at *
      clear c1 c2 hF
      have c2 := hW2.cm
      go_wp2_with fail
      refine bodyPost_ret (results_none rfl _ _ _) rfl ?_
      exact ⟨rfl, hW2, hG⟩
  | succ k ih =>
    intro nodes hn x su w hx hxn hbd hW
    have c1 := hW.cs (i := nodes) (by omega)
    have h1 := hbd nodes
    rw [adds_at (by omega), ← pop_bl] at h1
    have hW2 := (hW.set nodes (su nodes + pop x)).drew
    have hF := hW.s.frozen nodes
    have hG : w.grownBy (w.setCell ⟨gs, nodes, none⟩ (.int .i64 ((su nodes + pop x : Nat) : Int))).drew (some gs) := grown_drew (grown_set (World.grownBy.refl _ _) _ _)
    have i0 : (0 : Int) ≤ (nodes : Int) := Int.natCast_nonneg _
    have i1 : (nodes : Int) < 6 := by omega
    have i1' : (nodes : Int) ≤ 6 := by omega
    have i2 : ((nodes : Int) + 1 == (most : Int)) = false := by rw [beq_eq_false_iff_ne]; omega
    have i3 : IntKind.i64.wrap ((su nodes : Int) + (pop x : Int)) = ((su nodes + pop x : Nat) : Int) := by rw [← Int.natCast_add]; exact IntWalk.i64_in _ ⟨by omega, by omega⟩
    have i4 : IntKind.i64.wrap ((nodes : Int) + 1) = ((nodes + 1 : Nat) : Int) := by rw [show (nodes : Int) + 1 = ((nodes + 1 : Nat) : Int) by omega]; exact IntWalk.i64_in _ ⟨by omega, by omega⟩
    have hpx := pop_bl x
    have hst0 : ∀ j, upd su nodes (su nodes + pop x) j + (if nodes < j then adds rows most (bl x) nodes j else 0) = su j + adds rows most (bl x) nodes j := by
      intro j
      unfold upd
      by_cases hj : j = nodes
      · rw [if_pos hj, if_neg (by omega), hj, adds_at (by omega), pop_bl]; rfl
      · rw [if_neg hj]
        by_cases hj2 : nodes < j
        · rw [if_pos hj2]
        · rw [if_neg hj2]; unfold adds; rw [if_neg (by omega)]
    replace hst0 := Lib.hid hst0
    obtain ⟨V, hV⟩ : ∃ V : Nat, V = su nodes + pop x := ⟨_, rfl⟩
    rw [← hV] at hW2 hG i3 hst0
    have hV2 : V ≤ 281474976710656 := by omega
    generalize upd su nodes V = su1 at *
    replace hV := Lib.hid hV
    have k1 := fun w => ones_any x hx w
    generalize pop x = P at *
    generalize su nodes = Y at *
    replace k1 := Lib.hid k1
    replace hbd := Lib.hid hbd
    replace ih := Lib.hid (ih (nodes + 1) (by omega))
    clear hpx
    go_enter Tryd.func42, Tryd.ntmps42
    go_wp2_with fail
    go_region_with (go_at_call 43; refine (k1.out _).mono ?_; rintro e w4 ⟨rfl, rfl⟩)
    all_goals
      generalize (w.setCell ⟨gs, nodes, none⟩ (.int .i64 (V : Int))).drew = w5 at *
      clear c1 hF
      have c2 := hW2.cm
      go_wp2_with fail
      go_loopw [8] (fun v wr => ∃ (m : Nat) (l : List Nat) (s : Nat → Nat), v = .int .u64 m ∧ m < 18446744073709551616 ∧ Hid (bl x = l ++ bl m) ∧ Hid (∀ j, s j + (if nodes < j then adds rows most (bl m) nodes j else 0) = su j + adds rows most (bl x) nodes j) ∧ CW wr gs gm gw ga gr n rows most s ∧ w.grownBy wr (some gs)) (fun v _ => (intOf v).toNat)
      case atStart => exact ⟨x, [], su1, rfl, hx, Lib.hid rfl, hst0, hW2, hG⟩
      case round =>
        obtain ⟨m, l, s, rfl, hm, hl1, hs, hWr, hGr⟩ := hrel
        clear hst0 hW2 hG c2
        by_cases h0 : 0 < m
        · have hz : ((m : Int) != 0) = true := by simp; omega
          have hst := bl_step h0 hm
          have hl2 : bl x = l ++ Lib.ctz 64 m :: bl (m &&& (m - 1)) := by rw [hl1.out, hst]
          have hin : Lib.ctz 64 m ∈ bl x := by rw [hl2]; simp
          rw [mem_bl] at hin
          have hlt := and_pred_lt h0
          have hlt2 := and_lt' (y := m - 1) hm
          have hand := bits_and_u64_nat m (m - 1) hm (by omega)
          have hsub : IntKind.u64.wrap ((m : Int) - 1) = ((m - 1 : Nat) : Int) := by rw [show (m : Int) - 1 = ((m - 1 : Nat) : Int) by omega]; exact u64_in _ (by omega)
          have hl3 : bl x = (l ++ [Lib.ctz 64 m]) ++ bl (m &&& (m - 1)) := by rw [hl2]; simp
          have hzn := hxn _ hin.2
          have hz64 := hin.1
          have htz := tz_any m h0 hm wr hWr.t
          have hadd : ∀ j, s j + adds rows most ((bl (m &&& (m - 1))).filter (ad rows (Lib.ctz 64 m))) (nodes + 1) j + (if nodes < j then adds rows most (bl (m &&& (m - 1))) nodes j else 0) = su j + adds rows most (bl x) nodes j := by
            intro j
            have hh := hs.out j
            rw [hst] at hh
            by_cases hj : nodes < j
            · rw [if_pos hj] at hh ⊢
              rw [adds_cons, if_neg (by omega)] at hh
              omega
            · rw [if_neg hj] at hh ⊢
              have : ∀ L, adds rows most L (nodes + 1) j = 0 := fun L => by unfold adds; rw [if_neg (by omega)]
              rw [this]; omega
          clear hin hst hs
          generalize Lib.ctz 64 m = z at *
          generalize m &&& (m - 1) = m' at *
          have hnx := bl_next (r := rows.getD z 0) hx hl2
          have hr64 := getD_lt hrl z
          have hbz := beh_lt (v := z) hx
          have hand2 := bits_and_u64_nat (beh x z) (rows.getD z 0) hbz hr64
          have hbr := and_lt (x := beh x z) hr64
          have hcz := hWr.r.cell (i := z) (by omega)
          have hsubn : ∀ i, (beh x z &&& rows.getD z 0).testBit i = true → i < n := fun i hi => by
            rw [Nat.testBit_and, beh_bit hx hz64] at hi
            simp at hi
            exact hxn i hi.1.1
          have hbe := fun w => behind_q x z hx hz64 w
          have hnx' : bl (beh x z &&& rows.getD z 0) = (bl m').filter (ad rows z) := hnx
          have hic := fun w hW => ih.out (beh x z &&& rows.getD z 0) s w hbr hsubn (fun j => by have h1 := hadd j; have h2 := hbd.out j; rw [hnx']; omega) hW
          rw [hnx'] at hic
          have cm := hWr.cm
          have cf := hWr.cf
          have ca := hWr.ca
          clear hl1 hl2 hnx hnx'
          generalize beh x z &&& rows.getD z 0 = X at *
          generalize beh x z = bz at *
          generalize rows.getD z 0 = rz at *
          replace hadd := Lib.hid hadd
          replace hl3 := Lib.hid hl3
          replace hic := Lib.hid hic
          replace hbe := Lib.hid hbe
          replace htz := Lib.hid htz
          have j0 : (0 : Int) ≤ (z : Int) := Int.natCast_nonneg _
          have j1 : (z : Int) < (n : Int) := by omega
          go_wp2_with fail
          refine htz.out.mono ?_
          rintro e w1 ⟨rfl, rfl⟩
          go_wp2_with fail
          refine wp_region_still_tail 11 (by kernel_rfl) (by kernel_rfl) ?_
          simp only [List.take_succ_cons, List.take_zero, List.drop_succ_cons, List.drop_zero]
          change wpStill _ _ wr.drew _ _ _
          repeat (first | still_step | (refine wpStill_step (fun K hK => ?_); go_simp; refine ⟨_, hbe.out _, ?_⟩; refine hK _ ?_; clear hK K))
          refine wpStill_nil ?_
          change wpList _ _ _ _ _ wr.drew
          go_wp2_with (go_at_call 42; refine (hic.out _ hWr.drew).mono ?_; rintro e w4 ⟨rfl, hW4, hG4⟩)
          go_roundw
          case rel => exact ⟨m', _, _, rfl, hlt2, hl3, hadd, hW4, grown_trans hGr (grown_trans (grown_drew (World.grownBy.refl _ _)) hG4)⟩
          case measure => simp [intOf]; omega
        · have hz : ((m : Int) != 0) = false := by simp; omega
          have he : s = fun j => su j + adds rows most (bl x) nodes j := by
            funext j
            have := hs.out j
            rw [show m = 0 by omega, bl_zero, adds_nil] at this
            split at this <;> exact this
          rw [he] at hWr
          clear he hs
          go_wp2_with fail
          go_end0
          exact ⟨rfl, hWr, hGr⟩
end Go.Proofs.YtknlmgcbdcepnaaDoor
