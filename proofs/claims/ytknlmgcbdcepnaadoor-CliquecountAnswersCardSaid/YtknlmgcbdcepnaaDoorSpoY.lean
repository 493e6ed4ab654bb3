/- What is made of numbers (cohesionmake): Spoilt. -/
import Derived.Test.YtknlmgcbdcepnaaDoorSpoM
import Derived.BigRegion
import Derived.Deep.CutBlock
import Derived.Deep.DeepCutAuto
set_option linter.unusedVariables false
set_option linter.unusedSimpArgs false
namespace Go.Proofs.YtknlmgcbdcepnaaDoor
open Go.RowKit

/-- What stands behind the switch. -/
def SpoS (w : World) (g : Nat) (n : Int) (m : Nat) (wx : World) : Prop := ∃ (n' : Int) (A' : Option Addr) (m' c' : Nat) (es : List (Int × Int)), Blk wx w.heap.size 24 #[.int .i64 n', .slice A' m' c'] ∧ Blk wx (w.heap.size + 1) 24 #[.int .i64 0, .slice none 0 0] ∧ RE wx A' m' es ∧ Fr (w.heap.size + 2) A' ∧ m' ≤ m + 1 ∧ m' ≤ c' ∧ (n' = n ∨ n' ≤ 67) ∧ Dk wx g ∧ w.grownBy wx (some g)
set_option maxRecDepth 100000 in
set_option maxHeartbeats 40000000 in
theorem spoilt_any (g : Nat) (A : Option Addr) (m c : Nat) (n : Int) (es : List (Int × Int)) (w : World) (hD : Dk w g) (hE : RE w A m es) (hm : m ≤ 1000) :
    Calls Tryd.prog 29 #[.pointer (some ⟨g, 0, none⟩), .agg #[.int .i64 n, .slice A m c]] w (RetSpo w g n m) := by
  have hg0 := hD.lt
  obtain ⟨i0, hi0, hz0, hz1, hz2⟩ := info_parts edge_info
  have hel := Lib.hid hE.len
  obtain ⟨w1, hw1⟩ : ∃ w1, (w.alloc (.cells #[.int .i64 n, .slice A m c] 24)).alloc (.cells #[.int .i64 0, .slice none 0 0] 24) = w1 := ⟨_, rfl⟩
  have bg1 : Blk w1 w.heap.size 24 #[.int .i64 n, .slice A m c] := by rw [← hw1]; exact (Blk.new w _ _).alloc _
  have br1 : Blk w1 (w.heap.size + 1) 24 #[.int .i64 0, .slice none 0 0] := by rw [← hw1]; have := Blk.new (w.alloc (.cells #[.int .i64 n, .slice A m c] 24)) 24 #[.int .i64 0, .slice none 0 0]; rw [World.size_alloc] at this; exact this
  have hE1 : RE w1 A m es := by rw [← hw1]; exact (hE.alloc _).alloc _
  have hD1 : Dk w1 g := by rw [← hw1]; exact (hD.alloc _).alloc _
  have hg1 : w.grownBy w1 (some g) := by rw [← hw1]; exact grown_alloc (grown_alloc (World.grownBy.refl _ _) _) _
  have hz : w1.heap.size = w.heap.size + 2 := by rw [← hw1]; simp
  have c0 := Blk.cell bg1 0
  have c1 := Blk.cell bg1 1
  simp at c0 c1
  go_enter Tryd.func29, Tryd.ntmps29
  go_upto_region 1 with fail
  clear hw1 hE hD
  go_upto_region 3 with (first
    | (at_builtin; refine wpList_append_any _ rfl _ _ 22 rfl (w.heap.size + 2) 59 i0 _ 2 16 Tryd.underlying22 hi0 hz0 hz1 hz2 rfl (by omega) (.slice none 0 0) 0 [] rfl (World.ownsRow_nil _ _ _ _) w1.heap.size A m c (edgs es) rfl hE1 (edgs_one _) (by unfold maxLen; omega) (by omega) (by omega) ?_; intro v2 w2 hown2 hg2 _
       have hO2 : OE w2 (w.heap.size + 2) v2 es := by unfold OE; have := hown2; rw [List.nil_append, Nat.zero_add, ← hel.out] at this; exact this
       obtain ⟨A2, n2, c2, hv2, hn2, hc2, -, hE2, hF2⟩ := hO2.form
       have hn2' : n2 = m := hn2.trans hel.out
       clear hn2
       subst hv2
       obtain rfl := hn2'.symm
       have bg2 := bg1.grown hg2 (by intro e; cases e)
       have br2 := br1.grown hg2 (by intro e; cases e)
       have hD2 := hD1.grown hg2 (fun k h => by cases h)
       have b1 := Blk.cell bg2 1
       have b1f := Blk.frozen bg2 1
       simp at b1)
    | fail)
  have bg3 : Blk (w2.setCell ⟨w.heap.size, 1, none⟩ (.slice A2 m c2)) w.heap.size 24 #[.int .i64 n, .slice A2 m c2] := bg2.set 1 (.slice A2 m c2)
  have br3 := br2.far (p := ⟨w.heap.size, 1, none⟩) (by simp) (.slice A2 m c2)
  have hO3 := hO2.set_far (p := ⟨w.heap.size, 1, none⟩) (by simp) (.slice A2 m c2)
  have hD3 : Dk (w2.setCell ⟨w.heap.size, 1, none⟩ (.slice A2 m c2)) g := hD2.below ((Below.refl w.heap.size w2).setCell (p := ⟨w.heap.size, 1, none⟩) (Nat.le_refl _) _) hg0
  have hg3 : w.grownBy (w2.setCell ⟨w.heap.size, 1, none⟩ (.slice A2 m c2)) (some g) := grown_set_new (grown_of_new hg1 hg2 (fun k h => by cases h)) (Nat.le_refl _) _
  clear bg1 br1 hE1 hD1 hg1 c0 c1 bg2 br2 hD2 hg2 b1 b1f hown2 hO2 hE2
  generalize w2.setCell ⟨w.heap.size, 1, none⟩ (.slice A2 m c2) = w3 at *
  go_wp2_with fail
  refine (next_any g 6 _ hD3 (by omega)).mono ?_
  rintro e w4 ⟨r, rfl, r0, r1, -, hD4, hg4⟩
  replace r1 := r1 (by omega)
  have bg4 := bg3.grown hg4 (by intro e; injection e with e; omega)
  have br4 := br3.grown hg4 (by intro e; injection e with e; omega)
  have hO4 := OE.kept hO3 hg4 (by
    cases h : (Value.slice A2 m c2).ownBlock with
    | none => exact .inl rfl
    | some k => right; intro e; injection e with e; have := (hO3.block_lt k h).1; omega)
  have hgw := grown_trans hg3 hg4
  have c0 := Blk.cell bg4 0
  have c1 := Blk.cell bg4 1
  have r0c := Blk.cell br4 0
  have r1c := Blk.cell br4 1
  simp at c0 c1 r0c r1c
  have f0 := Blk.frozen bg4 0
  have f1 := Blk.frozen bg4 1
  have fr0 := Blk.frozen br4 0
  have fr1 := Blk.frozen br4 1
  clear bg3 br3 hO3 hD3 hg3 hg4
  go_upto_block 0 with fail
  go_cut [] (fun wx => SpoS w g n m wx)
  case first =>
    have hr : r = 5 ∨ r = 0 ∨ r = 1 ∨ r = 2 ∨ r = 3 ∨ r = 4 := by omega
    rcases hr with rfl | rfl | rfl | rfl | rfl | rfl
    · obtain ⟨hE4, hc4, hF4⟩ := hO4.re (by rw [hel.out])
      have hfin : Hid (SpoS w g n m w4) := Lib.hid ⟨n, A2, m, c2, es, bg4, br4, hE4, hF4, by omega, hc4, .inl rfl, hD4, hgw⟩
      clear hE4 hc4 hF4 hD4 hgw hO4
      go_wp2_with fail
      go_meet
      exact hfin.out
    · go_wp2_with fail
      refine (next_any g 70 _ hD4 (by omega)).mono ?_
      rintro e w5 ⟨y, rfl, y0, y1, -, hD5, hg5⟩
      replace y1 := y1 (by omega)
      have bg5 := bg4.grown hg5 (by intro e; injection e with e; omega)
      have br5 := br4.grown hg5 (by intro e; injection e with e; omega)
      have hgw5 := grown_trans hgw hg5
      have hO5 := OE.kept hO4 hg5 (by
        cases h : (Value.slice A2 m c2).ownBlock with
        | none => exact .inl rfl
        | some k => right; intro e; injection e with e; have := (hO4.block_lt k h).1; omega)
      have c0 := Blk.cell bg5 0
      have c1 := Blk.cell bg5 1
      have d0 := Blk.cell br5 0
      have d1 := Blk.cell br5 1
      simp at c0 c1 d0 d1
      have f0 := Blk.frozen bg5 0
      have f1 := Blk.frozen bg5 1
      have fr0 := Blk.frozen br5 0
      have fr1 := Blk.frozen br5 1
      have hO6 := hO5.set_far (p := ⟨w.heap.size, 0, none⟩) (by simp) (.int .i64 (y - 2))
      obtain ⟨hE6, hc6, hF6⟩ := hO6.re (by rw [hel.out])
      have hD6 : Dk (w5.setCell ⟨w.heap.size, 0, none⟩ (.int .i64 (y - 2))) g := hD5.below ((Below.refl w.heap.size w5).setCell (p := ⟨w.heap.size, 0, none⟩) (Nat.le_refl _) _) hg0
      have hgw6 : w.grownBy (w5.setCell ⟨w.heap.size, 0, none⟩ (.int .i64 (y - 2))) (some g) := grown_set_new hgw5 (Nat.le_refl _) _
      have bg6 : Blk (w5.setCell ⟨w.heap.size, 0, none⟩ (.int .i64 (y - 2))) w.heap.size 24 #[.int .i64 (y - 2), .slice A2 m c2] := bg5.set 0 (.int .i64 (y - 2))
      have br6 := br5.far (p := ⟨w.heap.size, 0, none⟩) (by simp) (.int .i64 (y - 2))
      have hfin := Lib.hid (show SpoS w g n m (w5.setCell ⟨w.heap.size, 0, none⟩ (.int .i64 (y - 2))) from ⟨y - 2, A2, m, c2, es, bg6, br6, hE6, hF6, by omega, hc6, .inr (by omega), hD6, hgw6⟩)
      clear hE6 hc6 hF6 hD6 hgw6 hO6 hO5 hO4 bg4 br4 hD4 hgw hg5 r0c r1c
      go_wp2_with fail
      go_meet
      exact hfin.out
    · by_cases hm0 : 0 < m
      · have i1 : (0 : Int) < (m : Int) := by omega
        obtain ⟨eb, c2', hsl, hc2', heb, hEB⟩ := EB.of_own hO4 (by rw [hel.out]; omega)
        have hA2 : A2 = some ⟨eb, 0, none⟩ := by injection hsl
        subst hA2
        have hcc : m ≤ c2 := by have h1 : c2 = c2' := (by injection hsl); have h2 := hel.out; omega
        rw [hel.out] at hEB
        have hF : Fr (w.heap.size + 2) (some (⟨eb, 0, none⟩ : Addr)) := fun ad e => by injection e with e; subst e; exact heb
        clear hsl hc2' hO4
        go_wp2_with fail
        refine (next_any g m _ hD4 (by omega)).mono ?_
        rintro e w5 ⟨iz, rfl, iz0, iz1, -, hD5, hg5⟩
        replace iz1 := iz1 (by omega)
        obtain ⟨i, rfl⟩ := Int.eq_ofNat_of_zero_le iz0
        have hEB5 := hEB.grown hg5 (by intro e; injection e with e; omega)
        have bg5 := bg4.grown hg5 (by intro e; injection e with e; omega)
        have br5 := br4.grown hg5 (by intro e; injection e with e; omega)
        have hgw5 := grown_trans hgw hg5
        obtain ⟨x, hx⟩ := hEB5.cell (j := i * 2) (by omega)
        obtain ⟨y, hy⟩ := hEB5.cell (j := i * 2 + 1) (by omega)
        have fx := hEB5.frozen (i * 2)
        have fy := hEB5.frozen (i * 2 + 1)
        have c0 := Blk.cell bg5 0
        have c1 := Blk.cell bg5 1
        simp at c0 c1
        clear hEB bg4 br4 hgw hD4 hg5 f0 f1 fr0 fr1 r0c r1c
        go_upto_region 9 with fail
        go_region
        all_goals
          have bg6 := ((bg5.far (p := ⟨eb, i * 2, none⟩) (by simp; omega) (.int .i64 y)).far (p := ⟨eb, i * 2 + 1, none⟩) (by simp; omega) (.int .i64 x)).drew
          have br6 := ((br5.far (p := ⟨eb, i * 2, none⟩) (by simp; omega) (.int .i64 y)).far (p := ⟨eb, i * 2 + 1, none⟩) (by simp; omega) (.int .i64 x)).drew
          have hEB6 := ((hEB5.set (i * 2) y).set (i * 2 + 1) x).drew
          have hD6 : Dk (((w5.setCell ⟨eb, i * 2, none⟩ (.int .i64 y)).setCell ⟨eb, i * 2 + 1, none⟩ (.int .i64 x)).drew) g := hD5.below ((((Below.refl w.heap.size w5).setCell (p := ⟨eb, i * 2, none⟩) (by simp; omega) _).setCell (p := ⟨eb, i * 2 + 1, none⟩) (by simp; omega) _).drew) hg0
          have hgw6 : w.grownBy (((w5.setCell ⟨eb, i * 2, none⟩ (.int .i64 y)).setCell ⟨eb, i * 2 + 1, none⟩ (.int .i64 x)).drew) (some g) := grown_drew (grown_set_new (grown_set_new hgw5 (p := ⟨eb, i * 2, none⟩) (by simp; omega) _) (p := ⟨eb, i * 2 + 1, none⟩) (by simp; omega) _)
          clear bg5 br5 hEB5 hD5 hgw5 hx hy fx fy c0 c1
          generalize ((w5.setCell ⟨eb, i * 2, none⟩ (.int .i64 y)).setCell ⟨eb, i * 2 + 1, none⟩ (.int .i64 x)).drew = w6 at *
          obtain ⟨es6, hE6⟩ := hEB6.re
          have hfin : Hid (SpoS w g n m w6) := Lib.hid ⟨n, _, m, c2, es6, bg6, br6, hE6, hF, by omega, hcc, .inl rfl, hD6, hgw6⟩
          clear hE6 hEB6 hD6 hgw6 bg6 br6
          go_wp2_with fail
          go_meet
          exact hfin.out
      · have i1 : ¬ (0 : Int) < (m : Int) := by omega
        obtain ⟨hE4, hc4, hF4⟩ := hO4.re (by rw [hel.out])
        have hfin : Hid (SpoS w g n m w4) := Lib.hid ⟨n, A2, m, c2, es, bg4, br4, hE4, hF4, by omega, hc4, .inl rfl, hD4, hgw⟩
        clear hE4 hc4 hF4 hD4 hgw hO4
        go_wp2_with fail
        go_meet
        exact hfin.out
    · by_cases hm0 : 1 < m
      · have i1 : (1 : Int) < (m : Int) := by omega
        have i0' : (0 : Int) < (m : Int) := by omega
        obtain ⟨eb, c2', hsl, hc2', heb, hEB⟩ := EB.of_own hO4 (by rw [hel.out]; omega)
        have hA2 : A2 = some ⟨eb, 0, none⟩ := by injection hsl
        subst hA2
        have hcc : m ≤ c2 := by have h1 : c2 = c2' := (by injection hsl); have h2 := hel.out; omega
        rw [hel.out] at hEB
        have hF : Fr (w.heap.size + 2) (some (⟨eb, 0, none⟩ : Addr)) := fun ad e => by injection e with e; subst e; exact heb
        clear hsl hc2' hO4
        obtain ⟨l, hl⟩ : ∃ l, Hid (l + 1 = m) := ⟨m - 1, Lib.hid (by omega)⟩
        have e1 : IntKind.i64.wrap ((m : Int) - 1) = (l : Int) := by have := hl.out; exact (IntWalk.i64_in _ ⟨by omega, by omega⟩).trans (by omega)
        have e2 : wrap64 ((m : Int) - 1) = (l : Int) := by have := hl.out; unfold wrap64; omega
        have j1 : (l : Int) < (m : Int) := by have := hl.out; omega
        have j2 : (0 : Int) ≤ (l : Int) := Int.natCast_nonneg _
        obtain ⟨x0, hx0⟩ := hEB.cell (j := 0) (by omega)
        obtain ⟨x1, hx1⟩ := hEB.cell (j := 1) (by omega)
        obtain ⟨y0, hy0⟩ := hEB.cell (j := l * 2) (by have := hl.out; omega)
        obtain ⟨y1, hy1⟩ := hEB.cell (j := l * 2 + 1) (by have := hl.out; omega)
        have ff := hEB.frozen
        have fx0 := ff 0
        have fx1 := ff 1
        have fy0 := ff (l * 2)
        have fy1 := ff (l * 2 + 1)
        have c0 := Blk.cell bg4 0
        have c1 := Blk.cell bg4 1
        simp at c0 c1
        have i0n : 0 < m := by omega
        have l1 : ¬ l = 0 := by have := hl.out; omega
        have l2 : ¬ l * 2 = 1 := by omega
        have l3 : ¬ 1 = l * 2 := by omega
        have l4 : ¬ 0 = l := by omega
        clear ff r0c r1c f0 f1 fr0 fr1
        go_upto_region 12 with fail
        go_region
        all_goals
          have bg6 := ((((bg4.far (p := ⟨eb, 0, none⟩) (by simp; omega) (.int .i64 y0)).far (p := ⟨eb, 1, none⟩) (by simp; omega) (.int .i64 y1)).far (p := ⟨eb, l * 2, none⟩) (by simp; omega) (.int .i64 x0)).far (p := ⟨eb, l * 2 + 1, none⟩) (by simp; omega) (.int .i64 x1)).drew
          have br6 := ((((br4.far (p := ⟨eb, 0, none⟩) (by simp; omega) (.int .i64 y0)).far (p := ⟨eb, 1, none⟩) (by simp; omega) (.int .i64 y1)).far (p := ⟨eb, l * 2, none⟩) (by simp; omega) (.int .i64 x0)).far (p := ⟨eb, l * 2 + 1, none⟩) (by simp; omega) (.int .i64 x1)).drew
          have hEB6 := ((((hEB.set 0 y0).set 1 y1).set (l * 2) x0).set (l * 2 + 1) x1).drew
          have hD6 : Dk (((((w4.setCell ⟨eb, 0, none⟩ (.int .i64 y0)).setCell ⟨eb, 1, none⟩ (.int .i64 y1)).setCell ⟨eb, l * 2, none⟩ (.int .i64 x0)).setCell ⟨eb, l * 2 + 1, none⟩ (.int .i64 x1)).drew) g := hD4.below ((((((Below.refl w.heap.size w4).setCell (p := ⟨eb, 0, none⟩) (by simp; omega) _).setCell (p := ⟨eb, 1, none⟩) (by simp; omega) _).setCell (p := ⟨eb, l * 2, none⟩) (by simp; omega) _).setCell (p := ⟨eb, l * 2 + 1, none⟩) (by simp; omega) _).drew) hg0
          have hgw6 : w.grownBy (((((w4.setCell ⟨eb, 0, none⟩ (.int .i64 y0)).setCell ⟨eb, 1, none⟩ (.int .i64 y1)).setCell ⟨eb, l * 2, none⟩ (.int .i64 x0)).setCell ⟨eb, l * 2 + 1, none⟩ (.int .i64 x1)).drew) (some g) := grown_drew (grown_set_new (grown_set_new (grown_set_new (grown_set_new hgw (p := ⟨eb, 0, none⟩) (by simp; omega) _) (p := ⟨eb, 1, none⟩) (by simp; omega) _) (p := ⟨eb, l * 2, none⟩) (by simp; omega) _) (p := ⟨eb, l * 2 + 1, none⟩) (by simp; omega) _)
          clear bg4 br4 hEB hD4 hgw hx0 hx1 hy0 hy1 fx0 fx1 fy0 fy1 c0 c1
          generalize (((((w4.setCell ⟨eb, 0, none⟩ (.int .i64 y0)).setCell ⟨eb, 1, none⟩ (.int .i64 y1)).setCell ⟨eb, l * 2, none⟩ (.int .i64 x0)).setCell ⟨eb, l * 2 + 1, none⟩ (.int .i64 x1)).drew) = w6 at *
          obtain ⟨es6, hE6⟩ := hEB6.re
          have hfin : Hid (SpoS w g n m w6) := Lib.hid ⟨n, _, m, c2, es6, bg6, br6, hE6, hF, by omega, hcc, .inl rfl, hD6, hgw6⟩
          clear hE6 hEB6 hD6 hgw6 bg6 br6
          go_wp2_with fail
          go_meet
          exact hfin.out
      · have i1 : ¬ (1 : Int) < (m : Int) := by omega
        obtain ⟨hE4, hc4, hF4⟩ := hO4.re (by rw [hel.out])
        have hfin : Hid (SpoS w g n m w4) := Lib.hid ⟨n, A2, m, c2, es, bg4, br4, hE4, hF4, by omega, hc4, .inl rfl, hD4, hgw⟩
        clear hE4 hc4 hF4 hD4 hgw hO4
        go_wp2_with fail
        go_meet
        exact hfin.out
    · by_cases hm0 : 0 < m
      · have i1 : (0 : Int) < (m : Int) := by omega
        obtain ⟨eb, c2', hsl, hc2', heb, hEB⟩ := EB.of_own hO4 (by rw [hel.out]; omega)
        have hA2 : A2 = some ⟨eb, 0, none⟩ := by injection hsl
        subst hA2
        have hcc : m ≤ c2 := by have h1 : c2 = c2' := (by injection hsl); have h2 := hel.out; omega
        rw [hel.out] at hEB
        clear hsl hc2'
        obtain ⟨l, hl⟩ : ∃ l, Hid (l + 1 = m) := ⟨m - 1, Lib.hid (by omega)⟩
        have e1 : IntKind.i64.wrap ((m : Int) - 1) = (l : Int) := by have := hl.out; exact (IntWalk.i64_in _ ⟨by omega, by omega⟩).trans (by omega)
        have e2 : wrap64 ((m : Int) - 1) = (l : Int) := by have := hl.out; unfold wrap64; omega
        have j1 : (l : Int) < (m : Int) := by have := hl.out; omega
        have j2 : (0 : Int) ≤ (l : Int) := Int.natCast_nonneg _
        obtain ⟨y0, hy0⟩ := hEB.cell (j := l * 2) (by have := hl.out; omega)
        obtain ⟨y1, hy1⟩ := hEB.cell (j := l * 2 + 1) (by have := hl.out; omega)
        have hown4 : w4.ownsRow (w.heap.size + 2) 59 2 (.slice (some ⟨eb, 0, none⟩) m c2) m (edgs es) := by have := hO4; unfold OE at this; rwa [hel.out] at this
        have hz4 := hgw.size
        have hzz : w.heap.size + 2 ≤ w4.heap.size := by have := hEB.lt; omega
        clear hO4
        have ca := Blk.cell (bg4.alloc (.cells #[.int .i64 y0, .int .i64 y1] 59)) 1
        simp at ca
        go_upto_region 15 with fail
        go_region_law (first
            | (refine step_append_any _ (by rfl) (.tmp 78) (.tmp 85) 22 (by rfl) (w.heap.size + 2) 59 i0 _ 2 16 Tryd.underlying22 hi0 hz0 hz1 hz2 rfl (by omega) (.slice (some ⟨eb, 0, none⟩) m c2) m (edgs es) (by rfl) (show (w4.alloc (.cells #[.int .i64 y0, .int .i64 y1] 59)).drew.ownsRow _ _ _ _ _ _ from World.ownsRow.alloc hown4 _) _ (some ⟨w4.heap.size, 0, none⟩) 1 1 (edgs [(y0, y1)]) (by rfl) (Reads.drew (news_edge w4 59 y0 y1)) (edgs_one _) (by unfold maxLen; omega) (by omega) (by simp; omega) ?_
               intro v9 w9 hown9 hg9 _
               have hO9 : OE w9 (w.heap.size + 2) v9 (es ++ [(y0, y1)]) := by unfold OE; rw [List.length_append, edgs_append, hel.out]; exact hown9
               obtain ⟨A9, n9, c9, hv9, hn9, hc9, -, hE9, hF9⟩ := hO9.form
               subst hv9
               have hn9' : n9 ≤ m + 1 := by rw [hn9, List.length_append, hel.out]; simp
               clear hn9
               have bg9 := ((bg4.alloc (.cells #[.int .i64 y0, .int .i64 y1] 59)).drew).grown hg9 (by intro e; simp [Value.ownBlock] at e; omega)
               have br9 := ((br4.alloc (.cells #[.int .i64 y0, .int .i64 y1] 59)).drew).grown hg9 (by intro e; simp [Value.ownBlock] at e; omega)
               have k1 := Blk.cell bg9 1
               have k1f := Blk.frozen bg9 1
               simp at k1)
            | fail)
        all_goals
          have bg6 : Blk (w9.setCell ⟨w.heap.size, 1, none⟩ (.slice A9 n9 c9)) w.heap.size 24 #[.int .i64 n, .slice A9 n9 c9] := bg9.set 1 (.slice A9 n9 c9)
          have br6 := br9.far (p := ⟨w.heap.size, 1, none⟩) (by simp) (.slice A9 n9 c9)
          have hg49 : w4.grownBy w9 (some eb) := grown_trans (grown_drew (grown_alloc (World.grownBy.refl _ _) _)) hg9
          have hgw9 : w.grownBy w9 (some g) := grown_of_new hgw hg49 (fun k e => by injection e with e; omega)
          have hDg : Dk w9 g := hD4.grown hg49 (fun k e => by injection e with e; omega)
          have hD6 : Dk (w9.setCell ⟨w.heap.size, 1, none⟩ (.slice A9 n9 c9)) g := hDg.below ((Below.refl w.heap.size w9).setCell (p := ⟨w.heap.size, 1, none⟩) (Nat.le_refl _) _) hg0
          have hgw6 : w.grownBy (w9.setCell ⟨w.heap.size, 1, none⟩ (.slice A9 n9 c9)) (some g) := grown_set_new hgw9 (Nat.le_refl _) _
          have hE6 : RE (w9.setCell ⟨w.heap.size, 1, none⟩ (.slice A9 n9 c9)) A9 n9 (es ++ [(y0, y1)]) := hE9.kept (grown_set (World.grownBy.refl _ _) _ _) (fun ad e h => by have := hF9 ad e; injection h with h; omega)
          clear bg9 br9 hD4 hgw hg9 hE9 hgw9 hDg hg49 k1 k1f ca c0 c1 hown4 hown9 hO9 hEB
          generalize (w9.setCell ⟨w.heap.size, 1, none⟩ (.slice A9 n9 c9)) = w6 at *
          have hfin : Hid (SpoS w g n m w6) := Lib.hid ⟨n, A9, n9, c9, _, bg6, br6, hE6, hF9, hn9', hc9, .inl rfl, hD6, hgw6⟩
          clear hE6 hD6 hgw6 bg6 br6
          go_wp2_with fail
          go_meet
          exact hfin.out
      · have i1 : ¬ (0 : Int) < (m : Int) := by omega
        obtain ⟨hE4, hc4, hF4⟩ := hO4.re (by rw [hel.out])
        have hfin : Hid (SpoS w g n m w4) := Lib.hid ⟨n, A2, m, c2, es, bg4, br4, hE4, hF4, by omega, hc4, .inl rfl, hD4, hgw⟩
        clear hE4 hc4 hF4 hD4 hgw hO4
        go_wp2_with fail
        go_meet
        exact hfin.out
    · by_cases hm0 : 0 < m
      · have i1 : (0 : Int) < (m : Int) := by omega
        obtain ⟨eb, c2', hsl, hc2', heb, hEB⟩ := EB.of_own hO4 (by rw [hel.out]; omega)
        have hA2 : A2 = some ⟨eb, 0, none⟩ := by injection hsl
        subst hA2
        have hcc : m ≤ c2 := by have h1 : c2 = c2' := (by injection hsl); have h2 := hel.out; omega
        rw [hel.out] at hEB
        have hF : Fr (w.heap.size + 2) (some (⟨eb, 0, none⟩ : Addr)) := fun ad e => by injection e with e; subst e; exact heb
        clear hsl hc2' hO4
        have hneg : some eb ≠ some g := by intro e; injection e with e; omega
        have hneb : some w.heap.size ≠ some g := by intro e; injection e with e; omega
        have hEBl := hEB.lt
        go_upto_region 18 with fail
        go_region_with (first
          | (go_at_call 17; with_reducible refine (next_any g (m : Int) _ (by first | exact hD4 | exact hD4.drew | exact hD4.drewN _) (by omega)).mono ?_; rintro e w5 ⟨iz, rfl, iz0, iz1, -, hD5, hg5⟩; replace iz1 := iz1 (by omega); obtain ⟨i, rfl⟩ := Int.eq_ofNat_of_zero_le iz0
             have hg5' : w4.grownBy w5 (some g) := grown_trans (grown_drew (World.grownBy.refl _ _)) hg5
             have hEB5 := hEB.grown hg5' hneg
             have bg5 := bg4.grown hg5' hneb
             obtain ⟨y, hy⟩ := hEB5.cell (j := i * 2 + 1) (by omega)
             have k1 := Blk.cell bg5 1
             simp at k1)
          | (go_at_call 17; with_reducible refine (next_any g 5 _ (by first | exact hD5 | exact hD5.drew | exact hD5.drewN _) (by omega)).mono ?_; rintro e w6 ⟨z, rfl, z0, z1, -, hD6, hg6⟩
             have hEB6 := hEB5.grown hg6 hneg
             have hy6 : w6.cell? ⟨eb, i * 2 + 1, none⟩ = some (.int .i64 y) := (hg6.block_cell ⟨eb, i * 2 + 1, none⟩ hEB5.lt hneg).trans hy
             have bg6 := bg5.grown hg6 hneb
             have fy6 := hEB6.frozen (i * 2 + 1)
             have k2 := Blk.cell bg6 1
             simp at k2)
          | fail)
        all_goals
          have bg7 := bg6.far (p := ⟨eb, i * 2 + 1, none⟩) (by simp; omega) (.int .i64 (IntKind.i64.wrap (y + IntKind.i64.wrap (z - 2))))
          have br5 := br4.grown hg5' (by intro e; injection e with e; omega)
          have br7 := (br5.grown hg6 (by intro e; injection e with e; omega)).far (p := ⟨eb, i * 2 + 1, none⟩) (by simp; omega) (.int .i64 (IntKind.i64.wrap (y + IntKind.i64.wrap (z - 2))))
          have hEB7 := hEB6.set (i * 2 + 1) (IntKind.i64.wrap (y + IntKind.i64.wrap (z - 2)))
          have hD7 : Dk (w6.setCell ⟨eb, i * 2 + 1, none⟩ (.int .i64 (IntKind.i64.wrap (y + IntKind.i64.wrap (z - 2))))) g := hD6.below ((Below.refl w.heap.size w6).setCell (p := ⟨eb, i * 2 + 1, none⟩) (by simp; omega) _) hg0
          have hgw7 : w.grownBy (w6.setCell ⟨eb, i * 2 + 1, none⟩ (.int .i64 (IntKind.i64.wrap (y + IntKind.i64.wrap (z - 2))))) (some g) := grown_set_new (grown_trans (grown_trans hgw hg5') hg6) (p := ⟨eb, i * 2 + 1, none⟩) (by simp; omega) _
          clear bg6 bg5 br4 br5 bg4 hEB6 hEB5 hEB hD6 hD5 hD4 hgw hg5 hg5' hg6 hy hy6 fy6 k1 k2 c0 c1
          generalize (w6.setCell ⟨eb, i * 2 + 1, none⟩ (.int .i64 (IntKind.i64.wrap (y + IntKind.i64.wrap (z - 2))))) = w7 at *
          obtain ⟨es7, hE7⟩ := hEB7.re
          have hfin : Hid (SpoS w g n m w7) := Lib.hid ⟨n, _, m, c2, es7, bg7, br7, hE7, hF, by omega, hcc, .inl rfl, hD7, hgw7⟩
          clear hE7 hEB7 hD7 hgw7 bg7 br7
          go_wp2_with fail
          go_meet
          exact hfin.out
      · have i1 : ¬ (0 : Int) < (m : Int) := by omega
        obtain ⟨hE4, hc4, hF4⟩ := hO4.re (by rw [hel.out])
        have hfin : Hid (SpoS w g n m w4) := Lib.hid ⟨n, A2, m, c2, es, bg4, br4, hE4, hF4, by omega, hc4, .inl rfl, hD4, hgw⟩
        clear hE4 hc4 hF4 hD4 hgw hO4
        go_wp2_with fail
        go_meet
        exact hfin.out

  case rest =>
    clear bg4 br4 hO4 hgw hD4 c0 c1 r0c r1c f0 f1 fr0 fr1
    obtain ⟨n', A', m', c', es', bg, br, hE, hF, hm', hc', hn', hD', hgw'⟩ := hcut
    have hfin := Lib.hid (spo_ret (n := n) (m := m) hg0 hD' hgw' hE hF hm' hc' hn')
    have c0 := Blk.cell bg 0
    have c1 := Blk.cell bg 1
    have d0 := Blk.cell br 0
    have d1 := Blk.cell br 1
    simp at c0 c1 d0 d1
    have fr0 := Blk.frozen br 0
    have fr1 := Blk.frozen br 1
    clear hE hF hD' hgw' bg br
    go_wp2_with fail
    refine bodyPost_ret (v := .agg #[.int .i64 n', .slice A' m' c']) (by simp [results, Tryd.results29, go_sem, d0, d1]) rfl ?_
    exact hfin.out
end Go.Proofs.YtknlmgcbdcepnaaDoor
