/- journal.Batches. -/
import Derived.Test.YtbaebeackbciaaaJouY
set_option linter.unusedVariables false
set_option linter.unusedSimpArgs false
namespace Go.Proofs.Ytbaebeackbciaaa
open Go.RowKit Go.Shelf CoEv
attribute [local go_sem] Oper.semAt_some

/-- The events of the first m parts. -/
def cks (A : Option Addr) (n k : Nat) (xs : List Ev) (m : Nat) : List (List Ev) := (List.range m).map fun j => (prt A n k xs j).xs
def mx {w : World} (pre : List (PrtW w)) : List (List Ev) := pre.map fun p => p.1.xs
theorem mx_parts {w : World} {A : Option Addr} {n k : Nat} {xs : List Ev} {h : RS EE w A n xs} {hk2 : k ≤ 255} (m : Nat) : mx (parts w A n k xs h hk2 m) = cks A n k xs m := by
  simp [mx, parts, cks, part]
theorem mx_snoc {w : World} (pre : List (PrtW w)) (x : PrtW w) : mx (pre ++ [x]) = mx pre ++ [x.1.xs] := by simp [mx]
def btr (L : List (List Ev)) : List Nat := if (st L).2 = 0 then joi L else []

theorem boxed_row {X : World} {B : Nat} {t : TypeId} {v : Value} {row : Option Nat} (hv : Boxed X B t v) (hr : ∀ r, row = some r → ∃ o : Obj, X.heap[r]? = some o ∧ o.isCells = false) : some B ≠ row := fun e => by
  obtain ⟨o, ho, hc⟩ := hr B e.symm
  rw [show X.heap[B]? = _ from hv] at ho; cases ho; cases hc
theorem boxed_below {W W' : World} {b B : Nat} {t : TypeId} {v : Value} (h : Boxed W B t v) (hb : Below b W W') (hB : B < b) : Boxed W' B t v := (hb.block B hB).trans h
theorem keeps_below {W W' : World} (h : Below W.heap.size W W') : KeepsOthers W W' := ⟨h.size, fun k o hk _ => by
  have hlt := (Array.getElem?_eq_some_iff.1 hk).1
  exact (h.block k hlt).trans hk⟩
theorem os_cells {α : Type} {E : El α} {t : TypeId} {w : World} {B : Nat} {v : Value} {xs : List α} (h : OS E t w B v xs) : ∀ (j : Nat) (o : Obj), v.ownBlock = some j → w.heap[j]? = some o → o.isCells = true := by
  intro j o hj ho
  rcases h.2 with ⟨rfl, h0⟩ | ⟨g, cap, cur, rfl, h1, h2, h3⟩
  · cases hj
  · simp only [Value.ownBlock] at hj
    injection hj with hj
    subst hj
    rw [h2] at ho; injection ho with ho; subst ho; rfl

set_option maxRecDepth 100000 in
set_option maxHeartbeats 8000000 in
theorem batches_in (A : Option Addr) (n c k : Nat) (xs : List Ev) (w : World) (h : RS EE w A n xs) (hc : n ≤ c) (hn : n ≤ 1099511627776) (hk : 0 < k) (hk2 : k ≤ 255) :
    CallsIn Fence.wide 6 Try.prog 26 #[.slice A n c, .int .i64 k] w fun e W' => ∃ m, (∀ j, j < m → j * k < n) ∧ (n ≤ m * k ∨ (st (cks A n k xs m)).2 ≠ 0) ∧ RetGE BE w (btr (cks A n k xs m)) (st (cks A n k xs m)).2 e W' := by
  have q1 : decide ((k : Int) < 1) = false := by simp; omega
  have q2 : decide (255 < (k : Int)) = false := by simp; omega
  refine callsIn_of_wp_marks Try.func26 rfl trivial ?_ rfl
  simp only [Try.ntmps26, List.size_toArray, List.length_cons, List.length_nil, Nat.reduceAdd, Nat.reduceSub, Array.replicate_succ, Array.replicate_zero, List.push_toArray, List.append_toArray, List.nil_append, List.cons_append]
  gi_wp2_with (refine ⟨trivial, ?_⟩; gi_at_call 37; refine (callsIn_wide.2 (chunk_any _ _ _ _ _ hk)).mono ?_; rintro e w' ⟨rfl, rfl⟩)
  have b4 := Boxed.new w 26 (.slice none 0 0)
  have b5 := Boxed.new (w.alloc (.cells #[.slice none 0 0] 26)) 39 (.int .i64 0)
  have b6 := Boxed.new ((w.alloc (.cells #[.slice none 0 0] 26)).alloc (.cells #[.int .i64 0] 39)) 26 (.slice none 0 0)
  have hB3 : Below w.heap.size w (((w.alloc (.cells #[.slice none 0 0] 26)).alloc (.cells #[.int .i64 0] 39)).alloc (.cells #[.slice none 0 0] 26)) := (((Below.refl _ w).alloc (Nat.le_refl _) _).alloc (by simp) _).alloc (by simp; omega) _
  have hs3 : (((w.alloc (.cells #[.slice none 0 0] 26)).alloc (.cells #[.int .i64 0] 39)).alloc (.cells #[.slice none 0 0] 26)).heap.size = w.heap.size + 1 + 1 + 1 := by simp
  replace b4 := (b4.alloc (.cells #[.int .i64 0] 39)).alloc (.cells #[.slice none 0 0] 26)
  replace b5 := b5.alloc (.cells #[.slice none 0 0] 26)
  simp only [World.size_alloc] at b5 b6
  generalize (((w.alloc (.cells #[.slice none 0 0] 26)).alloc (.cells #[.int .i64 0] 39)).alloc (.cells #[.slice none 0 0] 26)) = w3 at *
  have c1 := Boxed.new w3 32 (.slice A n c)
  have c2 := Boxed.new (w3.alloc (.cells #[.slice A n c] 32)) 3 (.int .i64 k)
  replace c1 := c1.alloc (.cells #[.int .i64 k] 3)
  simp only [World.size_alloc] at c2
  have hB5 := (hB3.alloc hB3.size (.cells #[.slice A n c] 32)).alloc (by simp; omega) (.cells #[.int .i64 k] 3)
  replace b4 := (b4.alloc (.cells #[.slice A n c] 32)).alloc (.cells #[.int .i64 k] 3)
  replace b5 := (b5.alloc (.cells #[.slice A n c] 32)).alloc (.cells #[.int .i64 k] 3)
  replace b6 := (b6.alloc (.cells #[.slice A n c] 32)).alloc (.cells #[.int .i64 k] 3)
  have hs5 : ((w3.alloc (.cells #[.slice A n c] 32)).alloc (.cells #[.int .i64 k] 3)).heap.size = w3.heap.size + 1 + 1 := by simp
  rw [hs3] at c1 c2 hs5
  generalize (w3.alloc (.cells #[.slice A n c] 32)).alloc (.cells #[.int .i64 k] 3) = w5 at *
  refine wpIn_rangeFunc_ownG (n := 6) rfl (by decide) (gf := 48) (lb := #[.pointer (some ⟨w.heap.size + 1 + 1 + 1, 0, none⟩), .pointer (some ⟨w.heap.size + 1 + 1 + 1 + 1, 0, none⟩)]) rfl trivial (enters_of Try.func48 (by kernel_rfl) rfl)
    (chunk_stops w A n c k xs h hc hn hk hk2 (w.heap.size + 1 + 1 + 1) w5 (by omega) c1.cell c2.cell) KB.trans (fun W l o o' _ ho hc _ => KB.put W l o o' ho hc) (Below.refl _ _) (fun _ => rfl)
    (fun pre W => ((∃ v, Boxed W (w.heap.size + 1 + 1) 26 v ∧ W.ownsRow w5.heap.size 5 1 v (joi (mx pre)).length (BE.all (joi (mx pre))) ∧ (st (mx pre)).2 = 0) ∧ (Boxed W w.heap.size 26 (.slice none 0 0) ∧ Boxed W (w.heap.size + 1) 39 (.int .i64 0)) ∧ w5.heap.size ≤ W.heap.size) ∧ Below w.heap.size w W)
    (fun c pre W => ((c = .ret ∧ (st (mx pre)).2 ≠ 0) ∧ (Boxed W w.heap.size 26 (.slice none 0 0) ∧ Boxed W (w.heap.size + 1) 39 (.int .i64 (st (mx pre)).2))) ∧ Below w.heap.size w W)
    (OwnFrom.and (OwnFrom.and (Own.from (holdsRow_own w5.heap.size (w.heap.size + 1 + 1) 26 5 1 (fun pre => (joi (mx pre)).length) (fun pre => BE.all (joi (mx pre))) (fun pre v => (st (mx pre)).2 = 0)) _) (Own.from (fun s A B row hs hg hr => ⟨⟨hs.1.1.kept hg (boxed_row hs.1.1 hr), hs.1.2.kept hg (boxed_row hs.1.2 hr)⟩, Nat.le_trans hs.2 hg.size⟩) _)) (ownFrom_below (Nat.le_refl _) (by omega)))
    (fun c => OwnFrom.and (Own.from (fun s A B row hs hg hr => ⟨hs.1, hs.2.1.kept hg (boxed_row hs.2.1 hr), hs.2.2.kept hg (boxed_row hs.2.2 hr)⟩) _) (ownFrom_below (Nat.le_refl _) (by omega)))
    ⟨⟨⟨_, b6, World.ownsRow_nil _ _ _ _, rfl⟩, ⟨b4, b5⟩, Nat.le_refl _⟩, hB5⟩
    (fun x => { tmps := #[.slice A n c, .int .i64 k, undef, undef, .pointer (some ⟨w.heap.size, 0, none⟩), .pointer (some ⟨w.heap.size + 1, 0, none⟩), .pointer (some ⟨w.heap.size + 1 + 1, 0, none⟩), (.slice x.1.A x.1.n x.1.n), undef, undef, .int .i64 k, .bool false, .bool false, .int .i64 k, .bool false, .bool false, .slice A n c, .int .i64 k, .func (.func 48) #[] #[.pointer (some ⟨w.heap.size + 1 + 1 + 1, 0, none⟩), .pointer (some ⟨w.heap.size + 1 + 1 + 1 + 1, 0, none⟩)], (.slice x.1.A x.1.n x.1.n), undef, undef, undef, undef, undef, undef, undef, undef, undef, undef, undef, undef, undef, undef], defers := [] }) ?assign ?body ?done ?stop
  case assign =>
    intro l x W K hK
    gi_wp2
    exact hK
  case body =>
    rintro l pre x W ⟨⟨⟨v, hv, ho, hst⟩, ⟨hb4, hb5⟩, hsz⟩, hB⟩ hlt
    have hos : OS BE 5 W w5.heap.size v (joi (mx pre)) := ho
    obtain ⟨hj1, hj2⟩ := st_len _ hst
    obtain ⟨Av, nv, cv, rfl, hnv, hcv, _, hrv, hfv⟩ := hos.form
    have hxr := x.2.1.below hB (Nat.le_refl _)
    have hx255 := x.2.2
    have hxl := hxr.len
    have hgood := st_good (l := x.1.xs) hst
    have hmx := mx_snoc pre x
    rw [← hnv] at hgood
    have kw := jwritten_any nv x.1.A x.1.n x.1.n x.1.xs W hxr (by omega) (by omega)
    have hc6 := hv.cell
    have hf6 := hv.frozen
    by_cases hw : wrE nv x.1.xs = 0
    · rw [hw] at kw hgood
      have hwl : wrL nv x.1.xs = btc x.1.xs := by unfold wrL; rw [if_pos hw]
      rw [hwl] at kw
      have hwb := wrE_len hw
      have hbl := btc_len x.1.xs
      replace kw := Lib.hid kw
      replace hgood := Lib.hid hgood
      replace hmx := Lib.hid hmx
      replace hbl := Lib.hid hbl
      replace hxl := Lib.hid hxl
      replace hnv := Lib.hid hnv
      clear hw hwl ho hst
      gi_wp2_with (first
        | (refine ⟨trivial, ?_⟩; gi_at_call 31; refine (CallsIn.inRound l (callsIn_wide.2 kw.out)).mono ?_; rintro e W1 ⟨A1, n1, c1', rfl, hc1, hr1, hb1, hf1⟩; have hv1 := boxed_below hv hb1 hv.lt; have hc61 := hv1.cell; have hf61 := hv1.frozen; have hos1 := hos.below hb1 (Nat.le_refl _); have hn1 : n1 = 6 + 10 * x.1.xs.length := (hr1.len.symm.trans hbl.out); replace hn1 := Lib.hid hn1)
        | (gi_at_builtin; refine wpListIn_catG tyB rfl _ _ rfl rfl rfl hos1 hr1 (by have := hn1.out; omega) (by unfold maxLen; have := hn1.out; omega) (by have := hn1.out; omega) (Nat.le_trans hsz hb1.size) ?_; intro v2 W2 ho2 hb2 hg2; obtain ⟨A2, n2, c2', rfl, hn2, _, _, _, _⟩ := ho2.form; replace hn2 := Lib.hid hn2; have hv2 := boxed_below hv1 hb2 (by omega); have hc62 := hv2.cell; have hf62 := hv2.frozen; have kk2 : KeepsOthers W1 W2 := KeepsOthers.of_grownBy hg2 (os_cells hos1); clear hg2))
      have hbW := (hb1.mono hsz).trans hb2
      have e1 : joi (mx (pre ++ [x])) = joi (mx pre) ++ btc x.1.xs := by rw [hmx.out, joi_append, joi_one]
      have e2 : (st (mx (pre ++ [x]))).2 = 0 := by rw [hmx.out]; exact hgood.out
      refine ⟨(((keeps_below hb1).trans kk2).trans (KeepsOthers.setCell _ _ _)).from _, ⟨fun u hu => ?_, fun u hu => ?_⟩, ⟨⟨_, hv2.set _, ?_, e2⟩, ⟨(boxed_below hb4 hbW (by omega)).other (by omega) _, (boxed_below hb5 hbW (by omega)).other (by omega) _⟩, by have := hbW.size; simp; omega⟩, ?_⟩
      · rw [World.cell?_setCell_other _ _ _ _ (by simp)]; exact (hbW.cell (p := ⟨w.heap.size + 1 + 1 + 1, 0, none⟩) (by simp; omega)).trans hu
      · rw [World.cell?_setCell_other _ _ _ _ (by simp)]; exact (hbW.cell (p := ⟨w.heap.size + 1 + 1 + 1 + 1, 0, none⟩) (by simp; omega)).trans hu
      · rw [e1]; exact OS.set_far ho2 (p := ⟨w.heap.size + 1 + 1, 0, none⟩) (by show w.heap.size + 1 + 1 < _; omega) _
      · exact (hB.trans (hbW.mono (by omega))).setCell (p := ⟨w.heap.size + 1 + 1, 0, none⟩) (by simp; omega) _
    · have hzb : (wrE nv x.1.xs != 0) = true := by simpa using hw
      have hw' := Lib.hid hw
      have hf4 := hb4.frozen
      replace kw := Lib.hid kw
      replace hgood := Lib.hid hgood
      replace hmx := Lib.hid hmx
      replace hxl := Lib.hid hxl
      replace hnv := Lib.hid hnv
      clear hw ho hst
      generalize wrE nv x.1.xs = C at *
      generalize wrL nv x.1.xs = CL at *
      gi_wp2_with (refine ⟨trivial, ?_⟩; gi_at_call 31; refine (CallsIn.inRound l (callsIn_wide.2 kw.out)).mono ?_; rintro e W1 ⟨A1, n1, c1', rfl, hc1, hr1, hb1, hf1⟩; have hv4 := boxed_below hb4 hb1 hb4.lt; have hv5 := boxed_below hb5 hb1 hb5.lt; have hc41 := hv4.cell; have hf41 := hv4.frozen; have hc51 := hv5.cell; have hf51 := hv5.frozen)
      have hsl := hb1.size
      refine ⟨((keeps_below hb1).trans ((KeepsOthers.setCell _ _ _).trans (KeepsOthers.setCell _ _ _))).from _, ⟨⟨rfl, ?_⟩, (hv4.set _).other (by omega) _, ?_⟩, ?_⟩
      · rw [hmx.out, hgood.out]; exact hw'.out
      · rw [hmx.out, hgood.out]; exact (hv5.other (by omega) _).set _
      · exact ((hB.trans (hb1.mono (by omega))).setCell (p := ⟨w.heap.size, 0, none⟩) (Nat.le_refl _) _).setCell (p := ⟨w.heap.size + 1, 0, none⟩) (by simp) _
  case done =>
    rintro D ys W hD ⟨m, hm1, hm2, rfl⟩ ⟨⟨⟨v, hv, ho, hst⟩, ⟨hb4, hb5⟩, hsz⟩, hB⟩ hK
    rw [mx_parts] at ho hst
    have hos : OS BE 5 W w5.heap.size v (joi (cks A n k xs m)) := ho
    obtain ⟨Av, nv, cv, rfl, hnv, hcv, _, hrv, hfv⟩ := hos.form
    have hbt : btr (cks A n k xs m) = joi (cks A n k xs m) := by unfold btr; rw [if_pos hst]
    have hc6 := hv.cell
    have hc4 := hb4.cell
    have hf4 := hb4.frozen
    have hc5 := hb5.cell
    have hf5 := hb5.frozen
    replace hbt := Lib.hid hbt
    replace hst := Lib.hid hst
    replace hnv := Lib.hid hnv
    gi_wp2
    have hK' := ((KeepsOthers.setCell W ⟨w.heap.size, 0, none⟩ (.slice Av nv cv)).trans (KeepsOthers.setCell _ ⟨w.heap.size + 1, 0, none⟩ (.int .i64 0))).same D _ hK rfl
    refine ⟨by simp, .inl ⟨_, _, rfl, run_takeDeferred hK', ?_⟩⟩
    have g4 := (hb4.set (.slice Av nv cv)).other (B' := w.heap.size + 1) (by omega) (.int .i64 0)
    have g5 := (hb5.other (B' := w.heap.size) (by omega) (.slice Av nv cv)).set (.int .i64 0)
    have hc41 := cell_kept g4.cell (grownBy_putObj' _ D (.deferred none)) (fun r e => by cases e; exact ⟨_, hK', rfl⟩)
    have hc51 := cell_kept g5.cell (grownBy_putObj' _ D (.deferred none)) (fun r e => by cases e; exact ⟨_, hK', rfl⟩)
    have hos2 : OS BE 5 _ w5.heap.size (.slice Av nv cv) (joi (cks A n k xs m)) := (OS.set_far (OS.set_far hos (p := ⟨w.heap.size, 0, none⟩) (by show w.heap.size < _; omega) (.slice Av nv cv)) (p := ⟨w.heap.size + 1, 0, none⟩) (by show w.heap.size + 1 < _; omega) (.int .i64 0))
    have hos3 : OS BE 5 _ w5.heap.size (.slice Av nv cv) (joi (cks A n k xs m)) := ownsRow_putObj hos2 (.deferred none) hK' rfl
    have hB2 := (hB.setCell (p := ⟨w.heap.size, 0, none⟩) (Nat.le_refl _) (.slice Av nv cv)).setCell (p := ⟨w.heap.size + 1, 0, none⟩) (by simp) (.int .i64 0)
    refine ⟨.tuple #[.slice Av nv cv, .int .i64 0], by simp [results, Try.results26, go_sem, hc41, hc51], m, hm2, .inl hm1, ?_⟩
    rw [hbt.out, hst.out]
    obtain ⟨r1, r2, r3⟩ := hos3.rs hnv.out
    exact ⟨Av, nv, cv, rfl, hcv, r1, hB2.trans (belowK_b (w := w) (Nat.le_refl _) _ D _ _ (by omega) hK' rfl rfl), r3.mono (by omega)⟩
  case stop =>
    rintro D c pre W hD ⟨m, hm2, rfl⟩ ⟨⟨⟨rfl, hst⟩, hb4, hb5⟩, hB⟩ hK
    rw [mx_parts] at hst hb5
    have hbt : btr (cks A n k xs m) = [] := by unfold btr; rw [if_neg hst]
    replace hbt := Lib.hid hbt
    replace hst := Lib.hid hst
    gi_wp2
    refine ⟨by simp, .inl ⟨_, _, rfl, run_takeDeferred hK, ?_⟩⟩
    have hc41 := cell_kept hb4.cell (grownBy_putObj' _ D (.deferred none)) (fun r e => by cases e; exact ⟨_, hK, rfl⟩)
    have hc51 := cell_kept hb5.cell (grownBy_putObj' _ D (.deferred none)) (fun r e => by cases e; exact ⟨_, hK, rfl⟩)
    refine ⟨.tuple #[.slice none 0 0, .int .i64 (st (cks A n k xs m)).2], by simp [results, Try.results26, go_sem, hc41, hc51], m, hm2, .inr hst.out, ?_⟩
    rw [hbt.out]
    exact RetGE.nil_ (hB.trans (belowK_b (w := w) (Nat.le_refl _) _ D _ _ (by omega) hK rfl rfl))
end Go.Proofs.Ytbaebeackbciaaa
