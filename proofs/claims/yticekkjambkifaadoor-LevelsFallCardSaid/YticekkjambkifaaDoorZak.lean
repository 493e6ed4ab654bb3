/- Printed by merge.py from GrfA, GrfB, GrfD, SrtM, GrfG, OrdM, Smx, Nvl. -/
import Derived.Test.YticekkjambkifaaDoorZab
import Derived.Test.YticekkjambkifaaDoorMakC
import Derived.Test.YticekkjambkifaaDoorSetB
import Derived.Test.YticekkjambkifaaDoorZac
import Derived.Test.YticekkjambkifaaDoorZai
import Derived.Test.YticekkjambkifaaDoorZrt
import Derived.Test.YticekkjambkifaaDoorZad
import Derived.Test.YticekkjambkifaaDoorZaa
/- The reference's graphs (cohesionref03): ends, edge, Find. -/
set_option linter.unusedVariables false
set_option linter.unusedSimpArgs false
namespace Go.Proofs.YticekkjambkifaaDoor
open Go.RowKit

/-- Two nodes are different and exist. -/
def endsB (n u v : Int) : Bool := decide (0 ≤ u ∧ 0 ≤ v ∧ u < n ∧ v < n ∧ u ≠ v)
/-- The edge of two nodes. -/
def edgeP (u v : Int) : Int × Int := (min u v, max u v)
/-- The first index of an edge; -1. -/
def fndE (es : List (Int × Int)) (e : Int × Int) : Int := match es.findIdx? (fun x => decide (x = e)) with | some i => (i : Int) | none => -1
theorem fndE_some {es : List (Int × Int)} {e : Int × Int} {k : Nat} (h : es[k]? = some e) (h2 : ∀ x ∈ es.take k, x ≠ e) : fndE es e = (k : Int) := by
  obtain ⟨hk, he⟩ := List.getElem?_eq_some_iff.1 h
  have : es.findIdx? (fun x => decide (x = e)) = some k := by
    rw [List.findIdx?_eq_some_iff_getElem]
    refine ⟨hk, by simpa using he, fun j hj => ?_⟩
    have := h2 es[j] (by rw [List.mem_iff_getElem]; exact ⟨j, by rw [List.length_take]; omega, by rw [List.getElem_take]⟩)
    simpa using this
  unfold fndE
  rw [this]
theorem fndE_none {es : List (Int × Int)} {e : Int × Int} (h2 : ∀ x ∈ es, x ≠ e) : fndE es e = -1 := by
  have : es.findIdx? (fun x => decide (x = e)) = none := by
    rw [List.findIdx?_eq_none_iff]
    intro x hx
    simpa using h2 x hx
  unfold fndE
  rw [this]
/-- What Find returns. -/
def rfnd (n : Int) (es : List (Int × Int)) (u v : Int) : Int := if chkG n es = 0 then fndE es (edgeP u v) else -1

end Go.Proofs.YticekkjambkifaaDoor

/- The reference's graphs (cohesionref03): Remove. -/
set_option linter.unusedVariables false
set_option linter.unusedSimpArgs false
namespace Go.Proofs.YticekkjambkifaaDoor
open Go.RowKit

/-- The call returns a new graph and an error. -/
def RetGr (w : World) (n : Int) (es : List (Int × Int)) (err : Int) (e : Ending) (w' : World) : Prop := ∃ A k c, e = .returned (.tuple #[.agg #[.int .i64 n, .slice A k c], .int .i64 err]) ∧ k ≤ c ∧ RE w' A k es ∧ Below w.heap.size w w' ∧ Fr w.heap.size A
/-- The edges without one. -/
def withoutE (es : List (Int × Int)) (e : Int × Int) : List (Int × Int) := es.filter fun x => decide (x ≠ e)
theorem withoutE_take {es : List (Int × Int)} {k : Nat} {x e : Int × Int} (h : es[k]? = some x) : withoutE (es.take (k + 1)) e = if x = e then withoutE (es.take k) e else withoutE (es.take k) e ++ [x] := by
  rw [takeE h]
  unfold withoutE
  rw [List.filter_append]
  by_cases hx : x = e
  · rw [if_pos hx]; simp [hx]
  · rw [if_neg hx]; simp [hx]
theorem withoutE_len (es : List (Int × Int)) (e : Int × Int) : (withoutE es e).length ≤ es.length := List.length_filter_le _ _
theorem rfnd_ok {n : Int} {es : List (Int × Int)} (hz : chkG n es = 0) (u v : Int) : rfnd n es u v = fndE es (edgeP u v) := if_pos hz

theorem OE.below {w w' : World} {B b : Nat} {v : Value} {es : List (Int × Int)} (h : OE w B v es) (hb : Below b w w') (hB : w.heap.size ≤ b) : OE w' B v es := by
  rcases h.2 with ⟨rfl, h0⟩ | ⟨g, cap, cur, rfl, h1, h2, h3⟩
  · exact ⟨h.1, .inl ⟨rfl, h0⟩⟩
  · have hlt : g < w.heap.size := by
      rcases Nat.lt_or_ge g w.heap.size with hlt | hge
      · exact hlt
      · rw [Array.getElem?_eq_none hge] at h2; cases h2
    exact ⟨h.1, .inr ⟨g, cap, cur, rfl, h1, (hb.block g (by omega)).trans h2, h3⟩⟩
end Go.Proofs.YticekkjambkifaaDoor

/- The reference's graphs (cohesionref03): with. -/
set_option linter.unusedVariables false
set_option linter.unusedSimpArgs false
namespace Go.Proofs.YticekkjambkifaaDoor
open Go.RowKit

/-- A list of edges with one more. -/
def withL : List (Int × Int) → (Int × Int) → List (Int × Int)
  | [], e => [e]
  | x :: l, e => if ltE x e then x :: withL l e else if x = e then x :: l else e :: x :: l
theorem ltE_irr (e : Int × Int) : ¬ ltE e e := by unfold ltE; omega
theorem with_drop {es : List (Int × Int)} {k : Nat} {y e : Int × Int} (h : es[k]? = some y) : withL (es.drop k) e = if ltE y e then y :: withL (es.drop (k + 1)) e else if y = e then es.drop k else e :: es.drop k := by
  obtain ⟨hk, he⟩ := List.getElem?_eq_some_iff.1 h
  rw [List.drop_eq_getElem_cons hk, he]; rfl
theorem with_step {es : List (Int × Int)} {k : Nat} {y e : Int × Int} (hx : withL es e = es.take k ++ withL (es.drop k) e) (h : es[k]? = some y) (hl : ltE y e) : withL es e = es.take (k + 1) ++ withL (es.drop (k + 1)) e := by
  rw [hx, with_drop h, if_pos hl, takeE h, List.append_assoc]; rfl
theorem with_same {es : List (Int × Int)} {k : Nat} {e : Int × Int} (hx : withL es e = es.take k ++ withL (es.drop k) e) (h : es[k]? = some e) : withL es e = es := by
  rw [hx, with_drop h, if_neg (ltE_irr e), if_pos rfl, List.take_append_drop]
theorem with_here {es : List (Int × Int)} {k : Nat} {y e : Int × Int} (hx : withL es e = es.take k ++ withL (es.drop k) e) (h : es[k]? = some y) (h1 : ¬ ltE y e) (h2 : y ≠ e) : withL es e = es.take k ++ [e] ++ es.drop k := by
  rw [hx, with_drop h, if_neg h1, if_neg h2, List.append_assoc]; rfl
theorem with_end {es : List (Int × Int)} {k : Nat} {e : Int × Int} (hx : withL es e = es.take k ++ withL (es.drop k) e) (h : es.length ≤ k) : withL es e = es.take k ++ [e] ++ es.drop k := by
  rw [hx, List.drop_of_length_le h]; simp [withL]
theorem mem_with {es : List (Int × Int)} {e z : Int × Int} : z ∈ withL es e ↔ z = e ∨ z ∈ es := by
  induction es with
  | nil => simp [withL]
  | cons x l ih =>
    unfold withL
    split
    · rw [List.mem_cons, ih, List.mem_cons]
      constructor
      · rintro (h | h | h)
        · exact .inr (.inl h)
        · exact .inl h
        · exact .inr (.inr h)
      · rintro (h | h | h)
        · exact .inr (.inl h)
        · exact .inl h
        · exact .inr (.inr h)
    · split
      · rename_i h; subst h; simp
      · simp
theorem ltE_tr {a b c : Int × Int} (h : ltE a b) (h' : ltE b c) : ltE a c := by unfold ltE at *; omega
theorem ltE_tot {a b : Int × Int} (h : ¬ ltE a b) (h' : a ≠ b) : ltE b a := by
  unfold ltE at *
  have : ¬ (a.1 = b.1 ∧ a.2 = b.2) := fun ⟨h1, h2⟩ => h' (Prod.ext h1 h2)
  omega
theorem with_sorted {es : List (Int × Int)} {e : Int × Int} (h : es.Pairwise ltE) : (withL es e).Pairwise ltE := by
  induction es with
  | nil => simp [withL]
  | cons x l ih =>
    rw [List.pairwise_cons] at h
    unfold withL
    split
    · rename_i hx
      rw [List.pairwise_cons]
      refine ⟨fun z hz => ?_, ih h.2⟩
      rcases mem_with.1 hz with rfl | hz
      · exact hx
      · exact h.1 z hz
    · split
      · rw [List.pairwise_cons]; exact h
      · rename_i h1 h2
        have h3 := ltE_tot h1 h2
        rw [List.pairwise_cons, List.pairwise_cons]
        refine ⟨fun z hz => ?_, h⟩
        rcases List.mem_cons.1 hz with rfl | hz
        · exact h3
        · exact ltE_tr h3 (h.1 z hz)
theorem srt_with {n : Int} {es : List (Int × Int)} {e : Int × Int} (h : Srt n es) (h0 : 0 ≤ e.1) (h1 : e.1 < e.2) (h2 : e.2 < n) : Srt n (withL es e) :=
  ⟨fun z hz => by rcases mem_with.1 hz with rfl | hz; exact ⟨h0, h1, h2⟩; exact h.1 z hz, with_sorted h.2⟩
theorem with_length (es : List (Int × Int)) (e : Int × Int) : (withL es e).length ≤ es.length + 1 := by
  induction es with
  | nil => simp [withL]
  | cons x l ih =>
    unfold withL
    split
    · simp; omega
    · split <;> simp
theorem edgs_take (es : List (Int × Int)) (k : Nat) : edgs (es.take k) = (edgs es).take (k * 2) := by
  induction es generalizing k with
  | nil => simp [edgs]
  | cons e es ih =>
    cases k with
    | zero => simp [edgs]
    | succ k => rw [List.take_succ_cons, edgs_cons, edgs_cons, ih, show (k + 1) * 2 = k * 2 + 1 + 1 by omega]; rfl
theorem edgs_drop (es : List (Int × Int)) (k : Nat) : edgs (es.drop k) = (edgs es).drop (k * 2) := by
  induction es generalizing k with
  | nil => simp [edgs]
  | cons e es ih =>
    cases k with
    | zero => simp [edgs]
    | succ k => rw [List.drop_succ_cons, edgs_cons, ih, show (k + 1) * 2 = k * 2 + 1 + 1 by omega]; rfl
theorem RE.head {w : World} {n : Nat} {A : Option Addr} {es : List (Int × Int)} (h : RE w A n es) {k : Nat} (hk : k ≤ n) : RE w A k (es.take k) := by
  have := Reads.head h hk
  rwa [← edgs_take] at this
theorem RE.cut {w : World} {n : Nat} {A : Option Addr} {es : List (Int × Int)} (h : RE w A n es) {k cap : Nat} (hk : k ≤ n) (hc : n ≤ cap) : RE w (if cap = k then A else A.map (·.add (k * 2))) (n - k) (es.drop k) := by
  have := Reads.cut h hk hc
  rwa [← edgs_drop] at this
/-- The call returns a list of edges, the old one or a new one. -/
def RetW (w : World) (A : Option Addr) (es : List (Int × Int)) (e : Ending) (w' : World) : Prop := ∃ A' n' c', e = .returned (.slice A' n' c') ∧ n' ≤ c' ∧ RE w' A' n' es ∧ Below w.heap.size w w' ∧ (A' = A ∨ Fr w.heap.size A')

end Go.Proofs.YticekkjambkifaaDoor

namespace Go.Proofs.YticekkjambkifaaDoor
open Go.RowKit

theorem nbG_len (n : Int) (es : List (Int × Int)) (x : Int) : (nbG n es x).length ≤ 2 * es.length := by
  unfold nbG
  split
  · exact Nat.le_trans (of_length _) (nbl_length es x)
  · simp
/-- What Common returns. -/
def comL (n : Int) (es : List (Int × Int)) (u v : Int) : List Int := if u = v then [] else meetL (nbG n es u) (nbG n es v)
/-- The edges within a set. -/
def indL (es : List (Int × Int)) (l : List Int) : List (Int × Int) := es.filter fun e => decide (e.1 ∈ l ∧ e.2 ∈ l)
theorem indL_take {es : List (Int × Int)} {k : Nat} {x : Int × Int} {l : List Int} (h : es[k]? = some x) : indL (es.take (k + 1)) l = if x.1 ∈ l ∧ x.2 ∈ l then indL (es.take k) l ++ [x] else indL (es.take k) l := by
  rw [takeE h]
  unfold indL
  rw [List.filter_append]
  by_cases hx : x.1 ∈ l ∧ x.2 ∈ l
  · rw [if_pos hx]; simp [hx]
  · rw [if_neg hx]
    simp only [List.filter_cons, List.filter_nil, decide_eq_true_eq]
    rw [if_neg hx, List.append_nil]
theorem indL_len (es : List (Int × Int)) (l : List Int) : (indL es l).length ≤ es.length := List.length_filter_le _ _

set_option maxRecDepth 100000 in
set_option maxHeartbeats 4000000 in
theorem rinduced_any (A : Option Addr) (m c : Nat) (n : Int) (es : List (Int × Int)) (AL : Option Addr) (mL cL : Nat) (l : List Int) (w : World) (h : RE w A m es) (hm : m ≤ 68719476736) (hz : chkG n es = 0) (hl : RI w AL mL l) (hmL : mL ≤ 1099511627776) :
    Calls Tryd.prog 108 #[.agg #[.int .i64 n, .slice A m c], .slice AL mL cL] w (RetGr w n (indL es l) 0) := by
  have k1 := fun w h => rcheck_any A m c n es w h (by omega)
  rw [hz] at k1
  have k2 := fun x w h => has_any AL mL cL l x w h (by omega)
  have hst := Lib.hid (fun k x (hx : es[k]? = some x) => indL_take (l := l) hx)
  have hml := Lib.hid h.len
  replace k1 := Lib.hid k1
  replace k2 := Lib.hid k2
  clear hz
  go_enter Tryd.func108, Tryd.ntmps108
  go_wp2_with fail
  refine (k1.out _ ((h.alloc _).alloc _)).mono ?_
  rintro e w1 ⟨rfl, hb1⟩
  have G1 : Blk w1 w.heap.size 25 #[.int .i64 n, .slice A m c] := Blk.below (Blk.alloc (Blk.new _ _ _) _) hb1 (by simp; omega)
  have R1 : Blk w1 (w.heap.size + 1) 25 #[.int .i64 0, .slice none 0 0] := Blk.below (Blk.new' _ _ _ (by simp)) hb1 (by simp)
  have hb0 : Below w.heap.size w w1 := (((Below.refl _ _).alloc (Nat.le_refl _) _).alloc (by simp) _).trans (hb1.mono (by simp; omega))
  have s1 := hb1.size
  simp at s1
  clear hb1 k1
  have c10 := Blk.cell G1 0
  have c11 := Blk.cell G1 1
  simp at c10 c11
  have hl3 := G1.lt
  go_wp2_with fail
  have hO : Blk (w1.alloc (.cells #[.int .i64 n, .slice none 0 0] 25)) w1.heap.size 25 #[.int .i64 n, .slice none 0 0] := Blk.new _ _ _
  have R4 := R1.alloc (.cells #[.int .i64 n, .slice none 0 0] 25)
  have hb4 := hb0.alloc hb0.size (.cells #[.int .i64 n, .slice none 0 0] 25)
  have s4 : w1.heap.size < (w1.alloc (.cells #[.int .i64 n, .slice none 0 0] 25)).heap.size := by simp
  have hgo : w.heap.size + 1 < w1.heap.size := by omega
  have hgo2 : w.heap.size < w1.heap.size := by omega
  clear c10 c11 G1 R1 hb0 s1 hl3
  generalize w1.alloc (.cells #[.int .i64 n, .slice none 0 0] 25) = w4 at *
  generalize w1.heap.size = go at *
  go_loopw [22] (fun i wr => ∃ (k : Nat) (vv : Value), k ≤ m ∧ i = .int .i64 k ∧ Blk wr go 25 #[.int .i64 n, vv] ∧ Blk wr (w.heap.size + 1) 25 #[.int .i64 0, .slice none 0 0] ∧ OE wr (go + 1) vv (indL (es.take k) l) ∧ Below w.heap.size w wr) (fun i _ => m - (intOf i).toNat)
  case atStart => exact ⟨0, _, Nat.zero_le _, rfl, hO, R4, OE.nil_, hb4⟩
  case round =>
    obtain ⟨k, vv, hk, rfl, hO', hR', ho, hb⟩ := hrel
    clear hO R4 hb4
    by_cases hlt : k < m
    · obtain ⟨ad, x, y, rfl, hbl, hy, hc1, hc2⟩ := (RE.below h hb (Nat.le_refl _)).get hlt
      have hs := hb.size
      have hstk := hst.out k (x, y) hy.out
      simp only at hstk
      have hlen := indL_len (es.take k) l
      have hlen2 : (indL (es.take k) l).length ≤ 68719476736 := by rw [List.length_take] at hlen; omega
      have kx := fun w h => k2.out x w h
      have ky := fun w h => k2.out y w h
      have hw : (decide (x ∈ l) = false ∧ indL (es.take (k + 1)) l = indL (es.take k) l) ∨ (decide (x ∈ l) = true ∧ decide (y ∈ l) = false ∧ indL (es.take (k + 1)) l = indL (es.take k) l) ∨ (decide (x ∈ l) = true ∧ decide (y ∈ l) = true ∧ indL (es.take (k + 1)) l = indL (es.take k) l ++ [(x, y)]) := by
        simp only [decide_eq_true_eq, decide_eq_false_iff_not]
        by_cases h1 : x ∈ l
        · by_cases h2 : y ∈ l
          · rw [if_pos ⟨h1, h2⟩] at hstk
            exact .inr (.inr ⟨h1, h2, hstk⟩)
          · rw [if_neg (fun e => h2 e.2)] at hstk
            exact .inr (.inl ⟨h1, h2, hstk⟩)
        · rw [if_neg (fun e => h1 e.1)] at hstk
          exact .inl ⟨h1, hstk⟩
      generalize hL : indL (es.take k) l = L at *
      replace hL := Lib.hid hL
      have hlr := RI.below hl hb (Nat.le_refl _)
      have hO2 := hO'.alloc (.cells #[.int .i64 x, .int .i64 y] 73)
      have hR2 := hR'.alloc (.cells #[.int .i64 x, .int .i64 y] 73)
      have ho2 := ho.alloc (.cells #[.int .i64 x, .int .i64 y] 73)
      have BV : Below w.heap.size w (wr.alloc (.cells #[.int .i64 x, .int .i64 y] 73)) := hb.alloc hs _
      have hN : Blk (wr.alloc (.cells #[.int .i64 x, .int .i64 y] 73)) wr.heap.size 73 #[.int .i64 x, .int .i64 y] := Blk.new _ _ _
      have hlr2 := hlr.alloc (.cells #[.int .i64 x, .int .i64 y] 73)
      have hgl := hO'.lt
      have hgl2 : go + 1 ≤ (wr.alloc (.cells #[.int .i64 x, .int .i64 y] 73)).heap.size := by simp; omega
      rcases hw with ⟨q1, hh⟩ | ⟨q1, q2, hh⟩ | ⟨q1, q2, hh⟩
      all_goals
        rw [q1] at kx
        try rw [q2] at ky
        clear q1
        try clear q2
        replace hh := Lib.hid hh
        replace kx := Lib.hid kx
        replace ky := Lib.hid ky
        clear hstk hlen
        go_wp2_with fail
        clear hO' hR' ho hb hlr
        generalize wr.alloc (.cells #[.int .i64 x, .int .i64 y] 73) = W at *
        have n0 := Blk.cell hN 0
        have n1 := Blk.cell hN 1
        simp at n0 n1
        clear hc1 hc2
        refine (kx.out _ hlr2).mono ?_
        rintro e w5 ⟨rfl, rfl⟩
        go_wp2_with fail
      · go_roundw
        case rel => exact ⟨k + 1, _, by omega, by go_num, hO2, hR2, by rw [hh.out]; exact ho2, BV⟩
        case measure => simp [intOf]; omega
      all_goals
        refine (ky.out _ hlr2).mono ?_
        rintro e w5 ⟨rfl, rfl⟩
      · go_wp2_with fail
        go_roundw
        case rel => exact ⟨k + 1, _, by omega, by go_num, hO2, hR2, by rw [hh.out]; exact ho2, BV⟩
        case measure => simp [intOf]; omega
      · have c1 := Blk.cell hO2 1
        have f1 := Blk.frozen hO2 1
        simp at c1
        go_wp2_with (at_builtin; refine wpList_pushE rfl _ _ rfl rfl rfl (by simp) ho2 (by omega) (by omega) ?_; intro v' w10 ho' hb' hg4; have hB4 := Blk.grown hO2 hg4 (by intro e; have := (ho2.block_lt _ e.symm).1; omega); have c4 := Blk.cell hB4 1; have f4 := Blk.frozen hB4 1; simp at c4; obtain ⟨A4, n4, m4, rfl, hn4, hm4, hc4, hr4, hf4⟩ := ho'.form; replace hn4 := Lib.hid hn4)
        have hB5 := Blk.set hB4 1 (.slice A4 n4 m4)
        simp at hB5
        have hR5 : Blk (w10.setCell ⟨go, 1, none⟩ (.slice A4 n4 m4)) (w.heap.size + 1) 25 #[.int .i64 0, .slice none 0 0] := (hR2.below hb' (by omega)).far (by simp; omega) _
        have ho5 := ho'.set_far (p := ⟨go, 1, none⟩) (by simp) (.slice A4 n4 m4)
        have BV5 : Below w.heap.size w (w10.setCell ⟨go, 1, none⟩ (.slice A4 n4 m4)) := (BV.trans (hb'.mono (by omega))).setCell (p := ⟨go, 1, none⟩) (by simp; omega) _
        clear hb' hg4 hB4 c4 f4 ho' ho2 hO2 hR2 BV c1 f1
        go_roundw
        case rel => exact ⟨k + 1, _, by omega, by go_num, hB5, hR5, by rw [hh.out]; exact ho5, BV5⟩
        case measure => simp [intOf]; omega
    · have hall : indL (es.take k) l = indL es l := by rw [List.take_of_length_le (by rw [hml.out]; omega)]
      rw [hall] at ho
      obtain ⟨A4, n4, m4, rfl, hn4, hm4, hc4, hr4, hf4⟩ := ho.form
      replace hn4 := Lib.hid hn4
      have c0 := Blk.cell hO' 0
      have c1 := Blk.cell hO' 1
      have r0 := Blk.cell hR' 0
      have r1 := Blk.cell hR' 1
      simp at c0 c1 r0 r1
      have f0 := Blk.frozen hR' 0
      have f1 := Blk.frozen hR' 1
      have ho5 := (ho.set_far (p := ⟨w.heap.size + 1, 0, none⟩) (by simp; omega) (.int .i64 n)).set_far (p := ⟨w.heap.size + 1, 1, none⟩) (by simp; omega) (.slice A4 n4 m4)
      obtain ⟨hr5, _, hf5⟩ := ho5.re hn4.out
      have hR5 := Blk.set (Blk.set hR' 0 (.int .i64 n)) 1 (.slice A4 n4 m4)
      simp at hR5
      have s0 := Blk.cell hR5 0
      have s1 := Blk.cell hR5 1
      simp at s0 s1
      have hb5 := (hb.setCell (p := ⟨w.heap.size + 1, 0, none⟩) (by simp) (.int .i64 n)).setCell (p := ⟨w.heap.size + 1, 1, none⟩) (by simp) (.slice A4 n4 m4)
      have hfin : RetGr w n (indL es l) 0 (.returned (.tuple #[.agg #[.int .i64 n, .slice A4 n4 m4], .int .i64 0])) ((wr.setCell ⟨w.heap.size + 1, 0, none⟩ (.int .i64 n)).setCell ⟨w.heap.size + 1, 1, none⟩ (.slice A4 n4 m4)) :=
        ⟨A4, n4, m4, rfl, hm4, hr5, hb5, hf5.mono (by omega)⟩
      replace hfin := Lib.hid hfin
      have hne : go ≠ w.heap.size + 1 := by omega
      clear hr5 hf5 ho5 hR5 ho hr4 hf4 hb5 hb hO' hR' hall
      go_wp2_with fail
      refine bodyPost_ret (v := .tuple #[.agg #[.int .i64 n, .slice A4 n4 m4], .int .i64 0]) (by simp [results, Tryd.results108, go_sem, s0, s1]) rfl ?_
      exact hfin.out
end Go.Proofs.YticekkjambkifaaDoor

/- Plain maths: how many edges a sorted list has. -/
set_option linter.unusedVariables false
set_option linter.unusedSimpArgs false
namespace Go.Proofs.YticekkjambkifaaDoor

theorem srt_len {n : Nat} {es : List (Int × Int)} (h : Srt n es) : es.length ≤ n * n := by
  have h1 : (es.map fun e => e.1 * (n : Int) + e.2).Pairwise (· < ·) := by
    rw [List.pairwise_map]
    refine List.Pairwise.imp_of_mem (fun {a b} ha hb hab => ?_) h.2
    have ha' := h.1 a ha
    have hb' := h.1 b hb
    unfold ltE at hab
    rcases hab with hab | hab
    · have : (a.1 + 1) * (n : Int) ≤ b.1 * (n : Int) := Int.mul_le_mul_of_nonneg_right (by omega) (by omega)
      rw [Int.add_mul] at this
      omega
    · rw [hab.1]; omega
  have hnd : (es.map fun e => e.1 * (n : Int) + e.2).Nodup := h1.imp (fun {a b} (h : a < b) => (show a ≠ b by omega))
  have h2 := nodup_length (n := n * n) (o := es.map fun e => e.1 * (n : Int) + e.2) hnd (fun x hx => by
    rw [List.mem_map] at hx
    obtain ⟨e, he, rfl⟩ := hx
    have := h.1 e he
    have h3 : 0 ≤ e.1 * (n : Int) := Int.mul_nonneg (by omega) (by omega)
    have h4 : (e.1 + 1) * (n : Int) ≤ (n : Int) * (n : Int) := Int.mul_le_mul_of_nonneg_right (by omega) (by omega)
    rw [Int.add_mul] at h4
    rw [Int.natCast_mul]
    omega)
  simpa using h2
end Go.Proofs.YticekkjambkifaaDoor

namespace Go.Proofs.YticekkjambkifaaDoor
open Go.RowKit

theorem blkG {w : World} {g : Nat} {n : Int} {v : Value} (h : Blk w g 25 #[.int .i64 n, v]) : w.cell? ⟨g, 0, none⟩ = some (.int .i64 n) ∧ w.cell? ⟨g, 1, none⟩ = some v := ⟨Blk.cell h 0, Blk.cell h 1⟩

end Go.Proofs.YticekkjambkifaaDoor

/- Package cohesionref03: Inside, Density. -/
set_option linter.unusedVariables false
set_option linter.unusedSimpArgs false
namespace Go.Proofs.YticekkjambkifaaDoor
open Go.RowKit CoBit CoRat Rt

theorem indL_insE (es : List (Int × Int)) (l : List Int) : (indL es l).length = insE es l := rfl
set_option maxRecDepth 100000 in
set_option maxHeartbeats 1000000 in
theorem rinside_any (A : Option Addr) (m c : Nat) (n : Int) (es : List (Int × Int)) (AL : Option Addr) (mL cL : Nat) (l : List Int) (w : World) (h : RE w A m es) (hm : m ≤ 68719476736) (hz : chkG n es = 0) (hl : RI w AL mL l) (hmL : mL ≤ 1099511627776) :
    Calls Tryd.prog 84 #[.agg #[.int .i64 n, .slice A m c], .slice AL mL cL] w fun e w' => e = .returned (.int .i64 (insE es l : Nat)) ∧ Below w.heap.size w w' := by
  go_enter Tryd.func84, Tryd.ntmps84
  go_wp2_with fail
  refine (rinduced_any A m c n es AL mL cL l _ (h.alloc _) hm hz (hl.alloc _) hmL).mono ?_
  rintro e w1 ⟨A1, k1, c1, rfl, hk1, hr1, hb1, hf1⟩
  have hlen := Lib.hid hr1.len
  have hb0 : Below w.heap.size w w1 := ((Below.refl _ _).alloc (Nat.le_refl _) _).trans (hb1.mono (by simp))
  have hbz := hb0.alloc hb0.size (.cells #[.int .i64 n, .slice A1 k1 c1] 25)
  clear hb1
  go_wp2_with fail
  go_ret
  exact ⟨retInt (by rw [← hlen.out, indL_insE]), hbz⟩
/-- The density of a list of nodes. -/
def dseN (es : List (Int × Int)) (l : List Int) (s : Nat) : Int := if s = 0 then 0 else mkN (insE es l : Nat) s
def dseD (es : List (Int × Int)) (l : List Int) (s : Nat) : Int := if s = 0 then 1 else mkD (insE es l : Nat) s
set_option maxRecDepth 100000 in
set_option maxHeartbeats 1000000 in
theorem rdensity_any (A : Option Addr) (m c : Nat) (n : Nat) (es : List (Int × Int)) (AL : Option Addr) (mL cL : Nat) (l : List Int) (w : World) (h : RE w A m es) (hm : m ≤ 68719476736) (hz : chkG n es = 0) (hn : n ≤ 64) (hl : RI w AL mL l) (hmL : mL ≤ 1099511627776) :
    Calls Tryd.prog 42 #[.agg #[.int .i64 n, .slice A m c], .slice AL mL cL] w fun e w' => e = .returned (.tuple #[.agg #[.int .i64 (dseN es l (meetL l (rng n)).length), .int .i64 (dseD es l (meetL l (rng n)).length)], .int .i64 0]) ∧ Below w.heap.size w w' := by
  have k1 := fun w h => rcheck_any A m c n es w h (by omega)
  rw [hz] at k1
  replace k1 := Lib.hid k1
  have hg := Lib.hid hz
  obtain ⟨S, hS⟩ : ∃ S, S = (meetL l (rng n)).length := ⟨_, rfl⟩
  rw [← hS]
  replace hS := Lib.hid hS
  have hrl : (rng n).length = n := by unfold rng; simp
  clear hz
  go_enter Tryd.func42, Tryd.ntmps42
  go_wp2_with fail
  refine (k1.out _ ((h.alloc _).alloc _)).mono ?_
  rintro e w1 ⟨rfl, hb1⟩
  have b0 : Below w.heap.size w ((w.alloc (.cells #[.int .i64 n, .slice A m c] 25)).alloc (.cells #[.int .i64 0, .int .i64 0] 36)) := ((Below.refl _ _).alloc (Nat.le_refl _) _).alloc (by simp) _
  simp only [World.size_alloc] at hb1
  have hb0 := b0.trans (hb1.mono (by omega))
  have G1 : Blk w1 w.heap.size 25 #[.int .i64 n, .slice A m c] := Blk.below ((Blk.new w _ _).alloc _) hb1 (by omega)
  have F1 : Blk w1 (w.heap.size + 1) 36 #[.int .i64 0, .int .i64 0] := Blk.below (Blk.new' _ _ _ (by simp)) hb1 (by omega)
  obtain ⟨d0, d1⟩ := blkG G1
  have hs1 : w.heap.size + 2 ≤ w1.heap.size := by have := hb1.size; simp at this; omega
  have hr1 := RE.below h hb0 (Nat.le_refl _)
  have hl1 := RI.below hl hb0 (Nat.le_refl _)
  clear hb1 b0
  go_wp2_with fail
  refine (range_any n hn _).mono ?_
  rintro e w2 ⟨A2, n2, c2, rfl, hc2, hr2, hb2, hf2⟩
  have hb02 := hb0.trans (hb2.mono (by omega))
  have hl2 := RI.below hl1 hb2 (Nat.le_refl _)
  have hn2 : n2 ≤ 64 := by rw [← hr2.len, hrl]; exact hn
  have G2 := G1.below hb2 G1.lt
  have F2 := F1.below hb2 F1.lt
  have hs2 := hb2.size
  clear hb2 hb0 hl1 G1 F1 d0 d1
  go_wp2_with fail
  refine (meet_any AL A2 mL cL n2 c2 l (rng n) _ hl2 hmL hr2 (by omega)).mono ?_
  rintro e w3 ⟨A3, n3, c3, rfl, hc3, hr3, hb3, hf3⟩
  have hb03 := hb02.trans (hb3.mono (by omega))
  have G3 := G2.below hb3 G2.lt
  have F3 := F2.below hb3 F2.lt
  obtain ⟨d0, d1⟩ := blkG G3
  have hl3 := hr3.len
  obtain rfl : n3 = S := by rw [← hl3]; exact hS.out.symm
  have hs3 := hb3.size
  have hn3 : n3 ≤ 1099511627776 := by rw [← hl3]; unfold meetL; exact Nat.le_trans (List.length_filter_le _ _) (Nat.le_trans (of_length _) (by rw [hl2.len]; exact hmL))
  have hlz := RI.below hl hb03 (Nat.le_refl _)
  have hrz := RE.below h hb03 (Nat.le_refl _)
  clear hb3 hb02 hl2 hr2 hr3 G2 F2 hf2 hf3 hl3 hr1
  have z0 := Blk.cell F3 0
  have z1 := Blk.cell F3 1
  have y0 := Blk.frozen F3 0
  have y1 := Blk.frozen F3 1
  simp at z0 z1
  by_cases h0 : n3 = 0
  · subst h0
    have hN : dseN es l 0 = 0 := if_pos rfl
    have hD : dseD es l 0 = 1 := if_pos rfl
    replace hN := Lib.hid hN
    replace hD := Lib.hid hD
    have hzz := Blk.set (Blk.set F3 0 (.int .i64 0)) 1 (.int .i64 1)
    have e0 := Blk.cell hzz 0
    have e1 := Blk.cell hzz 1
    simp at e0 e1
    have hbz := (hb03.setCell (p := ⟨w.heap.size + 1, 0, none⟩) (by simp) (.int .i64 0)).setCell (p := ⟨w.heap.size + 1, 1, none⟩) (by simp) (.int .i64 1)
    clear hzz
    go_wp2_with fail
    refine bodyPost_ret (v := .tuple #[.agg #[.int .i64 0, .int .i64 1], .int .i64 0]) (by simp [results, Tryd.results42, go_sem, e0, e1]) rfl ?_
    exact ⟨by rw [hN.out, hD.out], hbz⟩
  · have hN : dseN es l n3 = mkN (insE es l : Nat) n3 := if_neg h0
    have hD : dseD es l n3 = mkD (insE es l : Nat) n3 := if_neg h0
    have q0 : ((n3 : Int) == 0) = false := by rw [beq_eq_false_iff_ne]; omega
    have hI : insE es l ≤ 68719476736 := Nat.le_trans (insE_le _ _) (by rw [h.len]; exact hm)
    have kin := fun w h hl => rinside_any A m c n es AL mL cL l w h hm hg.out hl hmL
    have kof := fun w => of_f (insE es l : Nat) n3 w (by omega) (by omega) (by omega) (by omega)
    generalize mkN (insE es l : Nat) n3 = N at *
    generalize mkD (insE es l : Nat) n3 = D at *
    generalize insE es l = I at *
    replace kin := Lib.hid kin
    replace kof := Lib.hid kof
    replace hN := Lib.hid hN
    replace hD := Lib.hid hD
    clear h0
    go_wp2_with fail
    refine (kin.out _ hrz hlz).mono ?_
    rintro e w4 ⟨rfl, hb4⟩
    have F4 := F3.below hb4 F3.lt
    have hb04 := hb03.trans (hb4.mono (by omega))
    have hs4 := hb4.size
    clear hb4 hb03 F3 z0 z1 y0 y1 d0 d1 G3
    go_wp2_with fail
    refine (kof.out _).mono ?_
    rintro e w5 ⟨rfl, hb5⟩
    have F5 := F4.below hb5 F4.lt
    have hb05 := hb04.trans (hb5.mono (by omega))
    have z0 := Blk.cell F5 0
    have z1 := Blk.cell F5 1
    have y0 := Blk.frozen F5 0
    have y1 := Blk.frozen F5 1
    simp at z0 z1
    have hzz := Blk.set (Blk.set F5 0 (.int .i64 N)) 1 (.int .i64 D)
    have e0 := Blk.cell hzz 0
    have e1 := Blk.cell hzz 1
    simp at e0 e1
    have hbz := (hb05.setCell (p := ⟨w.heap.size + 1, 0, none⟩) (by simp) (.int .i64 N)).setCell (p := ⟨w.heap.size + 1, 1, none⟩) (by simp) (.int .i64 D)
    clear hzz
    go_wp2_with fail
    refine bodyPost_ret (v := .tuple #[.agg #[.int .i64 N, .int .i64 D], .int .i64 0]) (by simp [results, Tryd.results42, go_sem, e0, e1]) rfl ?_
    exact ⟨by rw [hN.out, hD.out], hbz⟩
end Go.Proofs.YticekkjambkifaaDoor

/- Plain maths: orders and the degeneracy. -/
set_option linter.unusedVariables false
namespace Go.Proofs.YticekkjambkifaaDoor

theorem maxL_nonneg_aux (l : List Int) (a : Int) : a ≤ l.foldl (fun a x => max a x) a ∧ ∀ x ∈ l, x ≤ l.foldl (fun a x => max a x) a := by
  induction l generalizing a with
  | nil => simp
  | cons y l ih =>
    obtain ⟨h1, h2⟩ := ih (max a y)
    rw [List.foldl_cons]
    refine ⟨by omega, fun x hx => ?_⟩
    rcases List.mem_cons.1 hx with rfl | hx
    · omega
    · exact h2 x hx
theorem maxL_nonneg (l : List Int) : 0 ≤ maxL l := (maxL_nonneg_aux l 0).1
theorem maxL_ge {l : List Int} {x : Int} (h : x ∈ l) : x ≤ maxL l := (maxL_nonneg_aux l 0).2 x h
theorem maxL_le_aux (l : List Int) (a c : Int) (ha : a ≤ c) (h : ∀ x ∈ l, x ≤ c) : l.foldl (fun a x => max a x) a ≤ c := by
  induction l generalizing a with
  | nil => exact ha
  | cons y l ih =>
    rw [List.foldl_cons]
    exact ih _ (by have := h y (by simp); omega) fun x hx => h x (by simp [hx])
theorem maxL_le {l : List Int} {c : Int} (h0 : 0 ≤ c) (h : ∀ x ∈ l, x ≤ c) : maxL l ≤ c := maxL_le_aux l 0 c h0 h
theorem nbG_irr {n : Nat} {es : List (Int × Int)} (v : Int) : v ∉ nbG n es v := by
  intro h
  unfold nbG at h
  split at h
  · rename_i hc
    have he := chkE_lt (chkG_zero hc).2.2
    rw [mem_of, mem_nbl] at h
    have := he (v, v) (by simpa using h)
    simp at this
  · cases h
/-- The first place of a list that lies in a set. -/
theorem first_in {o S : List Int} (h : ∃ u ∈ S, u ∈ o) : ∃ k y, o[k]? = some y ∧ y ∈ S ∧ ∀ u ∈ S, u ∈ o → u ∈ o.drop k := by
  induction o with
  | nil => obtain ⟨u, _, hu⟩ := h; cases hu
  | cons a o ih =>
    by_cases ha : a ∈ S
    · exact ⟨0, a, rfl, ha, fun u _ hu => by simpa using hu⟩
    · have h' : ∃ u ∈ S, u ∈ o := by
        obtain ⟨u, hu, hm⟩ := h
        rcases List.mem_cons.1 hm with rfl | hm
        · exact absurd hu ha
        · exact ⟨u, hu, hm⟩
      obtain ⟨k, y, h1, h2, h3⟩ := ih h'
      refine ⟨k + 1, y, by simpa using h1, h2, fun u hu hm => ?_⟩
      rcases List.mem_cons.1 hm with rfl | hm
      · exact absurd hu ha
      · simpa using h3 u hu hm
theorem dg_sub {nb : Int → List Int} {L M : List Int} {v : Int} (h : ∀ x ∈ nb v, x ∈ L → x ∈ M) : dg nb L v ≤ dg nb M v := by
  unfold dg
  rw [← List.countP_eq_length_filter, ← List.countP_eq_length_filter]
  exact List.countP_mono_left fun x hx hL => decide_eq_true (h x hx (of_decide_eq_true hL))
theorem getD_mem {l : List Int} {i : Nat} (h : i < l.length) : l.getD i 0 ∈ l := by
  rw [List.getD_eq_getElem?_getD, List.getElem?_eq_getElem h]
  exact List.getElem_mem h
/-- No order leaves fewer neighbours behind than the greatest number. -/
theorem order_ge {nb : Int → List Int} {n : Nat} {ns o ls : List Int} (hirr : ∀ v, v ∉ nb v) (hn : IsNums nb n ns) (ho : Per o n) (hl : IsLater nb n o ls) : maxL ns ≤ maxL ls := by
  refine maxL_le (maxL_nonneg _) fun x hx => ?_
  obtain ⟨v, hv, rfl⟩ := List.getElem_of_mem hx
  have hv' : v < n := by rw [← hn.1]; exact hv
  have hin := (hn.2 v hv').2.1
  rw [List.getD_eq_getElem?_getD, List.getElem?_eq_getElem hv] at hin
  simp only [Option.getD_some] at hin
  obtain ⟨S, hvS, hS⟩ := hin
  have hall : ∀ u ∈ S, u ∈ o := fun u hu => by
    have := hS u hu
    obtain ⟨i, rfl⟩ := Int.eq_ofNat_of_zero_le this.1
    exact per_all ho (by omega)
  obtain ⟨k, y, hk, hyS, hdr⟩ := first_in ⟨_, hvS, hall _ hvS⟩
  have hy := hS y hyS
  obtain ⟨y, rfl⟩ := Int.eq_ofNat_of_zero_le hy.1
  have hly := hl.2 k y hk
  rw [Int.toNat_natCast] at hly
  have h1 : dg nb S y ≤ dg nb (o.drop (k + 1)) y := dg_sub fun u hu hS' => by
    have h2 := hdr u hS' (hall u hS')
    rw [drop_at hk, List.mem_cons] at h2
    rcases h2 with rfl | h2
    · exact absurd hu (hirr _)
    · exact h2
  have h3 := maxL_ge (getD_mem (l := ls) (i := y) (by rw [hl.1]; omega))
  omega
/-- Along the order of the cores no node has more neighbours behind it than its number. -/
theorem order_le {nb : Int → List Int} {n : Nat} {ns o ls : List Int} (hn : IsNums nb n ns) (hp : PS nb n o) (hol : o.length = n) (hl : IsLater nb n o ls) : maxL ls ≤ maxL ns := by
  have hr := ps_range hp
  have hper : Per o n := ⟨hol, hr.1, hr.2⟩
  refine maxL_le (maxL_nonneg _) fun x hx => ?_
  obtain ⟨v, hv, rfl⟩ := List.getElem_of_mem hx
  have hv' : v < n := by rw [← hl.1]; exact hv
  obtain ⟨k, hk, hkv⟩ := List.getElem_of_mem (per_all hper hv')
  have hk' : o[k]? = some (v : Int) := by rw [List.getElem?_eq_getElem hk, hkv]
  have hlv := hl.2 k v hk'
  rw [Int.toNat_natCast, List.getD_eq_getElem?_getD, List.getElem?_eq_getElem hv] at hlv
  simp only [Option.getD_some] at hlv
  have hb := hp k v hk'
  have hin : inC nb n (dg nb (rst n (o.take k)) v) v := ⟨rst n (o.take k), hb.1, fun u hu => ⟨(mem_rst.1 hu).1.1, (mem_rst.1 hu).1.2, by
    have := hb.2 u hu
    unfold bef at this
    omega⟩⟩
  have hmono : dg nb (o.drop (k + 1)) v ≤ dg nb (rst n (o.take k)) v := dg_mono fun u hu => by
    refine mem_rst.2 ⟨hr.2 u (List.mem_of_mem_drop hu), fun hu' => ?_⟩
    have hnd : (o.take k ++ o.drop k).Nodup := by rw [List.take_append_drop]; exact hr.1
    rw [drop_at hk'] at hnd
    exact (List.nodup_append.1 hnd).2.2 u hu' u (by simp [hu]) rfl
  have hns := hn.2 v hv'
  have h5 : (dg nb (rst n (o.take k)) v : Int) ≤ ns.getD v 0 := by
    by_cases h : (dg nb (rst n (o.take k)) v : Int) ≤ ns.getD v 0
    · exact h
    · exact absurd (inC_mono hin (by omega)) hns.2.2
  have h6 := maxL_ge (getD_mem (l := ns) (i := v) (by rw [hn.1]; exact hv'))
  omega
end Go.Proofs.YticekkjambkifaaDoor

/- slices.Max of a list of numbers. -/
set_option linter.unusedVariables false
set_option linter.unusedSimpArgs false
namespace Go.Proofs.YticekkjambkifaaDoor
open Go.RowKit

/-- The greatest of a list. -/
def IsMx (xs : List Int) (m : Int) : Prop := m ∈ xs ∧ ∀ x ∈ xs, x ≤ m
theorem isMx_unique {xs : List Int} {a b : Int} (ha : IsMx xs a) (hb : IsMx xs b) : a = b := by
  have := ha.2 b hb.1
  have := hb.2 a ha.1
  omega
theorem isMx_succ {xs : List Int} {k : Nat} {m y : Int} (h : IsMx (xs.take k) m) (hy : xs[k]? = some y) (hb : m ≤ y ∨ y ≤ m) : IsMx (xs.take (k + 1)) (if m < y then y else m) := by
  obtain ⟨hk, rfl⟩ := List.getElem?_eq_some_iff.1 hy
  rw [List.take_succ_eq_append_getElem hk]
  refine ⟨?_, fun x hx => ?_⟩
  · split
    · exact List.mem_append_right _ (List.mem_singleton.2 rfl)
    · exact List.mem_append_left _ h.1
  · rw [List.mem_append] at hx
    rcases hx with hx | hx
    · have := h.2 x hx; split <;> omega
    · rw [List.mem_singleton] at hx; subst hx; split <;> omega

set_option maxRecDepth 100000 in
set_option maxHeartbeats 1000000 in
theorem smax_any (A : Option Addr) (n c : Nat) (xs : List Int) (w : World) (h : RI w A n xs) (hn : n ≤ 1099511627776) (hn0 : 0 < n) :
    Calls Tryd.prog 83 #[.slice A n c] w fun e w' => ∃ m, e = .returned (.int .i64 m) ∧ IsMx xs m ∧ w = w' := by
  have hl := Lib.hid h.len
  have i0 : ¬ ((n : Int) < 1) := by omega
  have i1 : (0 : Int) < (n : Int) := by omega
  obtain ⟨ad, x, rfl, hx, hcx⟩ := h.get hn0
  replace hcx : w.cell? ad = some (.int .i64 x) := hcx
  have hst : IsMx (xs.take 1) x := by
    have hx' := hx.out
    cases xs with
    | nil => simp at hx'
    | cons y ys => simp at hx'; subst hx'; exact ⟨by simp, by simp⟩
  replace hst := Lib.hid hst
  go_enter Tryd.func83, Tryd.ntmps83
  go_wp2_with fail
  go_loop [3, 4] (fun m i => ∃ (k : Nat) (v : Int), 1 ≤ k ∧ k ≤ n ∧ i = .int .i64 k ∧ m = .int .i64 v ∧ Hid (IsMx (xs.take k) v)) (fun _ i => n - (intOf i).toNat)
  case atStart => exact ⟨1, x, Nat.le_refl _, hn0, rfl, rfl, hst⟩
  case round =>
    obtain ⟨k, v, hk1, hk, rfl, rfl, hm⟩ := hrel
    by_cases hlt : k < n
    · obtain ⟨ad', y, e, hy, hcy⟩ := h.get hlt
      injection e with e
      subst e
      have hnew := isMx_succ hm.out hy.out (by omega)
      have i2 : (0 : Int) ≤ (k : Int) := Int.natCast_nonneg _
      have i3 : (k : Int) < (n : Int) := by omega
      by_cases hvy : v < y
      · rw [if_pos hvy] at hnew
        replace hnew := Lib.hid hnew
        clear hx hy hcx
        go_wp2_with fail
        go_round
        case rel => exact ⟨k + 1, y, by omega, by omega, by go_num, by first | rfl | (simp [hvy]) | go_num, hnew⟩
        case measure => simp [intOf]; omega
      · rw [if_neg hvy] at hnew
        replace hnew := Lib.hid hnew
        clear hx hy hcx
        go_wp2_with fail
        go_round
        case rel => exact ⟨k + 1, v, by omega, by omega, by go_num, by first | rfl | (simp [hvy]) | go_num, hnew⟩
        case measure => simp [intOf]; omega
    · obtain rfl : k = n := by omega
      have hf : IsMx xs v := by have := hm.out; rw [← hl.out, List.take_length] at this; exact this
      replace hf := Lib.hid hf
      clear hx hcx
      go_wp2_with fail
      go_ret
      exact ⟨v, rfl, hf.out, rfl⟩
end Go.Proofs.YticekkjambkifaaDoor

/- nodeset.Valid (as in PlxG). -/
set_option linter.unusedVariables false
set_option linter.unusedSimpArgs false
namespace Go.Proofs.YticekkjambkifaaDoor
open Go.RowKit
set_option maxHeartbeats 1000000 in
theorem nvalid_any (A : Option Addr) (n c : Nat) (xs : List Int) (m : Int) (w : World) (h : RI w A n xs) (hn : n ≤ 4611686018427387904) :
    Calls Tryd.prog 60 #[.slice A n c, .int .i64 m] w fun e w' => e = .returned (.bool (decide (Vld xs m))) ∧ w = w' := by
  have hl := Lib.hid h.len
  go_enter Tryd.func60, Tryd.ntmps60
  go_wp2
  go_loop [9] (fun i => ∃ k : Nat, k ≤ n ∧ i = .int .i64 k ∧ Hid (Vld (xs.take k) m)) (fun i => n - (intOf i).toNat)
  case atStart => exact ⟨0, Nat.zero_le _, rfl, Lib.hid (vld_nil m)⟩
  case round =>
    obtain ⟨k, hk, rfl, hx⟩ := hrel
    by_cases hlt : k < n
    · obtain ⟨ad, y, rfl, hy, hc⟩ := h.get hlt
      by_cases hb : 0 ≤ y ∧ y < m
      · obtain ⟨hb0, hb1⟩ := hb
        by_cases hk0 : 0 < k
        · obtain ⟨ad', z, had, hz, hcz⟩ := h.get (show k - 1 < n by omega)
          obtain rfl : ad = ad' := by injection had
          clear had
          by_cases hzy : z < y
          · have hv := Lib.hid (vld_next hx.out hz.out hy.out hk0 hb0 hb1 hzy)
            go_wp2
            go_round
            case rel => exact ⟨k + 1, by omega, by go_num, hv⟩
            case measure => simp [intOf]; omega
          · have hv := Lib.hid (vld_down (m := m) hz.out hy.out hk0 (by omega))
            go_wp2
            go_ret
            exact ⟨retBool (decide_eq_false hv.out).symm, rfl⟩
        · have hv := Lib.hid (vld_first hy.out (by omega) hb0 hb1)
          go_wp2
          go_round
          case rel => exact ⟨k + 1, by omega, by go_num, hv⟩
          case measure => simp [intOf]; omega
      · have hv := Lib.hid (vld_out hy.out hb)
        by_cases hb0 : y < 0
        · clear hb
          go_wp2
          go_ret
          exact ⟨retBool (decide_eq_false hv.out).symm, rfl⟩
        · have hb1 : m ≤ y := by omega
          clear hb
          go_wp2
          go_ret
          exact ⟨retBool (decide_eq_false hv.out).symm, rfl⟩
    · have hv : Vld xs m := by
        have := hx.out
        rwa [List.take_of_length_le (by rw [hl.out]; omega)] at this
      replace hv := Lib.hid hv
      go_wp2
      go_ret
      exact ⟨retBool (decide_eq_true hv.out).symm, rfl⟩
end Go.Proofs.YticekkjambkifaaDoor
