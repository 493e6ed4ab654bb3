/- The reference's graphs (cohesionref03): with. -/
import Derived.Test.YtdibfecejgjfmaaGreatDoorGrfB
import Derived.Test.YtdibfecejgjfmaaGreatDoorSetB
set_option linter.unusedVariables false
set_option linter.unusedSimpArgs false
namespace Go.Proofs.YtdibfecejgjfmaaGreatDoor
open Go.RowKit

/-- A list of edges with one more. -/
def withL : List (Int × Int) → (Int × Int) → List (Int × Int)
  | [], e => [e]
  | x :: l, e => if ltE x e then x :: withL l e else if x = e then x :: l else e :: x :: l
theorem ltE_irr (e : Int × Int) : ¬ ltE e e := by unfold ltE; omega
theorem with_drop {es : List (Int × Int)} {k : Nat} {y e : Int × Int} (h : es[k]? = some y) : withL (es.drop k) e = if ltE y e then y :: withL (es.drop (k + 1)) e else if y = e then es.drop k else e :: es.drop k := by
  obtain ⟨hk, he⟩ := List.getElem?_eq_some_iff.1 h
  rw [List.drop_eq_getElem_cons hk, he]; rfl
theorem with_step {es : List (Int × Int)} {k : Nat} {y e : Int × Int} (hx : withL es e = es.take k ++ withL (es.drop k) e) (h : es[k]? = some y) (hl : ltE y e) : withL es e = es.take (k + 1) ++ withL (es.drop (k + 1)) e := by
  rw [hx, with_drop h, if_pos hl, takeE h, List.append_assoc]; rfl
theorem with_same {es : List (Int × Int)} {k : Nat} {e : Int × Int} (hx : withL es e = es.take k ++ withL (es.drop k) e) (h : es[k]? = some e) : withL es e = es := by
  rw [hx, with_drop h, if_neg (ltE_irr e), if_pos rfl, List.take_append_drop]
theorem with_here {es : List (Int × Int)} {k : Nat} {y e : Int × Int} (hx : withL es e = es.take k ++ withL (es.drop k) e) (h : es[k]? = some y) (h1 : ¬ ltE y e) (h2 : y ≠ e) : withL es e = es.take k ++ [e] ++ es.drop k := by
  rw [hx, with_drop h, if_neg h1, if_neg h2, List.append_assoc]; rfl
theorem with_end {es : List (Int × Int)} {k : Nat} {e : Int × Int} (hx : withL es e = es.take k ++ withL (es.drop k) e) (h : es.length ≤ k) : withL es e = es.take k ++ [e] ++ es.drop k := by
  rw [hx, List.drop_of_length_le h]; simp [withL]
theorem mem_with {es : List (Int × Int)} {e z : Int × Int} : z ∈ withL es e ↔ z = e ∨ z ∈ es := by
  induction es with
  | nil => simp [withL]
  | cons x l ih =>
    unfold withL
    split
    · rw [List.mem_cons, ih, List.mem_cons]
      constructor
      · rintro (h | h | h)
        · exact .inr (.inl h)
        · exact .inl h
        · exact .inr (.inr h)
      · rintro (h | h | h)
        · exact .inr (.inl h)
        · exact .inl h
        · exact .inr (.inr h)
    · split
      · rename_i h; subst h; simp
      · simp
theorem ltE_tr {a b c : Int × Int} (h : ltE a b) (h' : ltE b c) : ltE a c := by unfold ltE at *; omega
theorem ltE_tot {a b : Int × Int} (h : ¬ ltE a b) (h' : a ≠ b) : ltE b a := by
  unfold ltE at *
  have : ¬ (a.1 = b.1 ∧ a.2 = b.2) := fun ⟨h1, h2⟩ => h' (Prod.ext h1 h2)
  omega
theorem with_sorted {es : List (Int × Int)} {e : Int × Int} (h : es.Pairwise ltE) : (withL es e).Pairwise ltE := by
  induction es with
  | nil => simp [withL]
  | cons x l ih =>
    rw [List.pairwise_cons] at h
    unfold withL
    split
    · rename_i hx
      rw [List.pairwise_cons]
      refine ⟨fun z hz => ?_, ih h.2⟩
      rcases mem_with.1 hz with rfl | hz
      · exact hx
      · exact h.1 z hz
    · split
      · rw [List.pairwise_cons]; exact h
      · rename_i h1 h2
        have h3 := ltE_tot h1 h2
        rw [List.pairwise_cons, List.pairwise_cons]
        refine ⟨fun z hz => ?_, h⟩
        rcases List.mem_cons.1 hz with rfl | hz
        · exact h3
        · exact ltE_tr h3 (h.1 z hz)
theorem srt_with {n : Int} {es : List (Int × Int)} {e : Int × Int} (h : Srt n es) (h0 : 0 ≤ e.1) (h1 : e.1 < e.2) (h2 : e.2 < n) : Srt n (withL es e) :=
  ⟨fun z hz => by rcases mem_with.1 hz with rfl | hz; exact ⟨h0, h1, h2⟩; exact h.1 z hz, with_sorted h.2⟩
theorem with_length (es : List (Int × Int)) (e : Int × Int) : (withL es e).length ≤ es.length + 1 := by
  induction es with
  | nil => simp [withL]
  | cons x l ih =>
    unfold withL
    split
    · simp; omega
    · split <;> simp
theorem edgs_take (es : List (Int × Int)) (k : Nat) : edgs (es.take k) = (edgs es).take (k * 2) := by
  induction es generalizing k with
  | nil => simp [edgs]
  | cons e es ih =>
    cases k with
    | zero => simp [edgs]
    | succ k => rw [List.take_succ_cons, edgs_cons, edgs_cons, ih, show (k + 1) * 2 = k * 2 + 1 + 1 by omega]; rfl
theorem edgs_drop (es : List (Int × Int)) (k : Nat) : edgs (es.drop k) = (edgs es).drop (k * 2) := by
  induction es generalizing k with
  | nil => simp [edgs]
  | cons e es ih =>
    cases k with
    | zero => simp [edgs]
    | succ k => rw [List.drop_succ_cons, edgs_cons, ih, show (k + 1) * 2 = k * 2 + 1 + 1 by omega]; rfl
theorem RE.head {w : World} {n : Nat} {A : Option Addr} {es : List (Int × Int)} (h : RE w A n es) {k : Nat} (hk : k ≤ n) : RE w A k (es.take k) := by
  have := Reads.head h hk
  rwa [← edgs_take] at this
theorem RE.cut {w : World} {n : Nat} {A : Option Addr} {es : List (Int × Int)} (h : RE w A n es) {k cap : Nat} (hk : k ≤ n) (hc : n ≤ cap) : RE w (if cap = k then A else A.map (·.add (k * 2))) (n - k) (es.drop k) := by
  have := Reads.cut h hk hc
  rwa [← edgs_drop] at this
/-- The call returns a list of edges, the old one or a new one. -/
def RetW (w : World) (A : Option Addr) (es : List (Int × Int)) (e : Ending) (w' : World) : Prop := ∃ A' n' c', e = .returned (.slice A' n' c') ∧ n' ≤ c' ∧ RE w' A' n' es ∧ Below w.heap.size w w' ∧ (A' = A ∨ Fr w.heap.size A')

end Go.Proofs.YtdibfecejgjfmaaGreatDoor

namespace Go.Proofs.YtdibfecejgjfmaaGreatDoor
open Go.RowKit

theorem nbG_len (n : Int) (es : List (Int × Int)) (x : Int) : (nbG n es x).length ≤ 2 * es.length := by
  unfold nbG
  split
  · exact Nat.le_trans (of_length _) (nbl_length es x)
  · simp
/-- What Common returns. -/
def comL (n : Int) (es : List (Int × Int)) (u v : Int) : List Int := if u = v then [] else meetL (nbG n es u) (nbG n es v)
/-- The edges within a set. -/
def indL (es : List (Int × Int)) (l : List Int) : List (Int × Int) := es.filter fun e => decide (e.1 ∈ l ∧ e.2 ∈ l)
theorem indL_take {es : List (Int × Int)} {k : Nat} {x : Int × Int} {l : List Int} (h : es[k]? = some x) : indL (es.take (k + 1)) l = if x.1 ∈ l ∧ x.2 ∈ l then indL (es.take k) l ++ [x] else indL (es.take k) l := by
  rw [takeE h]
  unfold indL
  rw [List.filter_append]
  by_cases hx : x.1 ∈ l ∧ x.2 ∈ l
  · rw [if_pos hx]; simp [hx]
  · rw [if_neg hx]
    simp only [List.filter_cons, List.filter_nil, decide_eq_true_eq]
    rw [if_neg hx, List.append_nil]
theorem indL_len (es : List (Int × Int)) (l : List Int) : (indL es l).length ≤ es.length := List.length_filter_le _ _

set_option maxRecDepth 100000 in
set_option maxHeartbeats 4000000 in
theorem rinduced_any (A : Option Addr) (m c : Nat) (n : Int) (es : List (Int × Int)) (AL : Option Addr) (mL cL : Nat) (l : List Int) (w : World) (h : RE w A m es) (hm : m ≤ 68719476736) (hz : chkG n es = 0) (hl : RI w AL mL l) (hmL : mL ≤ 1099511627776) :
    Calls Tryz.prog 83 #[.agg #[.int .i64 n, .slice A m c], .slice AL mL cL] w (RetGr w n (indL es l) 0) := by
  have k1 := fun w h => rcheck_any A m c n es w h (by omega)
  rw [hz] at k1
  have k2 := fun x w h => has_any AL mL cL l x w h (by omega)
  have hst := Lib.hid (fun k x (hx : es[k]? = some x) => indL_take (l := l) hx)
  have hml := Lib.hid h.len
  replace k1 := Lib.hid k1
  replace k2 := Lib.hid k2
  clear hz
  go_enter Tryz.func83, Tryz.ntmps83
  go_wp2_with fail
  refine (k1.out _ ((h.alloc _).alloc _)).mono ?_
  rintro e w1 ⟨rfl, hb1⟩
  have G1 : Blk w1 w.heap.size 24 #[.int .i64 n, .slice A m c] := Blk.below (Blk.alloc (Blk.new _ _ _) _) hb1 (by simp; omega)
  have R1 : Blk w1 (w.heap.size + 1) 24 #[.int .i64 0, .slice none 0 0] := Blk.below (Blk.new' _ _ _ (by simp)) hb1 (by simp)
  have hb0 : Below w.heap.size w w1 := (((Below.refl _ _).alloc (Nat.le_refl _) _).alloc (by simp) _).trans (hb1.mono (by simp; omega))
  have s1 := hb1.size
  simp at s1
  clear hb1 k1
  have c10 := Blk.cell G1 0
  have c11 := Blk.cell G1 1
  simp at c10 c11
  have hl3 := G1.lt
  go_wp2_with fail
  have hO : Blk (w1.alloc (.cells #[.int .i64 n, .slice none 0 0] 24)) w1.heap.size 24 #[.int .i64 n, .slice none 0 0] := Blk.new _ _ _
  have R4 := R1.alloc (.cells #[.int .i64 n, .slice none 0 0] 24)
  have hb4 := hb0.alloc hb0.size (.cells #[.int .i64 n, .slice none 0 0] 24)
  have s4 : w1.heap.size < (w1.alloc (.cells #[.int .i64 n, .slice none 0 0] 24)).heap.size := by simp
  have hgo : w.heap.size + 1 < w1.heap.size := by omega
  have hgo2 : w.heap.size < w1.heap.size := by omega
  clear c10 c11 G1 R1 hb0 s1 hl3
  generalize w1.alloc (.cells #[.int .i64 n, .slice none 0 0] 24) = w4 at *
  generalize w1.heap.size = go at *
  go_loopw [22] (fun i wr => ∃ (k : Nat) (vv : Value), k ≤ m ∧ i = .int .i64 k ∧ Blk wr go 24 #[.int .i64 n, vv] ∧ Blk wr (w.heap.size + 1) 24 #[.int .i64 0, .slice none 0 0] ∧ OE wr (go + 1) vv (indL (es.take k) l) ∧ Below w.heap.size w wr) (fun i _ => m - (intOf i).toNat)
  case atStart => exact ⟨0, _, Nat.zero_le _, rfl, hO, R4, OE.nil_, hb4⟩
  case round =>
    obtain ⟨k, vv, hk, rfl, hO', hR', ho, hb⟩ := hrel
    clear hO R4 hb4
    by_cases hlt : k < m
    · obtain ⟨ad, x, y, rfl, hbl, hy, hc1, hc2⟩ := (RE.below h hb (Nat.le_refl _)).get hlt
      have hs := hb.size
      have hstk := hst.out k (x, y) hy.out
      simp only at hstk
      have hlen := indL_len (es.take k) l
      have hlen2 : (indL (es.take k) l).length ≤ 68719476736 := by rw [List.length_take] at hlen; omega
      have kx := fun w h => k2.out x w h
      have ky := fun w h => k2.out y w h
      have hw : (decide (x ∈ l) = false ∧ indL (es.take (k + 1)) l = indL (es.take k) l) ∨ (decide (x ∈ l) = true ∧ decide (y ∈ l) = false ∧ indL (es.take (k + 1)) l = indL (es.take k) l) ∨ (decide (x ∈ l) = true ∧ decide (y ∈ l) = true ∧ indL (es.take (k + 1)) l = indL (es.take k) l ++ [(x, y)]) := by
        simp only [decide_eq_true_eq, decide_eq_false_iff_not]
        by_cases h1 : x ∈ l
        · by_cases h2 : y ∈ l
          · rw [if_pos ⟨h1, h2⟩] at hstk
            exact .inr (.inr ⟨h1, h2, hstk⟩)
          · rw [if_neg (fun e => h2 e.2)] at hstk
            exact .inr (.inl ⟨h1, h2, hstk⟩)
        · rw [if_neg (fun e => h1 e.1)] at hstk
          exact .inl ⟨h1, hstk⟩
      generalize hL : indL (es.take k) l = L at *
      replace hL := Lib.hid hL
      have hlr := RI.below hl hb (Nat.le_refl _)
      have hO2 := hO'.alloc (.cells #[.int .i64 x, .int .i64 y] 53)
      have hR2 := hR'.alloc (.cells #[.int .i64 x, .int .i64 y] 53)
      have ho2 := ho.alloc (.cells #[.int .i64 x, .int .i64 y] 53)
      have BV : Below w.heap.size w (wr.alloc (.cells #[.int .i64 x, .int .i64 y] 53)) := hb.alloc hs _
      have hN : Blk (wr.alloc (.cells #[.int .i64 x, .int .i64 y] 53)) wr.heap.size 53 #[.int .i64 x, .int .i64 y] := Blk.new _ _ _
      have hlr2 := hlr.alloc (.cells #[.int .i64 x, .int .i64 y] 53)
      have hgl := hO'.lt
      have hgl2 : go + 1 ≤ (wr.alloc (.cells #[.int .i64 x, .int .i64 y] 53)).heap.size := by simp; omega
      rcases hw with ⟨q1, hh⟩ | ⟨q1, q2, hh⟩ | ⟨q1, q2, hh⟩
      all_goals
        rw [q1] at kx
        try rw [q2] at ky
        clear q1
        try clear q2
        replace hh := Lib.hid hh
        replace kx := Lib.hid kx
        replace ky := Lib.hid ky
        clear hstk hlen
        go_wp2_with fail
        clear hO' hR' ho hb hlr
        generalize wr.alloc (.cells #[.int .i64 x, .int .i64 y] 53) = W at *
        have n0 := Blk.cell hN 0
        have n1 := Blk.cell hN 1
        simp at n0 n1
        clear hc1 hc2
        refine (kx.out _ hlr2).mono ?_
        rintro e w5 ⟨rfl, rfl⟩
        go_wp2_with fail
      · go_roundw
        case rel => exact ⟨k + 1, _, by omega, by go_num, hO2, hR2, by rw [hh.out]; exact ho2, BV⟩
        case measure => simp [intOf]; omega
      all_goals
        refine (ky.out _ hlr2).mono ?_
        rintro e w5 ⟨rfl, rfl⟩
      · go_wp2_with fail
        go_roundw
        case rel => exact ⟨k + 1, _, by omega, by go_num, hO2, hR2, by rw [hh.out]; exact ho2, BV⟩
        case measure => simp [intOf]; omega
      · have c1 := Blk.cell hO2 1
        have f1 := Blk.frozen hO2 1
        simp at c1
        go_wp2_with (at_builtin; refine wpList_pushE rfl _ _ rfl rfl rfl (by simp) ho2 (by omega) (by omega) ?_; intro v' w10 ho' hb' hg4; have hB4 := Blk.grown hO2 hg4 (by intro e; have := (ho2.block_lt _ e.symm).1; omega); have c4 := Blk.cell hB4 1; have f4 := Blk.frozen hB4 1; simp at c4; obtain ⟨A4, n4, m4, rfl, hn4, hm4, hc4, hr4, hf4⟩ := ho'.form; replace hn4 := Lib.hid hn4)
        have hB5 := Blk.set hB4 1 (.slice A4 n4 m4)
        simp at hB5
        have hR5 : Blk (w10.setCell ⟨go, 1, none⟩ (.slice A4 n4 m4)) (w.heap.size + 1) 24 #[.int .i64 0, .slice none 0 0] := (hR2.below hb' (by omega)).far (by simp; omega) _
        have ho5 := ho'.set_far (p := ⟨go, 1, none⟩) (by simp) (.slice A4 n4 m4)
        have BV5 : Below w.heap.size w (w10.setCell ⟨go, 1, none⟩ (.slice A4 n4 m4)) := (BV.trans (hb'.mono (by omega))).setCell (p := ⟨go, 1, none⟩) (by simp; omega) _
        clear hb' hg4 hB4 c4 f4 ho' ho2 hO2 hR2 BV c1 f1
        go_roundw
        case rel => exact ⟨k + 1, _, by omega, by go_num, hB5, hR5, by rw [hh.out]; exact ho5, BV5⟩
        case measure => simp [intOf]; omega
    · have hall : indL (es.take k) l = indL es l := by rw [List.take_of_length_le (by rw [hml.out]; omega)]
      rw [hall] at ho
      obtain ⟨A4, n4, m4, rfl, hn4, hm4, hc4, hr4, hf4⟩ := ho.form
      replace hn4 := Lib.hid hn4
      have c0 := Blk.cell hO' 0
      have c1 := Blk.cell hO' 1
      have r0 := Blk.cell hR' 0
      have r1 := Blk.cell hR' 1
      simp at c0 c1 r0 r1
      have f0 := Blk.frozen hR' 0
      have f1 := Blk.frozen hR' 1
      have ho5 := (ho.set_far (p := ⟨w.heap.size + 1, 0, none⟩) (by simp; omega) (.int .i64 n)).set_far (p := ⟨w.heap.size + 1, 1, none⟩) (by simp; omega) (.slice A4 n4 m4)
      obtain ⟨hr5, _, hf5⟩ := ho5.re hn4.out
      have hR5 := Blk.set (Blk.set hR' 0 (.int .i64 n)) 1 (.slice A4 n4 m4)
      simp at hR5
      have s0 := Blk.cell hR5 0
      have s1 := Blk.cell hR5 1
      simp at s0 s1
      have hb5 := (hb.setCell (p := ⟨w.heap.size + 1, 0, none⟩) (by simp) (.int .i64 n)).setCell (p := ⟨w.heap.size + 1, 1, none⟩) (by simp) (.slice A4 n4 m4)
      have hfin : RetGr w n (indL es l) 0 (.returned (.tuple #[.agg #[.int .i64 n, .slice A4 n4 m4], .int .i64 0])) ((wr.setCell ⟨w.heap.size + 1, 0, none⟩ (.int .i64 n)).setCell ⟨w.heap.size + 1, 1, none⟩ (.slice A4 n4 m4)) :=
        ⟨A4, n4, m4, rfl, hm4, hr5, hb5, hf5.mono (by omega)⟩
      replace hfin := Lib.hid hfin
      have hne : go ≠ w.heap.size + 1 := by omega
      clear hr5 hf5 ho5 hR5 ho hr4 hf4 hb5 hb hO' hR' hall
      go_wp2_with fail
      refine bodyPost_ret (v := .tuple #[.agg #[.int .i64 n, .slice A4 n4 m4], .int .i64 0]) (by simp [results, Tryz.results83, go_sem, s0, s1]) rfl ?_
      exact hfin.out
end Go.Proofs.YtdibfecejgjfmaaGreatDoor
