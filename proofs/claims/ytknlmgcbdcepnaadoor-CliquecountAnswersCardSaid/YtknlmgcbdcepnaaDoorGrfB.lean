/- The reference's graphs (cohesionref03): Remove. -/
import Derived.Test.YtknlmgcbdcepnaaDoorGrfA
import Derived.Test.YtknlmgcbdcepnaaDoorMakC
set_option linter.unusedVariables false
set_option linter.unusedSimpArgs false
namespace Go.Proofs.YtknlmgcbdcepnaaDoor
open Go.RowKit

/-- The call returns a new graph and an error. -/
def RetGr (w : World) (n : Int) (es : List (Int × Int)) (err : Int) (e : Ending) (w' : World) : Prop := ∃ A k c, e = .returned (.tuple #[.agg #[.int .i64 n, .slice A k c], .int .i64 err]) ∧ k ≤ c ∧ RE w' A k es ∧ Below w.heap.size w w' ∧ Fr w.heap.size A
/-- The edges without one. -/
def withoutE (es : List (Int × Int)) (e : Int × Int) : List (Int × Int) := es.filter fun x => decide (x ≠ e)
theorem withoutE_take {es : List (Int × Int)} {k : Nat} {x e : Int × Int} (h : es[k]? = some x) : withoutE (es.take (k + 1)) e = if x = e then withoutE (es.take k) e else withoutE (es.take k) e ++ [x] := by
  rw [takeE h]
  unfold withoutE
  rw [List.filter_append]
  by_cases hx : x = e
  · rw [if_pos hx]; simp [hx]
  · rw [if_neg hx]; simp [hx]
theorem withoutE_len (es : List (Int × Int)) (e : Int × Int) : (withoutE es e).length ≤ es.length := List.length_filter_le _ _
theorem rfnd_ok {n : Int} {es : List (Int × Int)} (hz : chkG n es = 0) (u v : Int) : rfnd n es u v = fndE es (edgeP u v) := if_pos hz

theorem OE.below {w w' : World} {B b : Nat} {v : Value} {es : List (Int × Int)} (h : OE w B v es) (hb : Below b w w') (hB : w.heap.size ≤ b) : OE w' B v es := by
  rcases h.2 with ⟨rfl, h0⟩ | ⟨g, cap, cur, rfl, h1, h2, h3⟩
  · exact ⟨h.1, .inl ⟨rfl, h0⟩⟩
  · have hlt : g < w.heap.size := by
      rcases Nat.lt_or_ge g w.heap.size with hlt | hge
      · exact hlt
      · rw [Array.getElem?_eq_none hge] at h2; cases h2
    exact ⟨h.1, .inr ⟨g, cap, cur, rfl, h1, (hb.block g (by omega)).trans h2, h3⟩⟩
set_option maxRecDepth 100000 in
set_option maxHeartbeats 4000000 in
theorem rremove_any (A : Option Addr) (m c : Nat) (n : Int) (es : List (Int × Int)) (u v : Int) (w : World) (h : RE w A m es) (hm : m ≤ 68719476736) (hz : chkG n es = 0) (he : endsB n u v = true) (hf : 0 ≤ rfnd n es u v) :
    Calls Tryd.prog 11 #[.agg #[.int .i64 n, .slice A m c], .int .i64 u, .int .i64 v] w (RetGr w n (withoutE es (edgeP u v)) 0) := by
  have k1 := fun w h => rcheck_any A m c n es w h (by omega)
  have k2 := fun w => ends_any n u v w
  have k3 := fun w h => rfind_any A m c n es u v w h (by omega)
  rw [hz] at k1
  rw [he] at k2
  generalize hqf : rfnd n es u v = qf at *
  replace hqf := Lib.hid hqf
  have hqf0 : 0 ≤ qf := by omega
  replace k1 := Lib.hid k1
  replace k2 := Lib.hid k2
  replace k3 := Lib.hid k3
  have hml := Lib.hid h.len
  have ke := fun w => edge_any u v w
  have hst := Lib.hid (fun k x (hx : es[k]? = some x) => withoutE_take (e := edgeP u v) hx)
  have hep : edgeP u v = ((edgeP u v).1, (edgeP u v).2) := rfl
  generalize hE : edgeP u v = E at *
  obtain ⟨a, b⟩ := E
  simp only at ke
  replace ke := Lib.hid ke
  replace hE := Lib.hid hE
  clear hep hz he hf
  go_enter Tryd.func11, Tryd.ntmps11
  go_wp2_with fail
  refine (k1.out _ ((h.alloc _).alloc _)).mono ?_
  rintro e w1 ⟨rfl, hb1⟩
  have G1 : Blk w1 w.heap.size 24 #[.int .i64 n, .slice A m c] := Blk.below (Blk.alloc (Blk.new _ _ _) _) hb1 (by simp; omega)
  have R1 : Blk w1 (w.heap.size + 1) 24 #[.int .i64 0, .slice none 0 0] := Blk.below (Blk.new' _ _ _ (by simp)) hb1 (by simp)
  have hb0 : Below w.heap.size w w1 := (((Below.refl _ _).alloc (Nat.le_refl _) _).alloc (by simp) _).trans (hb1.mono (by simp; omega))
  have s1 := hb1.size
  simp at s1
  have hr1 := RE.below h hb0 (Nat.le_refl _)
  clear hb1 k1
  have c10 := Blk.cell G1 0
  have c11 := Blk.cell G1 1
  simp at c10 c11
  go_wp2_with fail
  refine (k2.out _).mono ?_
  rintro e w2 ⟨rfl, rfl⟩
  go_wp2_with fail
  refine (k3.out _ hr1).mono ?_
  rintro e w3 ⟨rfl, hb3⟩
  have G3 := G1.below hb3 G1.lt
  have R3 := R1.below hb3 R1.lt
  have hb03 := hb0.trans (hb3.mono hb0.size)
  have s3 := hb3.size
  have hr3 := RE.below h hb03 (Nat.le_refl _)
  clear hb3 hb0 G1 R1 c10 c11 hr1 k2 k3
  have c10 := Blk.cell G3 0
  have c11 := Blk.cell G3 1
  simp at c10 c11
  have hl3 := G3.lt
  have hq : decide (qf < 0) = false := by simp; omega
  go_wp2_with fail
  have hO : Blk (w3.alloc (.cells #[.int .i64 n, .slice none 0 0] 24)) w3.heap.size 24 #[.int .i64 n, .slice none 0 0] := Blk.new _ _ _
  have R4 := R3.alloc (.cells #[.int .i64 n, .slice none 0 0] 24)
  have hb4 := hb03.alloc hb03.size (.cells #[.int .i64 n, .slice none 0 0] 24)
  have s4 : w3.heap.size < (w3.alloc (.cells #[.int .i64 n, .slice none 0 0] 24)).heap.size := by simp
  have hgo : w.heap.size + 1 < w3.heap.size := by omega
  have hgo2 : w.heap.size < w3.heap.size := by omega
  clear c10 c11 G3 R3 hb03 hr3 s1 s3 hl3
  generalize w3.alloc (.cells #[.int .i64 n, .slice none 0 0] 24) = w4 at *
  generalize w3.heap.size = go at *
  go_loopw [37] (fun i wr => ∃ (k : Nat) (vv : Value), k ≤ m ∧ i = .int .i64 k ∧ Blk wr go 24 #[.int .i64 n, vv] ∧ Blk wr (w.heap.size + 1) 24 #[.int .i64 0, .slice none 0 0] ∧ OE wr (go + 1) vv (withoutE (es.take k) (a, b)) ∧ Below w.heap.size w wr) (fun i _ => m - (intOf i).toNat)
  case atStart => exact ⟨0, _, Nat.zero_le _, rfl, hO, R4, OE.nil_, hb4⟩
  case round =>
    obtain ⟨k, vv, hk, rfl, hO', hR', ho, hb⟩ := hrel
    clear hO R4 hb4
    by_cases hlt : k < m
    · obtain ⟨ad, x, y, rfl, hbl, hy, hc1, hc2⟩ := (RE.below h hb (Nat.le_refl _)).get hlt
      have hs := hb.size
      have hstk := hst.out k (x, y) hy.out
      have hlen := withoutE_len (es.take k) (a, b)
      have hlen2 : (withoutE (es.take k) (a, b)).length ≤ 68719476736 := by rw [List.length_take] at hlen; omega
      have hw : ((x == a) = false ∧ withoutE (es.take (k + 1)) (a, b) = withoutE (es.take k) (a, b) ++ [(x, y)]) ∨ ((x == a) = true ∧ (y == b) = false ∧ withoutE (es.take (k + 1)) (a, b) = withoutE (es.take k) (a, b) ++ [(x, y)]) ∨ ((x == a) = true ∧ (y == b) = true ∧ withoutE (es.take (k + 1)) (a, b) = withoutE (es.take k) (a, b)) := by
        simp only [beq_iff_eq, beq_eq_false_iff_ne]
        by_cases h1 : x = a
        · by_cases h2 : y = b
          · rw [if_pos (by rw [h1, h2])] at hstk
            exact .inr (.inr ⟨h1, h2, hstk⟩)
          · rw [if_neg (fun e => h2 (by injection e))] at hstk
            exact .inr (.inl ⟨h1, h2, hstk⟩)
        · rw [if_neg (fun e => h1 (by injection e))] at hstk
          exact .inl ⟨h1, hstk⟩
      generalize hL : withoutE (es.take k) (a, b) = L at *
      replace hL := Lib.hid hL
      have hN : Blk (wr.alloc (.cells #[.int .i64 x, .int .i64 y] 59)) wr.heap.size 59 #[.int .i64 x, .int .i64 y] := Blk.new _ _ _
      have BV : Below w.heap.size w (wr.alloc (.cells #[.int .i64 x, .int .i64 y] 59)) := hb.alloc hs _
      have BN : Below (wr.heap.size + 1) (wr.alloc (.cells #[.int .i64 x, .int .i64 y] 59)) (wr.alloc (.cells #[.int .i64 x, .int .i64 y] 59)) := Below.refl _ _
      have ZZ : wr.heap.size + 1 ≤ (wr.alloc (.cells #[.int .i64 x, .int .i64 y] 59)).heap.size := by simp
      have ZY : (wr.alloc (.cells #[.int .i64 x, .int .i64 y] 59)).heap.size ≤ wr.heap.size + 1 := by simp
      have hgl := hO'.lt
      rcases hw with ⟨q1, hh⟩ | ⟨q1, q2, hh⟩ | ⟨q1, q2, hh⟩
      all_goals
        replace hh := Lib.hid hh
        clear hstk hlen
        go_wp2_with fail
        have hO2 := hO'.alloc (.cells #[.int .i64 x, .int .i64 y] 59)
        have hR2 := hR'.alloc (.cells #[.int .i64 x, .int .i64 y] 59)
        have ho2 := ho.alloc (.cells #[.int .i64 x, .int .i64 y] 59)
        generalize wr.alloc (.cells #[.int .i64 x, .int .i64 y] 59) = W at *
        clear hc1 hc2
        have n0 := Blk.cell hN 0
        have n1 := Blk.cell hN 1
        simp at n0 n1
        go_region_held3 (fun w' => w'.cell? ⟨wr.heap.size, 0, none⟩ = some (.int .i64 x) ∧ w'.cell? ⟨wr.heap.size, 1, none⟩ = some (.int .i64 y))
          ((first | (go_split_ands; refine ⟨?_, ?_⟩ <;> (rw [hb9.cell (by simp; omega)]; assumption)) | ((repeat' apply And.intro) <;> (go_keep; done))))
          ((go_at_call 49; (with_reducible refine (ke.out _).mono ?_); rintro e w9 ⟨rfl, hb9⟩; replace BV : Below w.heap.size w w9 := (by first | exact below_call BV hb9 | exact below_call BV.drew hb9); replace BN : Below (wr.heap.size + 1) W w9 := (by first | exact BN.trans (hb9.mono ZZ) | exact BN.drew.trans (hb9.mono ZZ))))
        have hO3 := hO2.below BN (by omega)
        have hR3 := hR2.below BN (by omega)
        have ho3 := OE.below ho2 BN (by omega)
        have hN3 := hN.below BN (by omega)
        have hs3 := BN.size
        have hgo9 : go + 1 ≤ w9.heap.size := by omega
        clear hN hO2 hR2 ho2 n0 n1 hb9 BN ZZ hO' hR' ho
        first
          | (have tok : withoutE (es.take (k + 1)) (a, b) = L ++ [(x, y)] := hh.out
             clear tok
             have n0 := Blk.cell hN3 0
             have n1 := Blk.cell hN3 1
             simp at n0 n1
             have c1 := Blk.cell hO3 1
             have f1 := Blk.frozen hO3 1
             simp at c1
             go_wp2_with (at_builtin; refine wpList_pushE rfl _ _ rfl rfl rfl (by simp) ho3 (by omega) (by omega) ?_; intro v' w10 ho' hb' hg4; have hB4 := Blk.grown hO3 hg4 (by intro e; have := (ho3.block_lt _ e.symm).1; omega); have c4 := Blk.cell hB4 1; have f4 := Blk.frozen hB4 1; simp at c4; obtain ⟨A4, n4, m4, rfl, hn4, hm4, hc4, hr4, hf4⟩ := ho'.form; replace hn4 := Lib.hid hn4)
             have hB5 := Blk.set hB4 1 (.slice A4 n4 m4)
             simp at hB5
             have hR5 : Blk (w10.setCell ⟨go, 1, none⟩ (.slice A4 n4 m4)) (w.heap.size + 1) 24 #[.int .i64 0, .slice none 0 0] := (hR3.below hb' (by omega)).far (by simp; omega) _
             have ho5 := ho'.set_far (p := ⟨go, 1, none⟩) (by simp) (.slice A4 n4 m4)
             have BV5 : Below w.heap.size w (w10.setCell ⟨go, 1, none⟩ (.slice A4 n4 m4)) := (BV.trans (hb'.mono (by omega))).setCell (p := ⟨go, 1, none⟩) (by simp; omega) _
             clear hb' hg4 hB4 c4 f4 ho' ho3 hO3 hR3 BV c1 f1
             go_roundw
             case rel => exact ⟨k + 1, _, by omega, by go_num, hB5, hR5, by rw [hh.out]; exact ho5, BV5⟩
             case measure => simp [intOf]; omega)
          | (have tok : withoutE (es.take (k + 1)) (a, b) = L := hh.out
             clear tok
             go_wp2_with fail
             go_roundw
             case rel => exact ⟨k + 1, _, by omega, by go_num, hO3, hR3, by rw [hh.out]; exact ho3, BV⟩
             case measure => simp [intOf]; omega)
    · have hall : withoutE (es.take k) (a, b) = withoutE es (a, b) := by rw [List.take_of_length_le (by rw [hml.out]; omega)]
      rw [hall] at ho
      obtain ⟨A4, n4, m4, rfl, hn4, hm4, hc4, hr4, hf4⟩ := ho.form
      replace hn4 := Lib.hid hn4
      have c0 := Blk.cell hO' 0
      have c1 := Blk.cell hO' 1
      have r0 := Blk.cell hR' 0
      have r1 := Blk.cell hR' 1
      simp at c0 c1 r0 r1
      have f0 := Blk.frozen hR' 0
      have f1 := Blk.frozen hR' 1
      have ho5 := (ho.set_far (p := ⟨w.heap.size + 1, 0, none⟩) (by simp; omega) (.int .i64 n)).set_far (p := ⟨w.heap.size + 1, 1, none⟩) (by simp; omega) (.slice A4 n4 m4)
      obtain ⟨hr5, _, hf5⟩ := ho5.re hn4.out
      have hR5 := Blk.set (Blk.set hR' 0 (.int .i64 n)) 1 (.slice A4 n4 m4)
      simp at hR5
      have s0 := Blk.cell hR5 0
      have s1 := Blk.cell hR5 1
      simp at s0 s1
      have hb5 := (hb.setCell (p := ⟨w.heap.size + 1, 0, none⟩) (by simp) (.int .i64 n)).setCell (p := ⟨w.heap.size + 1, 1, none⟩) (by simp) (.slice A4 n4 m4)
      have hfin : RetGr w n (withoutE es (a, b)) 0 (.returned (.tuple #[.agg #[.int .i64 n, .slice A4 n4 m4], .int .i64 0])) ((wr.setCell ⟨w.heap.size + 1, 0, none⟩ (.int .i64 n)).setCell ⟨w.heap.size + 1, 1, none⟩ (.slice A4 n4 m4)) :=
        ⟨A4, n4, m4, rfl, hm4, hr5, hb5, hf5.mono (by omega)⟩
      replace hfin := Lib.hid hfin
      have hne : go ≠ w.heap.size + 1 := by omega
      clear hr5 hf5 ho5 hR5 ho hr4 hf4 hb5 hb hO' hR' hall
      go_wp2_with fail
      refine bodyPost_ret (v := .tuple #[.agg #[.int .i64 n, .slice A4 n4 m4], .int .i64 0]) (by simp [results, Tryd.results11, go_sem, s0, s1]) rfl ?_
      exact hfin.out
end Go.Proofs.YtknlmgcbdcepnaaDoor
