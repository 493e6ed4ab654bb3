/- Printed by merge.py from GraB, Arr. -/
import Derived.Test.YticekkjambkifaaDoorSetB
import Derived.Test.YticekkjambkifaaDoorZaa
/- The reference's graphs (cohesionref03): the check. -/
set_option linter.unusedVariables false
namespace Go.Proofs.YticekkjambkifaaDoor
open Go.RowKit

theorem below_call {w w1 w2 : World} {n : Nat} (h : Below w.heap.size w w1) (hb : Below n w1 w2) (hn : w1.heap.size ≤ n := by exact Nat.le_refl _) : Below w.heap.size w w2 := h.trans (hb.mono (Nat.le_trans h.size hn))
/-- The order of edges. -/
def ltE (a b : Int × Int) : Prop := a.1 < b.1 ∨ a.1 = b.1 ∧ a.2 < b.2
instance (a b : Int × Int) : Decidable (ltE a b) := by unfold ltE; infer_instance

set_option maxHeartbeats 1000000 in
theorem before_any (a b c d : Int) (w : World) :
    Calls Tryd.prog 96 #[.agg #[.int .i64 a, .int .i64 b], .agg #[.int .i64 c, .int .i64 d]] w fun e w' => e = .returned (.bool (decide (ltE (a, b) (c, d)))) ∧ Below w.heap.size w w' := by
  rcases Int.lt_trichotomy a c with h | h | h
  · have hv : decide (ltE (a, b) (c, d)) = true := decide_eq_true (.inl h)
    replace hv := Lib.hid hv
    go_enter Tryd.func96, Tryd.ntmps96
    go_wp2
    go_ret
    exact ⟨retBool (by rw [hv.out]), by go_grown⟩
  · have h1 : (a == c) = true := by simpa using h
    have h2 : ¬ a < c := by omega
    have hv : decide (ltE (a, b) (c, d)) = decide (b < d) := by rw [Bool.eq_iff_iff, decide_eq_true_iff, decide_eq_true_iff]; unfold ltE; simp only; omega
    replace hv := Lib.hid hv
    clear h
    go_enter Tryd.func96, Tryd.ntmps96
    go_wp2
    go_ret
    exact ⟨retBool (by rw [hv.out]), by go_grown⟩
  · have h1 : (a == c) = false := by simp; omega
    have hv : decide (ltE (a, b) (c, d)) = false := by rw [decide_eq_false_iff_not]; unfold ltE; simp only; omega
    have h3 : decide (a < c) = false := by simp; omega
    replace hv := Lib.hid hv
    go_enter Tryd.func96, Tryd.ntmps96
    go_wp2
    go_ret
    exact ⟨retBool (by rw [hv.out]), by go_grown⟩

/-- The first error among edges behind one. -/
def chkE (n : Int) : Option (Int × Int) → List (Int × Int) → Int
  | _, [] => 0
  | p, e :: es => if e.1 < 0 ∨ e.2 ≤ e.1 ∨ n ≤ e.2 then 6 else if (match p with | some q => decide (¬ ltE q e) | none => false) = true then 5 else chkE n (some e) es
/-- The first error of a graph. -/
def chkG (n : Int) (es : List (Int × Int)) : Int := if n < 0 ∨ 64 < n then 1 else chkE n none es
def prevE (es : List (Int × Int)) (k : Nat) : Option (Int × Int) := if k = 0 then none else es[k - 1]?
theorem chk_out {n : Int} {es : List (Int × Int)} {k : Nat} {u v : Int} (h : chkE n none es = chkE n (prevE es k) (es.drop k)) (hx : es[k]? = some (u, v)) (hb : u < 0 ∨ v ≤ u ∨ n ≤ v) : chkE n none es = 6 := by
  rw [h]
  obtain ⟨hk, he⟩ := List.getElem?_eq_some_iff.1 hx
  rw [List.drop_eq_getElem_cons hk, he]
  simp only [chkE]
  rw [if_pos hb]
theorem chk_down {n : Int} {es : List (Int × Int)} {k : Nat} {u v u' v' : Int} (h : chkE n none es = chkE n (prevE es k) (es.drop k)) (hx : es[k]? = some (u, v)) (hb : ¬ (u < 0 ∨ v ≤ u ∨ n ≤ v)) (hk0 : 0 < k) (hp : es[k - 1]? = some (u', v')) (hl : ¬ ltE (u', v') (u, v)) : chkE n none es = 5 := by
  rw [h]
  obtain ⟨hk, he⟩ := List.getElem?_eq_some_iff.1 hx
  rw [List.drop_eq_getElem_cons hk, he, prevE, if_neg (by omega), hp]
  simp only [chkE]
  rw [if_neg hb, if_pos (by simpa using hl)]
theorem chk_step {n : Int} {es : List (Int × Int)} {k : Nat} {u v : Int} (h : chkE n none es = chkE n (prevE es k) (es.drop k)) (hx : es[k]? = some (u, v)) (hb : ¬ (u < 0 ∨ v ≤ u ∨ n ≤ v)) (hl : 0 < k → ∀ u' v', es[k - 1]? = some (u', v') → ltE (u', v') (u, v)) : chkE n none es = chkE n (prevE es (k + 1)) (es.drop (k + 1)) := by
  rw [h]
  obtain ⟨hk, he⟩ := List.getElem?_eq_some_iff.1 hx
  rw [List.drop_eq_getElem_cons hk, he]
  simp only [chkE]
  rw [if_neg hb, if_neg]
  · congr 1
    rw [prevE, if_neg (by omega), Nat.add_sub_cancel, hx]
  · by_cases hk0 : k = 0
    · subst hk0; simp [prevE]
    · rw [prevE, if_neg hk0]
      have hlt : k - 1 < es.length := by omega
      rw [List.getElem?_eq_getElem hlt]
      have := hl (by omega) es[k-1].1 es[k-1].2 (List.getElem?_eq_getElem hlt)
      simpa using this

set_option maxRecDepth 100000 in
set_option maxHeartbeats 2000000 in
theorem rcheck_any (A : Option Addr) (m c : Nat) (n : Int) (es : List (Int × Int)) (w : World) (h : RE w A m es) (hm : m ≤ 1099511627776) :
    Calls Tryd.prog 54 #[.agg #[.int .i64 n, .slice A m c]] w fun e w' => e = .returned (.int .i64 (chkG n es)) ∧ Below w.heap.size w w' := by
  by_cases hn : n < 0 ∨ 64 < n
  · have hv : chkG n es = 1 := by rw [chkG, if_pos hn]
    replace hv := Lib.hid hv
    rcases hn with hn | hn
    all_goals
      go_enter Tryd.func54, Tryd.ntmps54
      go_wp2
      go_ret
      exact ⟨retInt hv.out.symm, by go_grown⟩
  · have hv : chkG n es = chkE n none es := by rw [chkG, if_neg hn]
    replace hv := Lib.hid hv
    have hn0 : 0 ≤ n := by omega
    have hn1 : n ≤ 64 := by omega
    clear hn
    have hml := Lib.hid h.len
    go_enter Tryd.func54, Tryd.ntmps54
    go_wp2
    go_loopw [16] (fun i wr => ∃ k : Nat, k ≤ m ∧ i = .int .i64 k ∧ Hid (chkE n none es = chkE n (prevE es k) (es.drop k)) ∧ Blk wr w.heap.size 25 #[.int .i64 n, .slice A m c] ∧ Below w.heap.size w wr) (fun i _ => m - (intOf i).toNat)
    case atStart => exact ⟨0, Nat.zero_le _, rfl, Lib.hid rfl, Blk.new _ _ _, by go_grown⟩
    case round =>
      obtain ⟨k, hk, rfl, hx, hB, hb⟩ := hrel
      have hg0 := Blk.cell hB 0
      have hg1 := Blk.cell hB 1
      simp at hg0 hg1
      have hlt0 := Blk.lt hB
      by_cases hlt : k < m
      · obtain ⟨ad, u, v, rfl, hbl, hy, hc1, hc2⟩ := (RE.below h hb (Nat.le_refl _)).get hlt
        by_cases hbad : u < 0 ∨ v ≤ u ∨ n ≤ v
        · have hf := Lib.hid (hv.out.trans (chk_out hx.out hy.out hbad))
          have hb' := hb
          have hw : decide (u < 0) = true ∨ (decide (u < 0) = false ∧ decide (v ≤ u) = true) ∨ (decide (u < 0) = false ∧ decide (v ≤ u) = false ∧ decide (n ≤ v) = true) := by simp; omega
          clear hbad
          rcases hw with q1 | ⟨q1, q2⟩ | ⟨q1, q2, q3⟩
          all_goals
            go_wp2
            go_ret
            exact ⟨retInt hf.out.symm, by go_grown⟩
        · have q1 : decide (u < 0) = false := by simp; omega
          have q2 : decide (v ≤ u) = false := by simp; omega
          have q3 : decide (n ≤ v) = false := by simp; omega
          by_cases hk0 : 0 < k
          · obtain ⟨ad', u', v', had, _, hy', hc1', hc2'⟩ := (RE.below h hb (Nat.le_refl _)).get (show k - 1 < m by omega)
            obtain rfl : ad = ad' := by injection had
            clear had
            have hh : Hid ((decide (ltE (u', v') (u, v)) = true → chkE n none es = chkE n (prevE es (k + 1)) (es.drop (k + 1))) ∧ (decide (ltE (u', v') (u, v)) = false → chkE n none es = 5)) := by
              refine Lib.hid ⟨fun hl => chk_step hx.out hy.out hbad fun _ a b hab => ?_, fun hl => chk_down hx.out hy.out hbad hk0 hy'.out (by simpa using hl)⟩
              rw [hy'.out] at hab
              simp at hab
              obtain ⟨rfl, rfl⟩ := hab
              exact of_decide_eq_true hl
            clear hbad
            have bf := fun w => before_any u' v' u v w
            generalize decide (ltE (u', v') (u, v)) = B at *
            replace bf := Lib.hid bf
            have i0 : (0 : Int) ≤ (k : Int) - 1 := by omega
            have i1 : (k : Int) - 1 < (m : Int) := by omega
            have i2 : ((k : Int) - 1).toNat = k - 1 := by omega
            have i3 : IntKind.i64.wrap ((k : Int) - 1) = (k : Int) - 1 := IntWalk.i64_in _ ⟨by omega, by omega⟩
            have i4 : decide ((0 : Int) < (k : Int)) = true := by simp; omega
            have i5 : (1 : Int) ≤ (k : Int) := by omega
            have i6 : (k : Int) ≤ (m : Int) := by omega
            have i7 : k - 1 < m := by omega
            have hz := hb.size
            go_wp2
            obtain ⟨W, hW⟩ : ∃ W, W = wr.alloc (.cells #[.int .i64 u, .int .i64 v] 73) := ⟨_, rfl⟩
            have hN : Blk W wr.heap.size 73 #[.int .i64 u, .int .i64 v] := by rw [hW]; exact Blk.new _ _ _
            have hB2 : Blk W w.heap.size 25 #[.int .i64 n, .slice (some ad) m c] := by rw [hW]; exact Blk.alloc hB _
            have hb2 : Below w.heap.size w W := by rw [hW]; exact hb.alloc hz _
            have ZZ : wr.heap.size + 1 ≤ W.heap.size := by rw [hW]; simp
            have hp1 : W.cell? (ad.add ((k - 1) * 2)) = some (.int .i64 u') := by rw [hW, World.cell?_alloc_lt _ _ _ (by rw [block_of_add]; exact hbl)]; exact hc1'
            have hp2 : W.cell? ⟨(ad.add ((k - 1) * 2)).block, (ad.add ((k - 1) * 2)).off + 1, none⟩ = some (.int .i64 v') := by rw [hW, World.cell?_alloc_lt _ _ _ (by show (ad.add ((k - 1) * 2)).block < _; rw [block_of_add]; exact hbl)]; exact hc2'
            rw [← hW]
            clear hW hg0 hg1 hc1 hc2 hc1' hc2' hB hb
            have hg1 := Blk.cell hB2 1
            have hn0' := Blk.cell hN 0
            have hn1' := Blk.cell hN 1
            simp at hg1 hn0' hn1'
            have hlw : w.heap.size < wr.heap.size + 1 := by omega
            have hla : (ad.add ((k - 1) * 2)).block < wr.heap.size + 1 := by rw [block_of_add]; omega
            have BV : Below w.heap.size w W := hb2
            have BN : Below (wr.heap.size + 1) W W := Below.refl _ _
            go_region_held3 (fun w' => w'.cell? ⟨w.heap.size, 1, none⟩ = some (.slice (some ad) m c) ∧ w'.cell? (ad.add ((k - 1) * 2)) = some (.int .i64 u') ∧ w'.cell? ⟨(ad.add ((k - 1) * 2)).block, (ad.add ((k - 1) * 2)).off + 1, none⟩ = some (.int .i64 v') ∧ w'.cell? ⟨wr.heap.size, 0, none⟩ = some (.int .i64 u) ∧ w'.cell? ⟨wr.heap.size, 1, none⟩ = some (.int .i64 v))
              ((first | (go_split_ands; refine ⟨?_, ?_, ?_, ?_, ?_⟩ <;> (rw [hb9.cell (by first | (simp; omega) | (rw [block_of_add] at hla; simp [block_of_add]; omega))]; assumption)) | ((repeat' apply And.intro) <;> (go_keep; done))))
              ((go_at_call 96; (with_reducible refine (bf.out _).mono ?_); rintro e w9 ⟨rfl, hb9⟩; replace BV : Below w.heap.size w w9 := (by first | exact below_call BV hb9 | exact below_call BV.drew hb9); replace BN : Below (wr.heap.size + 1) W w9 := (by first | exact BN.trans (hb9.mono ZZ) | exact BN.drew.trans (hb9.mono ZZ))))
            replace hB2 := Blk.below hB2 BN (by omega)
            clear hb9 hp1 hp2 hg1 hn0' hn1' BN hN
            cases B
            · have hf := Lib.hid (hv.out.trans (hh.out.2 rfl))
              clear hh bf
              go_wp2
              go_ret
              exact ⟨retInt hf.out.symm, BV⟩
            · have hf := Lib.hid (hh.out.1 rfl)
              clear hh bf
              go_wp2
              go_roundw
              case rel => exact ⟨k + 1, by omega, by go_num, hf, hB2, BV⟩
              case measure => simp [intOf]; omega
          · have hst := Lib.hid (chk_step hx.out hy.out hbad (fun h0 => absurd h0 hk0))
            clear hbad
            have i4 : decide ((0 : Int) < (k : Int)) = false := by simp; omega
            go_wp2
            go_quiet (fail)
            go_wp2
            go_roundw
            case rel => exact ⟨k + 1, by omega, by go_num, hst, (Blk.alloc hB _).drewN _, below_drewN (hb.alloc hb.size _) _⟩
            case measure => simp [intOf]; omega
      · have hf : chkG n es = 0 := by
          rw [hv.out, hx.out, List.drop_of_length_le (by rw [hml.out]; omega)]; rfl
        replace hf := Lib.hid hf
        go_wp2
        go_ret
        exact ⟨retInt hf.out.symm, hb⟩
end Go.Proofs.YticekkjambkifaaDoor

namespace Go.Proofs.YticekkjambkifaaDoor
open Go.RowKit

theorem takeE {es : List (Int × Int)} {k : Nat} {e : Int × Int} (h : es[k]? = some e) : es.take (k + 1) = es.take k ++ [e] := by
  obtain ⟨hk, rfl⟩ := List.getElem?_eq_some_iff.1 h
  exact List.take_succ_eq_append_getElem hk
/-- The other ends of the edges at x. -/
def nbl (es : List (Int × Int)) (x : Int) : List Int := es.flatMap fun e => (if e.1 = x then [e.2] else []) ++ (if e.2 = x then [e.1] else [])
theorem nbl_take {es : List (Int × Int)} {k : Nat} {u v x : Int} (h : es[k]? = some (u, v)) : nbl (es.take (k + 1)) x = nbl (es.take k) x ++ (if u = x then [v] else []) ++ (if v = x then [u] else []) := by
  unfold nbl; rw [takeE h, List.flatMap_append]; simp
theorem nbl_length (es : List (Int × Int)) (x : Int) : (nbl es x).length ≤ 2 * es.length := by
  unfold nbl
  induction es with
  | nil => simp
  | cons e es ih =>
    rw [List.flatMap_cons, List.length_append, List.length_append, List.length_cons]
    have : (if e.1 = x then [e.2] else ([] : List Int)).length ≤ 1 := by split <;> simp
    have : (if e.2 = x then [e.1] else ([] : List Int)).length ≤ 1 := by split <;> simp
    omega
theorem five_else {c : Prop} [Decidable c] {a : Int} (h : (if c then 5 else a) = 0) : a = 0 := by
  split at h
  · omega
  · exact h
theorem chkE_lt {n : Int} {es : List (Int × Int)} {p : Option (Int × Int)} (h : chkE n p es = 0) : ∀ e ∈ es, 0 ≤ e.1 ∧ e.1 < e.2 ∧ e.2 < n := by
  induction es generalizing p with
  | nil => simp
  | cons e es ih =>
    simp only [chkE] at h
    by_cases h1 : e.1 < 0 ∨ e.2 ≤ e.1 ∨ n ≤ e.2
    · rw [if_pos h1] at h; cases h
    · rw [if_neg h1] at h
      have h2 : chkE n (some e) es = 0 := by
        exact five_else h
      intro x hx
      rcases List.mem_cons.1 hx with rfl | hx
      · omega
      · exact ih h2 x hx
theorem chkG_zero {n : Int} {es : List (Int × Int)} (h : chkG n es = 0) : 0 ≤ n ∧ n ≤ 64 ∧ chkE n none es = 0 := by
  unfold chkG at h
  split at h
  · cases h
  · exact ⟨by omega, by omega, h⟩
/-- The neighbours of a node. -/
def nbG (n : Int) (es : List (Int × Int)) (x : Int) : List Int := if chkG n es = 0 then ofL (nbl es x) else []

set_option maxRecDepth 100000 in
set_option maxHeartbeats 2000000 in
theorem neigh_any (A : Option Addr) (m c : Nat) (n : Int) (es : List (Int × Int)) (x : Int) (w : World) (h : RE w A m es) (hm : m ≤ 274877906944) :
    Calls Tryd.prog 48 #[.agg #[.int .i64 n, .slice A m c], .int .i64 x] w (RetI w (nbG n es x)) := by
  have ck := fun w h => rcheck_any A m c n es w h (by omega)
  by_cases hz : chkG n es = 0
  · have hdef : nbG n es x = ofL (nbl es x) := if_pos hz
    rw [hz] at ck
    have hlt := Lib.hid (chkE_lt (chkG_zero hz).2.2)
    clear hz
    replace hdef := Lib.hid hdef
    replace ck := Lib.hid ck
    have hml := Lib.hid h.len
    go_enter Tryd.func48, Tryd.ntmps48
    go_wp2_with fail
    refine (ck.out _ (h.alloc _)).mono ?_
    rintro e w1 ⟨rfl, hb1⟩
    simp only [World.size_alloc] at hb1
    have hG : Blk w1 w.heap.size 25 #[.int .i64 n, .slice A m c] := Blk.below (Blk.new _ _ _) hb1 (by simp)
    have hb0 : Below w.heap.size w w1 := ((Below.refl _ _).alloc (Nat.le_refl _) _).trans (hb1.mono (by simp))
    have hg0 := Blk.cell hG 0
    have hg1 := Blk.cell hG 1
    simp at hg0 hg1
    have hs0 := hb1.size
    simp at hs0
    go_wp2
    clear hg0 hg1 hb1
    have h1 := RE.below h hb0 (Nat.le_refl _)
    go_loopw [5, 14] (fun v i wr => ∃ k : Nat, k ≤ m ∧ i = .int .i64 k ∧ OI wr w1.heap.size v (nbl (es.take k) x) ∧ Below w1.heap.size w1 wr) (fun _ i _ => m - (intOf i).toNat)
    case atStart => exact ⟨0, Nat.zero_le _, rfl, OI.nil_, Below.refl _ _⟩
    case round =>
      obtain ⟨k, hk, rfl, ho, hb⟩ := hrel
      have hlen : (nbl (es.take k) x).length ≤ 2 * k := Nat.le_trans (nbl_length _ _) (by rw [List.length_take]; omega)
      have hs := hb.size
      by_cases hlt' : k < m
      · obtain ⟨ad, u, v, rfl, hbl, hy, hc1, hc2⟩ := (RE.below h1 hb (Nat.le_refl _)).get hlt'
        have huv : u < v := (hlt.out _ (List.mem_of_getElem? hy.out)).2.1
        have hst := nbl_take (x := x) hy.out
        have hne := (ho.alloc (.cells #[.int .i64 u, .int .i64 v] 73)).block_lt
        have hnn := ho.ne_new
        by_cases e1 : u = x
        · have e1' : (u == x) = true := by simpa using e1
          have e2' : (v == x) = false := by simp; omega
          rw [if_pos e1, if_neg (by omega), List.append_nil] at hst
          replace hst := Lib.hid hst
          clear e1
          generalize nbl (es.take k) x = ys at *
          go_wp2_with (at_builtin; refine wpList_push rfl _ _ rfl rfl rfl (by simp) (ho.alloc _) (by omega) (by simp; omega) ?_; intro v' w' ho' hb' hg'; have hN := Blk.grown (Blk.new wr 73 #[.int .i64 u, .int .i64 v]) hg' hnn; have hn1 := Blk.cell hN 1; simp at hn1)
          have hb2 := (hb.alloc hs _).trans hb'
          go_roundw
          case rel => exact ⟨k + 1, by omega, by go_num, by rw [hst.out]; exact ho', hb2⟩
          case measure => simp [intOf]; omega
        · have e1' : (u == x) = false := by simpa using e1
          by_cases e2 : v = x
          · have e2' : (v == x) = true := by simpa using e2
            rw [if_neg e1, if_pos e2, List.append_nil] at hst
            replace hst := Lib.hid hst
            clear e1 e2
            generalize nbl (es.take k) x = ys at *
            go_wp2_with (at_builtin; refine wpList_push rfl _ _ rfl rfl rfl (by simp) (ho.alloc _) (by omega) (by simp; omega) ?_; intro v' w' ho' hb' hg')
            have hb2 := (hb.alloc hs _).trans hb'
            go_roundw
            case rel => exact ⟨k + 1, by omega, by go_num, by rw [hst.out]; exact ho', hb2⟩
            case measure => simp [intOf]; omega
          · have e2' : (v == x) = false := by simpa using e2
            rw [if_neg e1, if_neg e2, List.append_nil, List.append_nil] at hst
            replace hst := Lib.hid hst
            clear e1 e2
            generalize nbl (es.take k) x = ys at *
            go_wp2
            go_roundw
            case rel => exact ⟨k + 1, by omega, by go_num, by rw [hst.out]; exact ho.alloc _, hb.alloc hs _⟩
            case measure => simp [intOf]; omega
      · obtain ⟨A', n', c', rfl, hn', hc', _, hr⟩ := ho.form
        replace hlen : n' ≤ 2 * k := by omega
        clear hn'
        rw [List.take_of_length_le (by rw [hml.out]; omega)] at hr
        have hb2 := hb0.trans (hb.mono hb0.size)
        clear ho
        go_wp2_with fail
        refine (of_any A' n' c' _ _ hr (by omega)).mono ?_
        rintro e w2 ⟨A2, n2, c2, rfl, h3, h4, h5, h6⟩
        have hfin : RetI w (nbG n es x) (.returned (.slice A2 n2 c2)) w2 := by
          rw [hdef.out]; exact RetI.mk_ h3 h4 (hb2.trans (h5.mono hb2.size)) (h6.mono hb2.size)
        replace hfin := Lib.hid hfin
        clear hr hb2 h4 h5
        go_wp2
        go_ret
        exact hfin.out
  · have hdef : nbG n es x = [] := if_neg hz
    have hz' : (chkG n es != 0) = true := by simpa using hz
    clear hz
    generalize chkG n es = z at *
    replace hdef := Lib.hid hdef
    replace ck := Lib.hid ck
    go_enter Tryd.func48, Tryd.ntmps48
    go_wp2_with fail
    refine (ck.out _ (h.alloc _)).mono ?_
    rintro e w1 ⟨rfl, hb1⟩
    simp only [World.size_alloc] at hb1
    have hb0 : Below w.heap.size w w1 := ((Below.refl _ _).alloc (Nat.le_refl _) _).trans (hb1.mono (by simp))
    clear hb1
    go_wp2
    go_ret
    exact (by rw [hdef.out]; exact RetI.mk_ (Nat.le_refl _) RI.none_ hb0 Fr.none_)
end Go.Proofs.YticekkjambkifaaDoor

/- Words for slices that a call makes by their length: numbers and sets of bits in a block of their own. -/
set_option linter.unusedVariables false
namespace Go.Proofs.YticekkjambkifaaDoor
open Go.RowKit

def u64s (xs : List Nat) : List Value := xs.map fun x : Nat => Value.int .u64 (x : Int)
/-- Block g holds the numbers xs. -/
def AI (w : World) (g : Nat) (xs : List Int) : Prop := Blk w g 3 (ints xs).toArray
/-- Block g holds the sets xs. -/
def AU (w : World) (g : Nat) (xs : List Nat) : Prop := Blk w g 94 (u64s xs).toArray
section
variable {w w' : World} {g : Nat} {xs : List Int} {us : List Nat}
theorem AI.lt (h : AI w g xs) : g < w.heap.size := Blk.lt h
theorem AI.cell (h : AI w g xs) {i : Nat} (hi : i < xs.length) : w.cell? ⟨g, i, none⟩ = some (.int .i64 (xs.getD i 0)) := by
  rw [Blk.cell h i]
  simp [ints, List.getD_eq_getElem?_getD, hi]
theorem AI.frozen (h : AI w g xs) (i : Nat) : w.frozen? ⟨g, i, none⟩ = false := Blk.frozen h i
theorem AI.set (h : AI w g xs) (i : Nat) (v : Int) : AI (w.setCell ⟨g, i, none⟩ (.int .i64 v)) g (xs.set i v) := by
  have := Blk.set h i (.int .i64 v)
  unfold AI
  have e : (ints xs).toArray.setIfInBounds i (.int .i64 v) = (ints (xs.set i v)).toArray := by simp [ints, List.map_set]
  rwa [e] at this
theorem AI.far (h : AI w g xs) {p : Addr} (hp : g ≠ p.block) (u : Value) : AI (w.setCell p u) g xs := Blk.far h hp u
theorem AI.below {B : Nat} (h : AI w g xs) (hb : Below B w w') (hg : g < B) : AI w' g xs := Blk.below h hb hg
theorem AI.grown {row : Option Nat} (h : AI w g xs) (hb : w.grownBy w' row) (hg : some g ≠ row) : AI w' g xs := Blk.grown h hb hg
theorem AI.alloc (h : AI w g xs) (o : Obj) : AI (w.alloc o) g xs := Blk.alloc h o
theorem AI.drew (h : AI w g xs) : AI w.drew g xs := h
theorem AI.drewN (h : AI w g xs) (n : Nat) : AI (w.drewN n) g xs := h
theorem AI.ri (h : AI w g xs) {n : Nat} (hn : n = xs.length) : RI w (some ⟨g, 0, none⟩) n xs := by
  subst hn
  refine ⟨by rw [ints_length]; omega, fun _ => ⟨_, rfl, h.lt, fun j u hu => ?_⟩⟩
  have hc := Blk.cell h j
  have : ((⟨g, 0, none⟩ : Addr).add j) = ⟨g, j, none⟩ := by unfold Addr.add; split <;> simp_all
  rw [this, hc]
  simpa using hu
theorem AU.lt (h : AU w g us) : g < w.heap.size := Blk.lt h
theorem AU.cell (h : AU w g us) {i : Nat} (hi : i < us.length) : w.cell? ⟨g, i, none⟩ = some (.int .u64 ((us.getD i 0 : Nat) : Int)) := by
  rw [Blk.cell h i]
  simp [u64s, List.getD_eq_getElem?_getD, hi]
theorem AU.frozen (h : AU w g us) (i : Nat) : w.frozen? ⟨g, i, none⟩ = false := Blk.frozen h i
theorem AU.set (h : AU w g us) (i : Nat) (v : Nat) : AU (w.setCell ⟨g, i, none⟩ (.int .u64 (v : Int))) g (us.set i v) := by
  have := Blk.set h i (.int .u64 (v : Int))
  unfold AU
  have e : (u64s us).toArray.setIfInBounds i (.int .u64 (v : Int)) = (u64s (us.set i v)).toArray := by simp [u64s, List.map_set]
  rwa [e] at this
theorem AU.far (h : AU w g us) {p : Addr} (hp : g ≠ p.block) (u : Value) : AU (w.setCell p u) g us := Blk.far h hp u
theorem AU.below {B : Nat} (h : AU w g us) (hb : Below B w w') (hg : g < B) : AU w' g us := Blk.below h hb hg
theorem AU.grown {row : Option Nat} (h : AU w g us) (hb : w.grownBy w' row) (hg : some g ≠ row) : AU w' g us := Blk.grown h hb hg
theorem AU.alloc (h : AU w g us) (o : Obj) : AU (w.alloc o) g us := Blk.alloc h o
theorem AU.drew (h : AU w g us) : AU w.drew g us := h
theorem AU.drewN (h : AU w g us) (n : Nat) : AU (w.drewN n) g us := h
end
theorem blk_of_own {w : World} {B g n : Nat} {e : TypeId} {xs : List Value} (h : w.ownsRow B e 1 (.slice (some ⟨g, 0, none⟩) n n) n xs) : Blk w g e xs.toArray := by
  rcases h.2 with ⟨hv, _⟩ | ⟨g', cap, cur, hv, _, hh, _, _, hs, ht⟩
  · cases hv
  · injection hv with h1 h2 h3
    injection h1 with h1
    injection h1 with h1
    subst h1; subst h3
    unfold Blk
    rw [hh]
    have : cur = xs.toArray := by
      rw [← ht, List.take_of_length_le (by simp [hs])]
    rw [this]
theorem uint_info : (Tryd.prog.info? 94).map (fun i => (i.zero, i.size, i.bytes)) = some (some (.int .u64 0), 1, 8) := by kernel_rfl
/-- make([]int, n) -/
theorem wpList_makeI {ops : Array Oper} {rest : List Oper} {o : Oper} {a : Act} {Q : Exit → Act → World → Prop} {w : World} {L C : Int} {n : Nat}
    (hg : o.guard = none) (l c : Operand) (hop : o.op = Op.makeSlice 22 l c) (hl : a.eval l = .int .i64 L) (hc : a.eval c = .int .i64 C) (hL : L = (n : Int)) (hC : C = (n : Int)) (hn : n ≤ 1099511627776)
    (h : ∀ w', AI w' w.heap.size (List.replicate n 0) → w.grownBy w' none → wpList Tryd.prog ops Q rest (a.put o.dst (.slice (some ⟨w.heap.size, 0, none⟩) n n)) w') :
    wpList Tryd.prog ops Q (o :: rest) a w := by
  obtain ⟨i0, hi0, hz0, hz1, hz2⟩ := info_parts int_info
  refine wpList_make_full w hg l c 22 hop w.heap.size 3 i0 _ 1 Tryd.underlying22 hi0 hz0 hz1 _ _ L C n hl hc hL hC (by rw [hz2]; omega) (by unfold maxLen; omega) (Nat.le_refl _) ?_
  intro w' h1 h2
  refine h w' ?_ h2
  have := blk_of_own h1
  rw [show (Value.int IntKind.i64 0).cells = #[.int .i64 0] from rfl, Nat.mul_one, toList_madeCells_one] at this
  unfold AI
  have e : ints (List.replicate n 0) = List.replicate n (.int .i64 0) := List.map_replicate
  rw [e]; exact this
theorem grown_none_below {w w' : World} (h : w.grownBy w' none) (B : Nat) (hB : B ≤ w.heap.size) : Below B w w' := (Below.refl _ _).grown h hB (fun k hk => by cases hk)
theorem grown_setB {w w' : World} {g : Nat} (h : w.grownBy w' (some g)) (i : Nat) (u : Value) : w.grownBy (w'.setCell ⟨g, i, none⟩ u) (some g) :=
  ⟨h.os, h.tape, h.output, by simpa [World.setCell] using h.size, fun k hk hne => (Below.heap_setCell w' ⟨g, i, none⟩ u k (fun e => hne (by rw [e]))).trans (h.block k hk hne)⟩
def bools (xs : List Bool) : List Value := xs.map Value.bool
/-- Block g holds the truth values xs. -/
def AB (w : World) (g : Nat) (xs : List Bool) : Prop := Blk w g 4 (bools xs).toArray
section
variable {w w' : World} {g : Nat} {bs : List Bool}
theorem AB.lt (h : AB w g bs) : g < w.heap.size := Blk.lt h
theorem AB.cell (h : AB w g bs) {i : Nat} (hi : i < bs.length) : w.cell? ⟨g, i, none⟩ = some (.bool (bs.getD i false)) := by
  rw [Blk.cell h i]
  simp [bools, List.getD_eq_getElem?_getD, hi]
theorem AB.frozen (h : AB w g bs) (i : Nat) : w.frozen? ⟨g, i, none⟩ = false := Blk.frozen h i
theorem AB.set (h : AB w g bs) (i : Nat) (v : Bool) : AB (w.setCell ⟨g, i, none⟩ (.bool v)) g (bs.set i v) := by
  have := Blk.set h i (.bool v)
  unfold AB
  have e : (bools bs).toArray.setIfInBounds i (.bool v) = (bools (bs.set i v)).toArray := by simp [bools, List.map_set]
  rwa [e] at this
theorem AB.below {B : Nat} (h : AB w g bs) (hb : Below B w w') (hg : g < B) : AB w' g bs := Blk.below h hb hg
theorem AB.alloc (h : AB w g bs) (o : Obj) : AB (w.alloc o) g bs := Blk.alloc h o
theorem AB.drewN (h : AB w g bs) (n : Nat) : AB (w.drewN n) g bs := h
end
theorem bool_info : (Tryd.prog.info? 4).map (fun i => (i.zero, i.size, i.bytes)) = some (some (.bool false), 1, 1) := by kernel_rfl
/-- make([]bool, n) -/
theorem wpList_makeB {ops : Array Oper} {rest : List Oper} {o : Oper} {a : Act} {Q : Exit → Act → World → Prop} {w : World} {L C : Int} {n : Nat}
    (hg : o.guard = none) (l c : Operand) (hop : o.op = Op.makeSlice 158 l c) (hl : a.eval l = .int .i64 L) (hc : a.eval c = .int .i64 C) (hL : L = (n : Int)) (hC : C = (n : Int)) (hn : n ≤ 1099511627776)
    (h : ∀ w', AB w' w.heap.size (List.replicate n false) → w.grownBy w' none → wpList Tryd.prog ops Q rest (a.put o.dst (.slice (some ⟨w.heap.size, 0, none⟩) n n)) w') :
    wpList Tryd.prog ops Q (o :: rest) a w := by
  obtain ⟨i0, hi0, hz0, hz1, hz2⟩ := info_parts bool_info
  refine wpList_make_full w hg l c 158 hop w.heap.size 4 i0 _ 1 Tryd.underlying158 hi0 hz0 hz1 _ _ L C n hl hc hL hC (by rw [hz2]; omega) (by unfold maxLen; omega) (Nat.le_refl _) ?_
  intro w' h1 h2
  refine h w' ?_ h2
  have := blk_of_own h1
  rw [show (Value.bool false).cells = #[.bool false] from rfl, Nat.mul_one, toList_madeCells_one] at this
  unfold AB
  have e : bools (List.replicate n false) = List.replicate n (.bool false) := List.map_replicate
  rw [e]; exact this
end Go.Proofs.YticekkjambkifaaDoor

namespace Go.Proofs.YticekkjambkifaaDoor
open Go.RowKit

theorem Tab.lt {w : World} (h : Tab w) : 0 < w.heap.size := World.block_lt_of_cell? w _ (h 0 (by decide))
theorem Tab.keep {w w' : World} (h : Tab w) (hb : Below w.heap.size w w') : Tab w' := h.below hb h.lt
theorem Tab.drewN {w : World} (h : Tab w) (n : Nat) : Tab (w.drewN n) := h
theorem Tab.alloc {w : World} (h : Tab w) (o : Obj) : Tab (w.alloc o) := h.keep ((Below.refl _ _).alloc (Nat.le_refl _) o)
theorem Tab.grown {w w' : World} {g : Nat} (h : Tab w) (hg : w.grownBy w' (some g)) (hne : 0 ≠ g) : Tab w' := fun j hj => (World.cell?_of_block (hg.block 0 h.lt (fun e => hne (by injection e)))).trans (h j hj)

/-- Naturals as numbers. -/
def nts (l : List Nat) : List Int := l.map fun i : Nat => (i : Int)
theorem nts_length (l : List Nat) : (nts l).length = l.length := List.length_map _
theorem nts_append (a b : List Nat) : nts (a ++ b) = nts a ++ nts b := List.map_append

set_option maxHeartbeats 1000000 in
theorem list_any (x : Nat) (hx : x < 18446744073709551616) (w : World) (hT : Tab w) :
    Calls Tryd.prog 82 #[.int .u64 x] w (RetI w (nts (CoBit.bl x))) := by
  have hlen := CoBit.bl_length x
  go_enter Tryd.func82, Tryd.ntmps82
  go_wp2
  go_loopw [0, 3] (fun s v wr => ∃ (m : Nat) (l : List Nat), s = .int .u64 m ∧ m < 18446744073709551616 ∧ Hid (CoBit.bl x = l ++ CoBit.bl m) ∧ l.length ≤ 64 ∧ OI wr w.heap.size v (nts l) ∧ Below w.heap.size w wr) (fun s _ _ => (intOf s).toNat)
  case atStart => exact ⟨x, [], rfl, hx, Lib.hid rfl, by simp, OI.nil_, Below.refl _ _⟩
  case round =>
    obtain ⟨m, l, rfl, hm, hl, hll, ho, hb⟩ := hrel
    have hs := hb.size
    have hTr := hT.keep hb
    by_cases h0 : 0 < m
    · have hz : ((m : Int) != 0) = true := by simp; omega
      have hst := CoBit.bl_step h0 hm
      have hl1 : CoBit.bl x = (l ++ [Lib.ctz 64 m]) ++ CoBit.bl (m &&& (m - 1)) := by rw [hl.out, hst]; simp
      have hl2 : (l ++ [Lib.ctz 64 m]).length ≤ 64 := by
        have := congrArg List.length hl1
        rw [List.length_append] at this
        omega
      have ho1 : nts (l ++ [Lib.ctz 64 m]) = nts l ++ [((Lib.ctz 64 m : Nat) : Int)] := nts_append _ _
      replace hl1 := Lib.hid hl1
      replace ho1 := Lib.hid ho1
      replace hl2 := Lib.hid hl2
      have hand := bits_and_u64_nat m (m - 1) hm (by omega)
      have hsub : IntKind.u64.wrap ((m : Int) - 1) = ((m - 1 : Nat) : Int) := by rw [show (m : Int) - 1 = ((m - 1 : Nat) : Int) by omega]; exact u64_in _ (by omega)
      have hlt := CoBit.and_pred_lt h0
      have hlt2 := CoBit.and_lt' (y := m - 1) hm
      have hnl := nts_length l
      replace hst := Lib.hid hst
      replace hnl := Lib.hid hnl
      go_wp2_with fail
      refine (tz_any m h0 hm _ hTr).mono ?_
      rintro e w1 ⟨rfl, rfl⟩
      generalize Lib.ctz 64 m = z at *
      generalize m &&& (m - 1) = m' at *
      go_wp2_with (at_builtin; refine wpList_push rfl _ _ rfl rfl rfl (by simp) ho (by rw [hnl.out]; omega) hs ?_; intro v' w' ho' hb' hg')
      have hb2 := hb.trans (hb'.mono (Nat.le_refl _))
      go_roundw
      case rel => exact ⟨m', l ++ [z], rfl, hlt2, hl1, hl2.out, by rw [ho1.out]; exact ho', hb2⟩
      case measure => simp [intOf]; omega
    · have hz : ((m : Int) != 0) = false := by simp; omega
      have hfin : RetI w (nts (CoBit.bl x)) (.returned u3) wr := by
        rw [hl.out, show m = 0 by omega, CoBit.bl_zero, List.append_nil]
        exact ho.ret hb (Nat.le_refl _)
      replace hfin := Lib.hid hfin
      clear ho hb
      go_wp2
      go_ret
      exact hfin.out

theorem putE_ok {N : Nat} {rows : List Nat} {u v : Nat} (h1 : u < v) (h2 : v < N) : CoBit.putE N rows ((u : Int), (v : Int)) = (rows.set u (rows.getD u 0 ||| 2 ^ v)).set v ((rows.set u (rows.getD u 0 ||| 2 ^ v)).getD v 0 ||| 2 ^ u) := by
  unfold CoBit.putE
  rw [if_pos ⟨by omega, by simp; omega, by simp; omega⟩]
  simp
theorem putE_no {N : Nat} {rows : List Nat} {u v : Int} (h : ¬ (0 ≤ u ∧ u < v ∧ v < N)) : CoBit.putE N rows (u, v) = rows := by
  unfold CoBit.putE
  exact if_neg h
theorem rows_lt {N : Nat} (es : List (Int × Int)) (hN : N ≤ 64) : ∀ x ∈ CoBit.rowsL N es, x < 18446744073709551616 := by
  have h : ∀ (es : List (Int × Int)) (rows : List Nat), (∀ x ∈ rows, x < 18446744073709551616) → ∀ x ∈ es.foldl (CoBit.putE N) rows, x < 18446744073709551616 := by
    intro es
    induction es with
    | nil => intro rows h; exact h
    | cons e es ih =>
      intro rows h
      rw [List.foldl_cons]
      refine ih _ ?_
      unfold CoBit.putE
      split
      · rename_i hc
        have hset : ∀ (rows : List Nat) (i j : Nat), (∀ x ∈ rows, x < 18446744073709551616) → j < 64 → ∀ x ∈ rows.set i (rows.getD i 0 ||| 2 ^ j), x < 18446744073709551616 := by
          intro rows i j hr hj x hx
          rcases List.mem_or_eq_of_mem_set hx with hx | rfl
          · exact hr x hx
          · refine CoBit.or_lt ?_ (two_pow_lt hj)
            rw [List.getD_eq_getElem?_getD]
            cases hg : rows[i]? with
            | none => simp
            | some y => simpa using hr y (List.mem_of_getElem? hg)
        exact hset _ _ _ (hset _ _ _ h (by omega)) (by omega)
      · exact h
  refine h es _ ?_
  intro x hx
  rw [List.mem_replicate] at hx
  omega
theorem getD_lt {rows : List Nat} (h : ∀ x ∈ rows, x < 18446744073709551616) (i : Nat) : rows.getD i 0 < 18446744073709551616 := by
  rw [List.getD_eq_getElem?_getD]
  cases hg : rows[i]? with
  | none => simp
  | some y => simpa using h y (List.mem_of_getElem? hg)

end Go.Proofs.YticekkjambkifaaDoor
