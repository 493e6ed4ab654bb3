/- The reference's graphs (cohesionref03): neighbours. -/
import Derived.Test.YtknlmgcbdcepnaaDoorGraA
set_option linter.unusedVariables false
namespace Go.Proofs.YtknlmgcbdcepnaaDoor
open Go.RowKit

theorem takeE {es : List (Int × Int)} {k : Nat} {e : Int × Int} (h : es[k]? = some e) : es.take (k + 1) = es.take k ++ [e] := by
  obtain ⟨hk, rfl⟩ := List.getElem?_eq_some_iff.1 h
  exact List.take_succ_eq_append_getElem hk
/-- The other ends of the edges at x. -/
def nbl (es : List (Int × Int)) (x : Int) : List Int := es.flatMap fun e => (if e.1 = x then [e.2] else []) ++ (if e.2 = x then [e.1] else [])
theorem nbl_take {es : List (Int × Int)} {k : Nat} {u v x : Int} (h : es[k]? = some (u, v)) : nbl (es.take (k + 1)) x = nbl (es.take k) x ++ (if u = x then [v] else []) ++ (if v = x then [u] else []) := by
  unfold nbl; rw [takeE h, List.flatMap_append]; simp
theorem nbl_length (es : List (Int × Int)) (x : Int) : (nbl es x).length ≤ 2 * es.length := by
  unfold nbl
  induction es with
  | nil => simp
  | cons e es ih =>
    rw [List.flatMap_cons, List.length_append, List.length_append, List.length_cons]
    have : (if e.1 = x then [e.2] else ([] : List Int)).length ≤ 1 := by split <;> simp
    have : (if e.2 = x then [e.1] else ([] : List Int)).length ≤ 1 := by split <;> simp
    omega
theorem five_else {c : Prop} [Decidable c] {a : Int} (h : (if c then 5 else a) = 0) : a = 0 := by
  split at h
  · omega
  · exact h
theorem chkE_lt {n : Int} {es : List (Int × Int)} {p : Option (Int × Int)} (h : chkE n p es = 0) : ∀ e ∈ es, 0 ≤ e.1 ∧ e.1 < e.2 ∧ e.2 < n := by
  induction es generalizing p with
  | nil => simp
  | cons e es ih =>
    simp only [chkE] at h
    by_cases h1 : e.1 < 0 ∨ e.2 ≤ e.1 ∨ n ≤ e.2
    · rw [if_pos h1] at h; cases h
    · rw [if_neg h1] at h
      have h2 : chkE n (some e) es = 0 := by
        exact five_else h
      intro x hx
      rcases List.mem_cons.1 hx with rfl | hx
      · omega
      · exact ih h2 x hx
theorem chkG_zero {n : Int} {es : List (Int × Int)} (h : chkG n es = 0) : 0 ≤ n ∧ n ≤ 64 ∧ chkE n none es = 0 := by
  unfold chkG at h
  split at h
  · cases h
  · exact ⟨by omega, by omega, h⟩
/-- The neighbours of a node. -/
def nbG (n : Int) (es : List (Int × Int)) (x : Int) : List Int := if chkG n es = 0 then ofL (nbl es x) else []

set_option maxRecDepth 100000 in
set_option maxHeartbeats 2000000 in
theorem neigh_any (A : Option Addr) (m c : Nat) (n : Int) (es : List (Int × Int)) (x : Int) (w : World) (h : RE w A m es) (hm : m ≤ 274877906944) :
    Calls Tryd.prog 52 #[.agg #[.int .i64 n, .slice A m c], .int .i64 x] w (RetI w (nbG n es x)) := by
  have ck := fun w h => rcheck_any A m c n es w h (by omega)
  by_cases hz : chkG n es = 0
  · have hdef : nbG n es x = ofL (nbl es x) := if_pos hz
    rw [hz] at ck
    have hlt := Lib.hid (chkE_lt (chkG_zero hz).2.2)
    clear hz
    replace hdef := Lib.hid hdef
    replace ck := Lib.hid ck
    have hml := Lib.hid h.len
    go_enter Tryd.func52, Tryd.ntmps52
    go_wp2_with fail
    refine (ck.out _ (h.alloc _)).mono ?_
    rintro e w1 ⟨rfl, hb1⟩
    simp only [World.size_alloc] at hb1
    have hG : Blk w1 w.heap.size 24 #[.int .i64 n, .slice A m c] := Blk.below (Blk.new _ _ _) hb1 (by simp)
    have hb0 : Below w.heap.size w w1 := ((Below.refl _ _).alloc (Nat.le_refl _) _).trans (hb1.mono (by simp))
    have hg0 := Blk.cell hG 0
    have hg1 := Blk.cell hG 1
    simp at hg0 hg1
    have hs0 := hb1.size
    simp at hs0
    go_wp2
    clear hg0 hg1 hb1
    have h1 := RE.below h hb0 (Nat.le_refl _)
    go_loopw [5, 14] (fun v i wr => ∃ k : Nat, k ≤ m ∧ i = .int .i64 k ∧ OI wr w1.heap.size v (nbl (es.take k) x) ∧ Below w1.heap.size w1 wr) (fun _ i _ => m - (intOf i).toNat)
    case atStart => exact ⟨0, Nat.zero_le _, rfl, OI.nil_, Below.refl _ _⟩
    case round =>
      obtain ⟨k, hk, rfl, ho, hb⟩ := hrel
      have hlen : (nbl (es.take k) x).length ≤ 2 * k := Nat.le_trans (nbl_length _ _) (by rw [List.length_take]; omega)
      have hs := hb.size
      by_cases hlt' : k < m
      · obtain ⟨ad, u, v, rfl, hbl, hy, hc1, hc2⟩ := (RE.below h1 hb (Nat.le_refl _)).get hlt'
        have huv : u < v := (hlt.out _ (List.mem_of_getElem? hy.out)).2.1
        have hst := nbl_take (x := x) hy.out
        have hne := (ho.alloc (.cells #[.int .i64 u, .int .i64 v] 59)).block_lt
        have hnn := ho.ne_new
        by_cases e1 : u = x
        · have e1' : (u == x) = true := by simpa using e1
          have e2' : (v == x) = false := by simp; omega
          rw [if_pos e1, if_neg (by omega), List.append_nil] at hst
          replace hst := Lib.hid hst
          clear e1
          generalize nbl (es.take k) x = ys at *
          go_wp2_with (at_builtin; refine wpList_push rfl _ _ rfl rfl rfl (by simp) (ho.alloc _) (by omega) (by simp; omega) ?_; intro v' w' ho' hb' hg'; have hN := Blk.grown (Blk.new wr 59 #[.int .i64 u, .int .i64 v]) hg' hnn; have hn1 := Blk.cell hN 1; simp at hn1)
          have hb2 := (hb.alloc hs _).trans hb'
          go_roundw
          case rel => exact ⟨k + 1, by omega, by go_num, by rw [hst.out]; exact ho', hb2⟩
          case measure => simp [intOf]; omega
        · have e1' : (u == x) = false := by simpa using e1
          by_cases e2 : v = x
          · have e2' : (v == x) = true := by simpa using e2
            rw [if_neg e1, if_pos e2, List.append_nil] at hst
            replace hst := Lib.hid hst
            clear e1 e2
            generalize nbl (es.take k) x = ys at *
            go_wp2_with (at_builtin; refine wpList_push rfl _ _ rfl rfl rfl (by simp) (ho.alloc _) (by omega) (by simp; omega) ?_; intro v' w' ho' hb' hg')
            have hb2 := (hb.alloc hs _).trans hb'
            go_roundw
            case rel => exact ⟨k + 1, by omega, by go_num, by rw [hst.out]; exact ho', hb2⟩
            case measure => simp [intOf]; omega
          · have e2' : (v == x) = false := by simpa using e2
            rw [if_neg e1, if_neg e2, List.append_nil, List.append_nil] at hst
            replace hst := Lib.hid hst
            clear e1 e2
            generalize nbl (es.take k) x = ys at *
            go_wp2
            go_roundw
            case rel => exact ⟨k + 1, by omega, by go_num, by rw [hst.out]; exact ho.alloc _, hb.alloc hs _⟩
            case measure => simp [intOf]; omega
      · obtain ⟨A', n', c', rfl, hn', hc', _, hr⟩ := ho.form
        replace hlen : n' ≤ 2 * k := by omega
        clear hn'
        rw [List.take_of_length_le (by rw [hml.out]; omega)] at hr
        have hb2 := hb0.trans (hb.mono hb0.size)
        clear ho
        go_wp2_with fail
        refine (of_any A' n' c' _ _ hr (by omega)).mono ?_
        rintro e w2 ⟨A2, n2, c2, rfl, h3, h4, h5, h6⟩
        have hfin : RetI w (nbG n es x) (.returned (.slice A2 n2 c2)) w2 := by
          rw [hdef.out]; exact RetI.mk_ h3 h4 (hb2.trans (h5.mono hb2.size)) (h6.mono hb2.size)
        replace hfin := Lib.hid hfin
        clear hr hb2 h4 h5
        go_wp2
        go_ret
        exact hfin.out
  · have hdef : nbG n es x = [] := if_neg hz
    have hz' : (chkG n es != 0) = true := by simpa using hz
    clear hz
    generalize chkG n es = z at *
    replace hdef := Lib.hid hdef
    replace ck := Lib.hid ck
    go_enter Tryd.func52, Tryd.ntmps52
    go_wp2_with fail
    refine (ck.out _ (h.alloc _)).mono ?_
    rintro e w1 ⟨rfl, hb1⟩
    simp only [World.size_alloc] at hb1
    have hb0 : Below w.heap.size w w1 := ((Below.refl _ _).alloc (Nat.le_refl _) _).trans (hb1.mono (by simp))
    clear hb1
    go_wp2
    go_ret
    exact (by rw [hdef.out]; exact RetI.mk_ (Nat.le_refl _) RI.none_ hb0 Fr.none_)
end Go.Proofs.YtknlmgcbdcepnaaDoor
