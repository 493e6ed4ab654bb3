/- The reference's cores (cohesionref10), fifth part: Later and Check. -/
import Derived.Test.YtciehcageghggaaDoorRCoD
set_option linter.unusedVariables false
namespace Go.Proofs.YtciehcageghggaaDoor
open Go.RowKit

/-- The error of Later. -/
def errL (n : Int) (es : List (Int × Int)) (o : List Int) : Int := if chkG n es = 0 then (if OrdI o n then 0 else 4) else chkG n es
/-- What Later returns. -/
def LaterL (n : Int) (es : List (Int × Int)) (o ls : List Int) : Prop := (errL n es o = 0 → IsLater (nbG n es) n.toNat o ls) ∧ (errL n es o ≠ 0 → ls = [])
theorem chkG_err (n : Int) (es : List (Int × Int)) : errL n es [] = errL n es [] := rfl
theorem later_unique {nb : Int → List Int} {n : Nat} {o a b : List Int} (ho : Per o n) (ha : IsLater nb n o a) (hb : IsLater nb n o b) : a = b := by
  refine List.ext_getElem? fun v => ?_
  by_cases hv : v < n
  · have hin : (v : Int) ∈ o := by
      have hp : o.Perm (rng n) := by
        refine (List.perm_ext_iff_of_nodup ho.2.1 ((rng_sorted n).imp fun h => by omega)).2 fun x => ⟨fun hx => mem_rng.2 (ho.2.2 x hx), fun hx => ?_⟩
        by_cases hxo : x ∈ o
        · exact hxo
        · have hx' : x ∈ rst n o := mem_rst.2 ⟨mem_rng.1 hx, hxo⟩
          have h1 : o.Nodup ∧ ∀ y ∈ x :: o, 0 ≤ y ∧ y < n := ⟨ho.2.1, fun y hy => by
            rcases List.mem_cons.1 hy with rfl | hy
            · exact mem_rng.1 hx
            · exact ho.2.2 y hy⟩
          have h2 := nodup_length (n := n) (o := x :: o) (List.nodup_cons.2 ⟨hxo, ho.2.1⟩) h1.2
          have := ho.1
          simp at h2
          omega
      exact hp.mem_iff.2 (mem_rng.2 ⟨by omega, by omega⟩)
    obtain ⟨i, hi, he⟩ := List.getElem_of_mem hin
    have h1 := ha.2 i (v : Int) (by rw [List.getElem?_eq_getElem hi, he])
    have h2 := hb.2 i (v : Int) (by rw [List.getElem?_eq_getElem hi, he])
    rw [Int.toNat_natCast] at h1 h2
    have e1 : a[v]? = some (a.getD v 0) := by rw [List.getD_eq_getElem?_getD, List.getElem?_eq_getElem (by rw [ha.1]; exact hv)]; rfl
    have e2 : b[v]? = some (b.getD v 0) := by rw [List.getD_eq_getElem?_getD, List.getElem?_eq_getElem (by rw [hb.1]; exact hv)]; rfl
    rw [e1, e2, h1, h2]
  · rw [List.getElem?_eq_none (by rw [ha.1]; omega), List.getElem?_eq_none (by rw [hb.1]; omega)]
theorem errL_zero {n : Int} {es : List (Int × Int)} {o : List Int} (h : errL n es o = 0) : chkG n es = 0 ∧ OrdI o n := by
  unfold errL at h
  split at h
  · split at h
    · exact ⟨by assumption, by assumption⟩
    · omega
  · exact absurd h (by assumption)
theorem laterL_unique {n : Int} {es : List (Int × Int)} {o a b : List Int} (ha : LaterL n es o a) (hb : LaterL n es o b) : a = b := by
  by_cases hz : errL n es o = 0
  · obtain ⟨h1, h2⟩ := errL_zero hz
    obtain ⟨z0, z1, _⟩ := chkG_zero h1
    obtain ⟨n, rfl⟩ := Int.eq_ofNat_of_zero_le z0
    exact later_unique (ordI_per.1 h2) (ha.1 hz) (hb.1 hz)
  · rw [ha.2 hz, hb.2 hz]

set_option maxRecDepth 100000 in
set_option maxHeartbeats 2000000 in
theorem rLater_any (A : Option Addr) (m c : Nat) (n : Int) (es : List (Int × Int)) (A2 : Option Addr) (m2 c2 : Nat) (o : List Int) (w : World) (h : RE w A m es) (hm : m ≤ 68719476736) (h2 : RI w A2 m2 o) (hmc : m2 ≤ c2) (hm2 : m2 ≤ 1099511627776) :
    Calls Tryd.prog 19 #[.agg #[.int .i64 n, .slice A m c], .slice A2 m2 c2] w fun e w' => ∃ ls, RetL w ls (errL n es o) e w' ∧ LaterL n es o ls := by
  have ck := fun w h => rcheck_any A m c n es w h (by omega)
  by_cases hz : chkG n es = 0
  · obtain ⟨z0, z1, _⟩ := chkG_zero hz
    obtain ⟨n, rfl⟩ := Int.eq_ofNat_of_zero_le z0
    by_cases ho : OrdI o n
    · have herr : errL n es o = 0 := by unfold errL; rw [if_pos hz, if_pos ho]
      have hdef : ∀ ls, IsLater (nbG n es) n o ls → LaterL n es o ls := fun ls h1 => ⟨fun _ => h1, fun h => absurd herr h⟩
      have hper := Lib.hid (ordI_per.1 ho)
      have hb : decide (OrdI o n) = true := decide_eq_true ho
      rw [herr]
      rw [hz] at ck
      clear hz herr ho
      replace hdef := Lib.hid hdef
      replace ck := Lib.hid ck
      replace hb := Lib.hid hb
      go_enter Tryd.func19, Tryd.ntmps19
      go_wp2_with fail
      refine (ck.out _ (h.alloc _)).mono ?_
      rintro e w1 ⟨rfl, hb1⟩
      simp only [World.size_alloc] at hb1
      have hG : Blk w1 w.heap.size 28 #[.int .i64 n, .slice A m c] := Blk.below (Blk.new _ _ _) hb1 (by simp)
      have hb0 : Below w.heap.size w w1 := ((Below.refl _ _).alloc (Nat.le_refl _) _).trans (hb1.mono (by simp))
      have g0 := Blk.cell hG 0
      have g1 := Blk.cell hG 1
      simp at g0 g1
      have h3 := RI.below h2 hb0 (Nat.le_refl _)
      have hs0 := hb0.size
      have hGl := hG.lt
      clear hb1
      go_wp2_with fail
      refine (rAll_any A2 m2 c2 o n _ h3 hm2).mono ?_
      rintro e w2 ⟨rfl, hb2⟩
      rw [hb.out]
      replace hG := Blk.below hG hb2 hGl
      replace hb0 := hb0.trans (hb2.mono hs0)
      clear hb2 g0 g1 h3
      have g0 := Blk.cell hG 0
      have g1 := Blk.cell hG 1
      simp at g0 g1
      have h3 := RI.below h2 hb0 (Nat.le_refl _)
      have h4 := RE.below h hb0 (Nat.le_refl _)
      have hs2 := hb0.size
      go_wp2_with fail
      refine (rlater_any A m c n es A2 m2 c2 o _ h4 hm (by omega) h3 hmc hper.out).mono ?_
      rintro e w3 ⟨ls, ⟨A5, n5, c5, rfl, hn5, hr5, hb5, hf5⟩, hls⟩
      have hfin : ∃ ls, RetL w ls 0 (.returned (.tuple #[.slice A5 n5 c5, .int .i64 0])) w3 ∧ LaterL n es o ls := ⟨ls, ⟨A5, n5, c5, rfl, hn5, hr5, hb0.trans (hb5.mono hs2), hf5.mono hs2⟩, hdef.out ls hls⟩
      replace hfin := Lib.hid hfin
      clear hls hb5 hr5 hf5
      go_wp2_with fail
      go_ret2
      exact hfin.out
    · have herr : errL n es o = 4 := by unfold errL; rw [if_pos hz, if_neg ho]
      have hdef : LaterL n es o [] := ⟨fun h => by rw [herr] at h; omega, fun _ => rfl⟩
      have hb : decide (OrdI o n) = false := decide_eq_false ho
      rw [herr]
      rw [hz] at ck
      clear hz herr ho
      replace hdef := Lib.hid hdef
      replace ck := Lib.hid ck
      replace hb := Lib.hid hb
      go_enter Tryd.func19, Tryd.ntmps19
      go_wp2_with fail
      refine (ck.out _ (h.alloc _)).mono ?_
      rintro e w1 ⟨rfl, hb1⟩
      simp only [World.size_alloc] at hb1
      have hG : Blk w1 w.heap.size 28 #[.int .i64 n, .slice A m c] := Blk.below (Blk.new _ _ _) hb1 (by simp)
      have hb0 : Below w.heap.size w w1 := ((Below.refl _ _).alloc (Nat.le_refl _) _).trans (hb1.mono (by simp))
      have g0 := Blk.cell hG 0
      have g1 := Blk.cell hG 1
      simp at g0 g1
      have h3 := RI.below h2 hb0 (Nat.le_refl _)
      have hs0 := hb0.size
      clear hb1
      go_wp2_with fail
      refine (rAll_any A2 m2 c2 o n _ h3 hm2).mono ?_
      rintro e w2 ⟨rfl, hb2⟩
      rw [hb.out]
      replace hb0 := hb0.trans (hb2.mono hs0)
      clear hb2 g0 g1 h3
      go_wp2_with fail
      go_ret2
      exact ⟨[], ⟨none, 0, 0, rfl, Nat.le_refl _, RI.none_, hb0, Fr.none_⟩, hdef.out⟩
  · have herr : errL n es o = chkG n es := if_neg hz
    have hdef : LaterL n es o [] := ⟨fun h => absurd (herr.symm.trans h) hz, fun _ => rfl⟩
    have hz' : (chkG n es != 0) = true := by simpa using hz
    rw [herr]
    clear hz herr
    generalize chkG n es = z at *
    replace hdef := Lib.hid hdef
    replace ck := Lib.hid ck
    go_enter Tryd.func19, Tryd.ntmps19
    go_wp2_with fail
    refine (ck.out _ (h.alloc _)).mono ?_
    rintro e w1 ⟨rfl, hb1⟩
    simp only [World.size_alloc] at hb1
    have hb0 : Below w.heap.size w w1 := ((Below.refl _ _).alloc (Nat.le_refl _) _).trans (hb1.mono (by simp))
    clear hb1
    go_wp2
    go_ret2
    exact ⟨[], ⟨none, 0, 0, rfl, Nat.le_refl _, RI.none_, hb0, Fr.none_⟩, hdef.out⟩

/-- How many neighbours have no lesser number. -/
def hi (nb : Int → List Int) (ns : List Int) (v : Int) : Nat := ((nb v).filter fun w => decide (ns.getD v.toNat 0 ≤ ns.getD w.toNat 0)).length
/-- The numbers are right at place i of the order. -/
def okAt (nb : Int → List Int) (ns o : List Int) (i : Nat) (v : Int) : Prop :=
  (∀ u, 0 < i → o[i - 1]? = some u → ns.getD u.toNat 0 ≤ ns.getD v.toNat 0) ∧ (dg nb (o.drop (i + 1)) v : Int) ≤ ns.getD v.toNat 0 ∧ ns.getD v.toNat 0 ≤ (hi nb ns v : Int)
def okTo (nb : Int → List Int) (ns o : List Int) (k : Nat) : Prop := ∀ i v, i < k → o[i]? = some v → okAt nb ns o i v
/-- What the check of numbers and an order answers. -/
def IsChk (n : Int) (es : List (Int × Int)) (ns o : List Int) (x : Int) : Prop :=
  (chkG n es ≠ 0 → x = chkG n es) ∧ (chkG n es = 0 → ((ns.length : Int) ≠ n ∨ ¬ OrdI o n) → x = 4) ∧ (chkG n es = 0 → (ns.length : Int) = n → OrdI o n → (x = 0 ∧ okTo (nbG n es) ns o o.length) ∨ (x = 12 ∧ ¬ okTo (nbG n es) ns o o.length))
theorem isChk_unique {n : Int} {es : List (Int × Int)} {ns o : List Int} {x y : Int} (hx : IsChk n es ns o x) (hy : IsChk n es ns o y) : x = y := by
  by_cases hz : chkG n es = 0
  · by_cases h1 : (ns.length : Int) ≠ n ∨ ¬ OrdI o n
    · rw [hx.2.1 hz h1, hy.2.1 hz h1]
    · have h2 : (ns.length : Int) = n := by
        by_cases h : (ns.length : Int) = n
        · exact h
        · exact absurd (.inl h) h1
      have h3 : OrdI o n := by
        by_cases h : OrdI o n
        · exact h
        · exact absurd (.inr h) h1
      rcases hx.2.2 hz h2 h3 with ⟨a, b⟩ | ⟨a, b⟩ <;> rcases hy.2.2 hz h2 h3 with ⟨c, d⟩ | ⟨c, d⟩
      · rw [a, c]
      · exact absurd b d
      · exact absurd d b
      · rw [a, c]
  · rw [hx.1 hz, hy.1 hz]
end Go.Proofs.YtciehcageghggaaDoor
