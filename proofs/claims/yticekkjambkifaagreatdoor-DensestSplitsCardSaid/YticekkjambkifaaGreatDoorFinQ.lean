/- An argument that is a dense set (a set, a fraction, a split): opened. -/
import Derived.Test.YticekkjambkifaaGreatDoorFin
import Derived.Test.YticekkjambkifaaGreatDoorZaa
import Derived.Deep.Strs
set_option linter.unusedVariables false
namespace Go.Proofs.YticekkjambkifaaGreatDoor
open Go.ChangeShapes Go.WideShapes Go.ChangeAt Go.RowKit

section
variable {H : Type} {enc : TypeId × Value → H} {P : Program}
/-- A slice of integers, out of its cell. -/
theorem cell_ints {W : World} {tsl ti : TypeId} {x : DataW H × List MemPlace} {v1 : Value} {fuel : Nat}
    (hsl : P.underlying tsl = some (.slice ti)) (hti : P.underlying ti = some (.int .i64)) (ci : P.cellsOf ti = 1) (h : DataW.trod enc P W 0 (fun _ => true) true fuel tsl [v1] = some x) :
    ∃ (A : Option Addr) (n c : Nat) (xs : List Int), v1 = .slice A n c ∧ n ≤ c ∧ RI W A n xs ∧ (x.1 = .nil ∧ n = 0 ∨ ∃ el sp, x.1 = .slice el sp ∧ el.length = n) := by
  rcases open_ints hsl hti ci h with ⟨h1, h2⟩ | ⟨a, n, c, zs, h1, _, hle, _, hlz, hx, hcell, _⟩
  · obtain rfl : v1 = .slice none 0 0 := by injection h1
    exact ⟨none, 0, 0, [], rfl, Nat.le_refl _, RI.none_, .inl ⟨by rw [h2], rfl⟩⟩
  · obtain rfl : v1 = .slice (some a) n c := by injection h1
    have hlz' : zs.length = c := by simpa using hlz
    refine ⟨some a, n, c, zs.take n, rfl, hle, ⟨by rw [ints_length, List.length_take]; omega, fun hn => ⟨a, rfl, ?_, ?_⟩⟩, .inr ⟨_, _, by rw [hx], by simp [lits]; omega⟩⟩
    · have := Lib.lt_of_cell (hcell 0 (by omega))
      rwa [block_of_add] at this
    · intro j u hu
      rw [ints, List.getElem?_map] at hu
      have hj : j < (zs.take n).length := by
        rcases Nat.lt_or_ge j (zs.take n).length with h | h
        · exact h
        · rw [List.getElem?_eq_none h] at hu; cases hu
      rw [List.getElem?_eq_getElem hj] at hu
      simp only [Option.map_some, Option.some.injEq] at hu
      rw [List.length_take] at hj
      rw [hcell j (by omega), ← hu, List.getElem_take, List.getD_eq_getElem?_getD, List.getElem?_eq_getElem (by omega)]
      rfl

/-- An argument that is a dense set. -/
theorem arg_dense {r : Reach} {b0 : Nat} {tg tf tp tsl ti : TypeId} {W : World} {v : Value} {d : DataW H} {ps : List MemPlace} {ts : List TypeId} {ds : List (DataW H)} {j : Nat} {f0 f1 f2 g0 g1 k0 k1 : Field}
    (htg : P.underlying tg = some (.struct #[f0, f1, f2])) (htf : P.underlying tf = some (.struct #[g0, g1])) (htp : P.underlying tp = some (.struct #[k0, k1])) (hsl : P.underlying tsl = some (.slice ti)) (hti : P.underlying ti = some (.int .i64))
    (e0 : f0.type = tsl) (e1 : f1.type = tf) (e2 : f2.type = tp) (o0 : f0.offset = 0) (o1 : f1.offset = 1) (o2 : f2.offset = 3)
    (a0 : g0.type = ti) (a1 : g1.type = ti) (p0 : g0.offset = 0) (p1 : g1.offset = 1) (b0' : k0.type = ti) (b1' : k1.type = tsl) (q0 : k0.offset = 0) (q1 : k1.offset = 1)
    (c5 : P.cellsOf tg = 5) (cf : P.cellsOf tf = 2) (cp : P.cellsOf tp = 2) (ci : P.cellsOf ti = 1) (cs : P.cellsOf tsl = 1) (be : P.bytesOf ti = 8)
    (hs : (DataW.weightsEach P ts ds).all (· ≤ reachBytes) = true) (htj : ts[j]? = some tg) (hdj : ds[j]? = some d) (hval : Value.okWide P W r b0 tg v)
    (h : DataW.Trod enc P W 0 (fun _ => true) true tg v d ps) : ∃ (AS : Option Addr) (n c : Nat) (xs : List Int) (N D e : Int) (AP : Option Addr) (m k : Nat) (ys : List Int),
      v = .agg #[.slice AS n c, .int .i64 N, .int .i64 D, .int .i64 e, .slice AP m k] ∧ n ≤ c ∧ RI W AS n xs ∧ n ≤ 17592186044416 ∧ m ≤ k ∧ RI W AP m ys ∧ m ≤ 17592186044416 := by
  unfold Value.okWide at hval
  rw [htg] at hval
  obtain ⟨cells, rfl, hsz, _⟩ := hval
  obtain ⟨fuel, hf⟩ := h
  obtain ⟨y0, y1, y2, n, hx, hl, t0, t1, t2⟩ := Deep.trod_struct3 htg hf
  have hl5 : cells.toList.length = 5 := by simpa [c5, Value.cells] using hl
  obtain ⟨v0, v1, v2, v3, v4, hcs⟩ : ∃ v0 v1 v2 v3 v4, cells = #[v0, v1, v2, v3, v4] := by
    match cells, hl5 with
    | ⟨[v0, v1, v2, v3, v4]⟩, _ => exact ⟨v0, v1, v2, v3, v4, rfl⟩
  subst hcs
  rw [e0, o0] at t0
  rw [e1, o1] at t1
  rw [e2, o2] at t2
  simp only [Value.cells, cs, cf, cp, List.drop_zero, List.take_succ_cons, List.take_zero, List.drop_succ_cons] at t0 t1 t2
  obtain ⟨A, n0, c0, xs, rfl, hnc, hr, hnil⟩ := cell_ints hsl hti ci t0
  obtain ⟨z0, z1, n', hx1, hl1, u0, u1⟩ := trod_struct2 htf t1
  rw [a0, p0] at u0
  rw [a1, p1] at u1
  simp only [ci, List.drop_zero, List.take_succ_cons, List.take_zero, List.drop_succ_cons] at u0 u1
  obtain ⟨N, h1, _⟩ := DataW.trod_int hti u0
  obtain ⟨D, h2, _⟩ := DataW.trod_int hti u1
  obtain rfl : v1 = .int .i64 N := by injection h1
  obtain rfl : v2 = .int .i64 D := by injection h2
  obtain ⟨s0, s1, n2, hx2, hl2, w0, w1⟩ := trod_struct2 htp t2
  rw [b0', q0] at w0
  rw [b1', q1] at w1
  simp only [ci, cs, List.drop_zero, List.take_succ_cons, List.take_zero, List.drop_succ_cons] at w0 w1
  obtain ⟨e, h3, _⟩ := DataW.trod_int hti w0
  obtain rfl : v3 = .int .i64 e := by injection h3
  obtain ⟨AP, m0, k0', ys, rfl, hmk, hrp, hnil2⟩ := cell_ints hsl hti ci w1
  have hr' : reachBytes < 140737488355328 := reachBytes_lt
  have hd : d = .agg [y0.1, y1.1, y2.1] := (Prod.mk.inj hx).1
  have hd2 : y2.1 = .agg [s0.1, s1.1] := by rw [hx2]
  refine ⟨A, n0, c0, xs, N, D, e, AP, m0, k0', ys, rfl, hnc, hr, ?_, hmk, hrp, ?_⟩
  · rcases hnil with ⟨_, rfl⟩ | ⟨el, sp, he, hel⟩
    · omega
    · have hmem : (el.length + sp.length) * P.bytesOf ti ∈ d.weights P tg := by
        rw [hd, DataW.weights, htg]
        exact DataW.weights_mem_each (j := 0) (t := f0.type) (d := y0.1) rfl rfl _ (by rw [he, e0]; simp [DataW.weights, hsl])
      have := List.all_eq_true.1 hs _ (DataW.weights_mem_each htj hdj _ hmem)
      rw [be] at this
      simp at this
      omega
  · rcases hnil2 with ⟨_, rfl⟩ | ⟨el, sp, he, hel⟩
    · omega
    · have hmem2 : (el.length + sp.length) * P.bytesOf ti ∈ y2.1.weights P tp := by
        rw [hd2, DataW.weights, htp]
        exact DataW.weights_mem_each (j := 1) (t := k1.type) (d := s1.1) rfl rfl _ (by rw [he, b1']; simp [DataW.weights, hsl])
      have hmem : (el.length + sp.length) * P.bytesOf ti ∈ d.weights P tg := by
        rw [hd, DataW.weights, htg]
        exact DataW.weights_mem_each (j := 2) (t := f2.type) (d := y2.1) rfl rfl _ (by rw [e2]; exact hmem2)
      have := List.all_eq_true.1 hs _ (DataW.weights_mem_each htj hdj _ hmem)
      rw [be] at this
      simp at this
      omega
end
end Go.Proofs.YticekkjambkifaaGreatDoor
