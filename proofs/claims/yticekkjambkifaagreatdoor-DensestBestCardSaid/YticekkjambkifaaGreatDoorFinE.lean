/- An argument that is a graph: opened. -/
import Derived.Test.YticekkjambkifaaGreatDoorFin
import Derived.Test.YticekkjambkifaaGreatDoorZaa
set_option linter.unusedVariables false
namespace Go.Proofs.YticekkjambkifaaGreatDoor
open Go.ChangeShapes Go.WideShapes Go.ChangeAt Go.RowKit

theorem edgs_half {es : List (Int × Int)} {j : Nat} {u : Value} (h : (edgs es)[j]? = some u) : ∃ e, es[j / 2]? = some e ∧ u = (if j % 2 = 0 then .int .i64 e.1 else .int .i64 e.2) := by
  have hl := edgs_length es
  have hj : j < (edgs es).length := by
    rcases Nat.lt_or_ge j (edgs es).length with h' | h'
    · exact h'
    · rw [List.getElem?_eq_none h'] at h; cases h
  have hk : es[j / 2]? = some (es[j / 2]'(by omega)) := List.getElem?_eq_getElem _
  obtain ⟨h1, h2⟩ := edgs_at hk
  refine ⟨_, hk, ?_⟩
  rcases Nat.mod_two_eq_zero_or_one j with h0 | h0
  · rw [if_pos h0]
    rw [show j / 2 * 2 = j by omega, h] at h1
    exact Option.some.inj h1
  · rw [if_neg (by omega)]
    rw [show j / 2 * 2 + 1 = j by omega, h] at h2
    exact Option.some.inj h2

section
variable {H : Type} {enc : TypeId × Value → H} {P : Program}
/-- A slice of edges, out of its cell. -/
theorem cell_edges {W : World} {tsl te ti : TypeId} {g0 g1 : Field} {x : DataW H × List MemPlace} {v1 : Value} {fuel : Nat}
    (hsl : P.underlying tsl = some (.slice te)) (hte : P.underlying te = some (.struct #[g0, g1])) (hti : P.underlying ti = some (.int .i64)) (a0 : g0.type = ti) (a1 : g1.type = ti) (p0 : g0.offset = 0) (p1 : g1.offset = 1)
    (ce : P.cellsOf te = 2) (ci : P.cellsOf ti = 1) (h : DataW.trod enc P W 0 (fun _ => true) true fuel tsl [v1] = some x) :
    ∃ (A : Option Addr) (m c : Nat) (es : List (Int × Int)), v1 = .slice A m c ∧ m ≤ c ∧ RE W A m es ∧ (x.1 = .nil ∧ m = 0 ∨ ∃ el sp, x.1 = .slice el sp ∧ el.length = m) := by
  subst a0
  rcases Deep.open_slice_pairs hsl hte ce p0 p1 ci (by rw [a1]; exact ci) h with ⟨h1, h2⟩ | ⟨a, len, cap, m, n, V0, V1, D0, D1, P0, P1, h1, _, hle, _, hm, hx, hcell⟩
  · obtain rfl : v1 = .slice none 0 0 := by injection h1
    exact ⟨none, 0, 0, [], rfl, Nat.le_refl _, RE.none_, .inl ⟨by rw [h2], rfl⟩⟩
  · obtain rfl : v1 = .slice (some a) len cap := by injection h1
    have hm' : m = cap := by simpa using hm
    subst hm'
    have each : ∀ i, i < len → ∃ q : Int × Int, W.cell? (a.add (i * 2)) = some (.int .i64 q.1) ∧ W.cell? (a.add (i * 2 + 1)) = some (.int .i64 q.2) := fun i hi => by
      obtain ⟨c0, c1, t0, t1⟩ := hcell i (by omega)
      obtain ⟨z0, e0, _⟩ := DataW.trod_int hti t0
      rw [a1] at t1
      obtain ⟨z1, e1, _⟩ := DataW.trod_int hti t1
      obtain e0 : V0 i = _ := by injection e0
      obtain e1 : V1 i = _ := by injection e1
      exact ⟨(z0, z1), by rw [c0, e0], by rw [c1, e1]⟩
    obtain ⟨q, hq⟩ := Deep.choose_lt each
    refine ⟨some a, len, m, (List.range len).map q, rfl, hle, ⟨by rw [edgs_length]; simp, fun hn => ⟨a, rfl, ?_, ?_⟩⟩, .inr ⟨_, _, by rw [hx], by simp⟩⟩
    · have := Lib.lt_of_cell (hq 0 hn).1
      rwa [block_of_add] at this
    · intro j u hu
      obtain ⟨e, he, rfl⟩ := edgs_half hu
      rw [List.getElem?_map] at he
      have hj : j / 2 < len := by
        rcases Nat.lt_or_ge (j / 2) len with h' | h'
        · exact h'
        · rw [List.getElem?_eq_none (by simpa using h')] at he; cases he
      rw [List.getElem?_range hj] at he
      obtain rfl := Option.some.inj he
      have hc := hq (j / 2) hj
      rcases Nat.mod_two_eq_zero_or_one j with h0 | h0
      · rw [if_pos h0, ← hc.1, show j / 2 * 2 = j by omega]
      · rw [if_neg (by omega), ← hc.2, show j / 2 * 2 + 1 = j by omega]

/-- An argument that is a graph. -/
theorem arg_graph {r : Reach} {b0 : Nat} {tg tsl te ti : TypeId} {W : World} {v : Value} {d : DataW H} {ps : List MemPlace} {ts : List TypeId} {ds : List (DataW H)} {j : Nat} {f0 f1 g0 g1 : Field}
    (htg : P.underlying tg = some (.struct #[f0, f1])) (hsl : P.underlying tsl = some (.slice te)) (hte : P.underlying te = some (.struct #[g0, g1])) (hti : P.underlying ti = some (.int .i64))
    (e0 : f0.type = ti) (e1 : f1.type = tsl) (o0 : f0.offset = 0) (o1 : f1.offset = 1) (a0 : g0.type = ti) (a1 : g1.type = ti) (p0 : g0.offset = 0) (p1 : g1.offset = 1)
    (c2 : P.cellsOf tg = 2) (ci : P.cellsOf ti = 1) (cs : P.cellsOf tsl = 1) (ce : P.cellsOf te = 2) (be : P.bytesOf te = 16)
    (hs : (DataW.weightsEach P ts ds).all (· ≤ reachBytes) = true) (htj : ts[j]? = some tg) (hdj : ds[j]? = some d) (hval : Value.okWide P W r b0 tg v)
    (h : DataW.Trod enc P W 0 (fun _ => true) true tg v d ps) : ∃ (n : Int) (A : Option Addr) (m c : Nat) (es : List (Int × Int)), v = .agg #[.int .i64 n, .slice A m c] ∧ m ≤ c ∧ RE W A m es ∧ m ≤ 8796093022208 := by
  unfold Value.okWide at hval
  rw [htg] at hval
  obtain ⟨cells, rfl, hsz, _⟩ := hval
  obtain ⟨fuel, hf⟩ := h
  obtain ⟨y0, y1, n, hx, hl, t0, t1⟩ := trod_struct2 htg hf
  have hl2 : cells.toList.length = 2 := by simpa [c2, Value.cells] using hl
  obtain ⟨v0, v1, hcs⟩ : ∃ v0 v1, cells = #[v0, v1] := by
    match cells, hl2 with
    | ⟨[v0, v1]⟩, _ => exact ⟨v0, v1, rfl⟩
  subst hcs
  subst e1
  rw [e0, o0] at t0
  rw [o1] at t1
  simp only [Value.cells, ci, cs, List.drop_zero, List.take_succ_cons, List.take_zero, List.drop_succ_cons] at t0 t1
  obtain ⟨z, h1, _⟩ := DataW.trod_int hti t0
  obtain ⟨A, m, c, es, rfl, hmc, hre, hnil⟩ := cell_edges hsl hte hti a0 a1 p0 p1 ce ci t1
  obtain rfl : v0 = .int .i64 z := by injection h1
  refine ⟨z, A, m, c, es, rfl, hmc, hre, ?_⟩
  rcases hnil with ⟨_, rfl⟩ | ⟨el, sp, he, hel⟩
  · omega
  · have hd : d = .agg [y0.1, y1.1] := (Prod.mk.inj hx).1
    have hmem : (el.length + sp.length) * P.bytesOf te ∈ d.weights P tg := by
      rw [hd, DataW.weights, htg]
      exact DataW.weights_mem_each (j := 1) (t := f1.type) (d := y1.1) rfl rfl _ (by rw [he]; simp [DataW.weights, hsl])
    have := List.all_eq_true.1 hs _ (DataW.weights_mem_each htj hdj _ hmem)
    have hr : reachBytes < 140737488355328 := reachBytes_lt
    rw [be] at this
    simp at this
    omega
end
end Go.Proofs.YticekkjambkifaaGreatDoor
