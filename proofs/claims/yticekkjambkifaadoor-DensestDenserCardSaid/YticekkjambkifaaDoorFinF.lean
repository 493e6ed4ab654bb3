/- An argument that is a fraction (two integers). -/
import Derived.Test.YticekkjambkifaaDoorFin
set_option linter.unusedVariables false
namespace Go.Proofs.YticekkjambkifaaDoor
open Go.ChangeShapes Go.WideShapes Go.ChangeAt Go.RowKit

section
variable {H : Type} {enc : TypeId × Value → H} {P : Program}
theorem arg_frac {r : Reach} {b0 : Nat} {tg ti : TypeId} {W : World} {v : Value} {d : DataW H} {ps : List MemPlace} {f0 f1 : Field}
    (htg : P.underlying tg = some (.struct #[f0, f1])) (hti : P.underlying ti = some (.int .i64))
    (e0 : f0.type = ti) (e1 : f1.type = ti) (o0 : f0.offset = 0) (o1 : f1.offset = 1) (c2 : P.cellsOf tg = 2) (ci : P.cellsOf ti = 1)
    (hval : Value.okWide P W r b0 tg v) (h : DataW.Trod enc P W 0 (fun _ => true) true tg v d ps) : ∃ a b : Int, v = .agg #[.int .i64 a, .int .i64 b] := by
  unfold Value.okWide at hval
  rw [htg] at hval
  obtain ⟨cells, rfl, hsz, _⟩ := hval
  obtain ⟨fuel, hf⟩ := h
  obtain ⟨y0, y1, n, hx, hl, t0, t1⟩ := trod_struct2 htg hf
  have hl2 : cells.toList.length = 2 := by simpa [c2, Value.cells] using hl
  obtain ⟨v0, v1, hcs⟩ : ∃ v0 v1, cells = #[v0, v1] := by
    match cells, hl2 with
    | ⟨[v0, v1]⟩, _ => exact ⟨v0, v1, rfl⟩
  subst hcs
  rw [e0, o0] at t0
  rw [e1, o1] at t1
  simp only [Value.cells, ci, List.drop_zero, List.take_succ_cons, List.take_zero, List.drop_succ_cons] at t0 t1
  obtain ⟨z, h1, _⟩ := DataW.trod_int hti t0
  obtain ⟨z', h1', _⟩ := DataW.trod_int hti t1
  obtain rfl : v0 = .int .i64 z := by injection h1
  obtain rfl : v1 = .int .i64 z' := by injection h1'
  exact ⟨z, z', rfl⟩
end
end Go.Proofs.YticekkjambkifaaDoor
