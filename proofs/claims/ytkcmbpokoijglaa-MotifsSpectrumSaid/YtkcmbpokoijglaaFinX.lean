/- An argument that is a slice of events. -/
import Derived.Test.YtkcmbpokoijglaaFin
import Derived.Test.YtkcmbpokoijglaaEveZ
set_option linter.unusedVariables false
namespace Go.Proofs.Ytkcmbpokoijglaa
open Go.ChangeShapes Go.WideShapes Go.ChangeAt Go.RowKit CoEv

section
variable {H : Type} {enc : TypeId × Value → H} {P : Program}
theorem arg_events {r : Reach} {b0 : Nat} {tsl te ti : TypeId} {W : World} {v : Value} {d : DataW H} {ps : List MemPlace} {f0 f1 f2 f3 f4 f5 f6 : Field} (hsl : P.underlying tsl = some (.slice te)) (hte : P.underlying te = some (.struct #[f0, f1, f2, f3, f4, f5, f6])) (hti : P.underlying ti = some (.int .i64))
    (ht : (f0.type = ti ∧ f1.type = ti ∧ f2.type = ti ∧ f3.type = ti ∧ f4.type = ti ∧ f5.type = ti ∧ f6.type = ti)) (ho : f0.offset = 0 ∧ f1.offset = 1 ∧ f2.offset = 2 ∧ f3.offset = 3 ∧ f4.offset = 4 ∧ f5.offset = 5 ∧ f6.offset = 6)
    (ci : P.cellsOf ti = 1) (ce : P.cellsOf te = 7) (hval : Value.okWide P W r b0 tsl v)
    (h : DataW.Trod enc P W 0 (fun _ => true) true tsl v d ps) : ∃ A n c xs, v = .slice A n c ∧ n ≤ c ∧ RS EE W A n xs := by
  obtain ⟨A, n, c, rfl⟩ := okWide_slice hsl hval
  obtain ⟨a0, a1, a2, a3, a4, a5, a6⟩ := ht
  obtain ⟨o0, o1, o2, o3, o4, o5, o6⟩ := ho
  obtain ⟨fuel, hf⟩ := h
  rcases Deep.open_slice hsl hf with ⟨h1, _⟩ | ⟨a, len, cap, m, k, D, Pl, h1, _, hle, _, hm, _, hcell⟩
  · simp only [Value.cells, List.cons.injEq, and_true, Value.slice.injEq] at h1
    obtain ⟨rfl, rfl, rfl⟩ := h1
    exact ⟨none, 0, 0, [], rfl, Nat.le_refl _, RS.none_⟩
  · simp only [Value.cells, List.cons.injEq, and_true, Value.slice.injEq] at h1
    obtain ⟨rfl, rfl, rfl⟩ := h1
    have hm' : m = c := by simpa using hm
    subst hm'
    have each : ∀ i, i < n → ∃ e : Ev, ∀ j u, (EE.cells e)[j]? = some u → W.cell? (a.add (i * 7 + j)) = some u := by
      intro i hi
      obtain ⟨cs', g1, g2⟩ := hcell i (by omega)
      rw [ce] at g1
      obtain ⟨_, hlen, hc⟩ := World.cells?_some g1
      obtain ⟨xs, k2, _, _, _, hxl, hff⟩ := DataW.trod_struct hte g2
      match xs, hxl, cs', hlen with
      | [y0, y1, y2, y3, y4, y5, y6], _, [v0, v1, v2, v3, v4, v5, v6], _ =>
        have t0 := hff 0 f0 rfl
        have t1 := hff 1 f1 rfl
        have t2 := hff 2 f2 rfl
        have t3 := hff 3 f3 rfl
        have t4 := hff 4 f4 rfl
        have t5 := hff 5 f5 rfl
        have t6 := hff 6 f6 rfl
        rw [a0, o0, ci] at t0
        rw [a1, o1, ci] at t1
        rw [a2, o2, ci] at t2
        rw [a3, o3, ci] at t3
        rw [a4, o4, ci] at t4
        rw [a5, o5, ci] at t5
        rw [a6, o6, ci] at t6
        simp only [List.drop_zero, List.take_succ_cons, List.take_zero, List.drop_succ_cons] at t0 t1 t2 t3 t4 t5 t6
        obtain ⟨z0, e0, _⟩ := DataW.trod_int hti t0
        obtain ⟨z1, e1, _⟩ := DataW.trod_int hti t1
        obtain ⟨z2, e2, _⟩ := DataW.trod_int hti t2
        obtain ⟨z3, e3, _⟩ := DataW.trod_int hti t3
        obtain ⟨z4, e4, _⟩ := DataW.trod_int hti t4
        obtain ⟨z5, e5, _⟩ := DataW.trod_int hti t5
        obtain ⟨z6, e6, _⟩ := DataW.trod_int hti t6
        obtain e0 : v0 = _ := by injection e0
        obtain e1 : v1 = _ := by injection e1
        obtain e2 : v2 = _ := by injection e2
        obtain e3 : v3 = _ := by injection e3
        obtain e4 : v4 = _ := by injection e4
        obtain e5 : v5 = _ := by injection e5
        obtain e6 : v6 = _ := by injection e6
        refine ⟨⟨z0, z1, z2, z3, z4, z5, z6⟩, fun j u hu => ?_⟩
        have hj : j < 7 := by
          have := (List.getElem?_eq_some_iff.1 hu).1
          simpa [EE] using this
        have hcj := hc j (by simpa using hj)
        rw [Deep.add_add] at hcj
        rw [hcj]
        subst e0 e1 e2 e3 e4 e5 e6
        exact hu
    haveI : Inhabited Ev := ⟨⟨0, 0, 0, 0, 0, 0, 0⟩⟩
    obtain ⟨q, hq⟩ := Deep.choose_lt each
    refine ⟨some a, n, m, (List.range n).map q, rfl, hle, ⟨by rw [El.all_length]; simp, fun hn => ⟨a, rfl, ?_, ?_⟩⟩⟩
    · have := Lib.lt_of_cell (hq 0 hn 0 _ rfl)
      rwa [block_of_add] at this
    · intro j u hu
      have hj : j < n * 7 := by
        have := (List.getElem?_eq_some_iff.1 hu).1
        rw [El.all_length] at this
        simpa [EE] using this
      have hj7 : j / 7 < n := by omega
      have hqk : ((List.range n).map q)[j / 7]? = some (q (j / 7)) := by rw [List.getElem?_map, List.getElem?_range hj7]; rfl
      obtain ⟨u', hu'⟩ : ∃ u', (EE.cells (q (j / 7)))[j % 7]? = some u' := by
        have : j % 7 < (EE.cells (q (j / 7))).length := by rw [EE.len]; show j % 7 < 7; omega
        exact ⟨_, List.getElem?_eq_getElem this⟩
      have h2 := EE.all_at hqk hu'
      rw [show j / 7 * EE.size + j % 7 = j from by show j / 7 * 7 + j % 7 = j; omega, hu] at h2
      injection h2 with h2
      rw [h2, ← hq (j / 7) hj7 (j % 7) u' hu', show j / 7 * 7 + j % 7 = j by omega]
end
end Go.Proofs.Ytkcmbpokoijglaa
