/- Arguments that are slices of ticks, and of steps. -/
import Derived.Test.YtkcmbpokoijglaaFin
import Derived.Test.YtkcmbpokoijglaaMotA
set_option linter.unusedVariables false
namespace Go.Proofs.Ytkcmbpokoijglaa
open Go.ChangeShapes Go.WideShapes Go.ChangeAt Go.RowKit CoMot

section
variable {H : Type} {enc : TypeId × Value → H} {P : Program}
theorem arg_ticks {r : Reach} {b0 : Nat} {tsl te ti : TypeId} {W : World} {v : Value} {d : DataW H} {ps : List MemPlace} {f0 f1 f2 : Field} (hsl : P.underlying tsl = some (.slice te)) (hte : P.underlying te = some (.struct #[f0, f1, f2])) (hti : P.underlying ti = some (.int .i64))
    (ht : (f0.type = ti ∧ f1.type = ti ∧ f2.type = ti)) (ho : f0.offset = 0 ∧ f1.offset = 1 ∧ f2.offset = 2)
    (ci : P.cellsOf ti = 1) (ce : P.cellsOf te = 3) (hval : Value.okWide P W r b0 tsl v)
    (h : DataW.Trod enc P W 0 (fun _ => true) true tsl v d ps) : ∃ A n c xs, v = .slice A n c ∧ n ≤ c ∧ RS TE W A n xs := by
  obtain ⟨A, n, c, rfl⟩ := okWide_slice hsl hval
  obtain ⟨a0, a1, a2⟩ := ht
  obtain ⟨o0, o1, o2⟩ := ho
  obtain ⟨fuel, hf⟩ := h
  rcases Deep.open_slice hsl hf with ⟨h1, _⟩ | ⟨a, len, cap, m, k, D, Pl, h1, _, hle, _, hm, _, hcell⟩
  · simp only [Value.cells, List.cons.injEq, and_true, Value.slice.injEq] at h1
    obtain ⟨rfl, rfl, rfl⟩ := h1
    exact ⟨none, 0, 0, [], rfl, Nat.le_refl _, RS.none_⟩
  · simp only [Value.cells, List.cons.injEq, and_true, Value.slice.injEq] at h1
    obtain ⟨rfl, rfl, rfl⟩ := h1
    have hm' : m = c := by simpa using hm
    subst hm'
    have each : ∀ i, i < n → ∃ e : Tick, ∀ j u, (TE.cells e)[j]? = some u → W.cell? (a.add (i * 3 + j)) = some u := by
      intro i hi
      obtain ⟨cs', g1, g2⟩ := hcell i (by omega)
      rw [ce] at g1
      obtain ⟨_, hlen, hc⟩ := World.cells?_some g1
      obtain ⟨xs, k2, _, _, _, hxl, hff⟩ := DataW.trod_struct hte g2
      match xs, hxl, cs', hlen with
      | [y0, y1, y2], _, [v0, v1, v2], _ =>
        have t0 := hff 0 f0 rfl
        have t1 := hff 1 f1 rfl
        have t2 := hff 2 f2 rfl
        rw [a0, o0, ci] at t0
        rw [a1, o1, ci] at t1
        rw [a2, o2, ci] at t2
        simp only [List.drop_zero, List.take_succ_cons, List.take_zero, List.drop_succ_cons] at t0 t1 t2
        obtain ⟨z0, e0, _⟩ := DataW.trod_int hti t0
        obtain ⟨z1, e1, _⟩ := DataW.trod_int hti t1
        obtain ⟨z2, e2, _⟩ := DataW.trod_int hti t2
        obtain e0 : v0 = _ := by injection e0
        obtain e1 : v1 = _ := by injection e1
        obtain e2 : v2 = _ := by injection e2
        refine ⟨⟨z0, z1, z2⟩, fun j u hu => ?_⟩
        have hj : j < 3 := by
          have := (List.getElem?_eq_some_iff.1 hu).1
          simpa [TE] using this
        have hcj := hc j (by simpa using hj)
        rw [Deep.add_add] at hcj
        rw [hcj]
        subst e0 e1 e2
        exact hu
    haveI : Inhabited Tick := ⟨⟨0, 0, 0⟩⟩
    obtain ⟨q, hq⟩ := Deep.choose_lt each
    refine ⟨some a, n, m, (List.range n).map q, rfl, hle, ⟨by rw [El.all_length]; simp, fun hn => ⟨a, rfl, ?_, ?_⟩⟩⟩
    · have := Lib.lt_of_cell (hq 0 hn 0 _ rfl)
      rwa [block_of_add] at this
    · intro j u hu
      have hj : j < n * 3 := by
        have := (List.getElem?_eq_some_iff.1 hu).1
        rw [El.all_length] at this
        simpa [TE] using this
      have hj7 : j / 3 < n := by omega
      have hqk : ((List.range n).map q)[j / 3]? = some (q (j / 3)) := by rw [List.getElem?_map, List.getElem?_range hj7]; rfl
      obtain ⟨u', hu'⟩ : ∃ u', (TE.cells (q (j / 3)))[j % 3]? = some u' := by
        have : j % 3 < (TE.cells (q (j / 3))).length := by rw [TE.len]; show j % 3 < 3; omega
        exact ⟨_, List.getElem?_eq_getElem this⟩
      have h2 := TE.all_at hqk hu'
      rw [show j / 3 * TE.size + j % 3 = j from by show j / 3 * 3 + j % 3 = j; omega, hu] at h2
      injection h2 with h2
      rw [h2, ← hq (j / 3) hj7 (j % 3) u' hu', show j / 3 * 3 + j % 3 = j by omega]
theorem arg_steps {r : Reach} {b0 : Nat} {tsl te ti : TypeId} {W : World} {v : Value} {d : DataW H} {ps : List MemPlace} (hsl : P.underlying tsl = some (.slice te)) (hte : P.underlying te = some (.array 2 ti)) (hti : P.underlying ti = some (.int .i64))
    (ci : P.cellsOf ti = 1) (ce : P.cellsOf te = 2) (hval : Value.okWide P W r b0 tsl v)
    (h : DataW.Trod enc P W 0 (fun _ => true) true tsl v d ps) : ∃ A n c xs, v = .slice A n c ∧ n ≤ c ∧ RS SE W A n xs := by
  obtain ⟨A, n, c, rfl⟩ := okWide_slice hsl hval
  obtain ⟨fuel, hf⟩ := h
  rcases Deep.open_slice hsl hf with ⟨h1, _⟩ | ⟨a, len, cap, m, k, D, Pl, h1, _, hle, _, hm, _, hcell⟩
  · simp only [Value.cells, List.cons.injEq, and_true, Value.slice.injEq] at h1
    obtain ⟨rfl, rfl, rfl⟩ := h1
    exact ⟨none, 0, 0, [], rfl, Nat.le_refl _, RS.none_⟩
  · simp only [Value.cells, List.cons.injEq, and_true, Value.slice.injEq] at h1
    obtain ⟨rfl, rfl, rfl⟩ := h1
    have hm' : m = c := by simpa using hm
    subst hm'
    have each : ∀ i, i < n → ∃ e : Step, ∀ j u, (SE.cells e)[j]? = some u → W.cell? (a.add (i * 2 + j)) = some u := by
      intro i hi
      obtain ⟨cs', g1, g2⟩ := hcell i (by omega)
      rw [ce] at g1
      obtain ⟨_, hlen, hc⟩ := World.cells?_some g1
      obtain ⟨xs, k2, _, _, _, hxl, hff⟩ := DataW.trod_array hte g2
      match xs, hxl, cs', hlen with
      | [y0, y1], _, [v0, v1], _ =>
        have t0 := hff 0 (by omega)
        have t1 := hff 1 (by omega)
        rw [ci] at t0 t1
        simp only [Nat.zero_mul, Nat.one_mul, List.drop_zero, List.take_succ_cons, List.take_zero, List.drop_succ_cons] at t0 t1
        replace t0 : _ = some y0 := t0
        replace t1 : _ = some y1 := t1
        obtain ⟨z0, e0, _⟩ := DataW.trod_int hti t0
        obtain ⟨z1, e1, _⟩ := DataW.trod_int hti t1
        obtain e0 : v0 = _ := by injection e0
        obtain e1 : v1 = _ := by injection e1
        refine ⟨(z0, z1), fun j u hu => ?_⟩
        have hj : j < 2 := by
          have := (List.getElem?_eq_some_iff.1 hu).1
          simpa [SE] using this
        have hcj := hc j (by simpa using hj)
        rw [Deep.add_add] at hcj
        rw [hcj]
        subst e0 e1
        exact hu
    haveI : Inhabited Step := ⟨(0, 0)⟩
    obtain ⟨q, hq⟩ := Deep.choose_lt each
    refine ⟨some a, n, m, (List.range n).map q, rfl, hle, ⟨by rw [El.all_length]; simp, fun hn => ⟨a, rfl, ?_, ?_⟩⟩⟩
    · have := Lib.lt_of_cell (hq 0 hn 0 _ rfl)
      rwa [block_of_add] at this
    · intro j u hu
      have hj : j < n * 2 := by
        have := (List.getElem?_eq_some_iff.1 hu).1
        rw [El.all_length] at this
        simpa [SE] using this
      have hj7 : j / 2 < n := by omega
      have hqk : ((List.range n).map q)[j / 2]? = some (q (j / 2)) := by rw [List.getElem?_map, List.getElem?_range hj7]; rfl
      obtain ⟨u', hu'⟩ : ∃ u', (SE.cells (q (j / 2)))[j % 2]? = some u' := by
        have : j % 2 < (SE.cells (q (j / 2))).length := by rw [SE.len]; show j % 2 < 2; omega
        exact ⟨_, List.getElem?_eq_getElem this⟩
      have h2 := SE.all_at hqk hu'
      rw [show j / 2 * SE.size + j % 2 = j from by show j / 2 * 2 + j % 2 = j; omega, hu] at h2
      injection h2 with h2
      rw [h2, ← hq (j / 2) hj7 (j % 2) u' hu', show j / 2 * 2 + j % 2 = j by omega]
end
end Go.Proofs.Ytkcmbpokoijglaa
