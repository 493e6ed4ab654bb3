/- Printed by merge.py from Fin, FinT, FinE, FinF. -/
import Derived.Test.YtdibfecejgjfmaaGreatDoorMem
import Derived.ProofKit
import Derived.OpenShut
import Derived.Deep.Slices
import Derived.Deep.SlicePairs
import Derived.Carry
import Derived.OpenVars
import Derived.ChangeSame
import Derived.SizedLaws
import Derived.LaidMore
import Derived.Lay
import Derived.SevenTiedAt
import Derived.Stop.Joined
import Derived.Lib.AtoiErrMem
import Derived.Shelf.Spec.TrailingZeros
import Derived.Test.YtdibfecejgjfmaaGreatDoorBitA
import Derived.Test.YtdibfecejgjfmaaGreatDoorMemE
/- Closing a law's row: arguments read as before where nothing old has changed; a slice of numbers opened; the table of the law's listed variable. -/
set_option linter.unusedVariables false
namespace Go.Proofs.YtdibfecejgjfmaaGreatDoor
open Go.ChangeShapes Go.WideShapes Go.ChangeAt Go.RowKit

section
variable {H : Type} {enc : TypeId × Value → H} {P : Program}

/-- All arguments read as before. -/
theorem stayAll (hl : laidOutB P = true) {W W' : World} (hb : Below W.heap.size W W') : ∀ (ts : List TypeId) (vs : List Value) (ds : List (DataW H)) (ps : List MemPlace),
    (ts.all fun t => P.readableRec t && decide (t < P.types.size)) = true → (∀ x ∈ ps, x.block < W.heap.size) → DataW.TrodAll enc P W 0 (fun _ => true) true ts vs ds ps →
    DataW.TrodAll enc P W' 0 (fun b => decide (b < W.heap.size)) true ts vs ds ps
  | [], vs, ds, ps, _, _, h => by
    obtain ⟨rfl, rfl, rfl⟩ := trodAll_nil h
    exact trodAll_mk0
  | t :: ts, vs, ds, ps, hr, hp, h => by
    obtain ⟨v, vs', d, ds', p, q, rfl, rfl, rfl, h0, h1⟩ := trodAll_cons h
    simp only [List.all_cons, Bool.and_eq_true, decide_eq_true_eq] at hr
    exact trodAll_cons_mk (Below.trod hl hr.1.1 hr.1.2 h0 hb (fun x hx => hp x (by simp [hx]))) (stayAll hl hb ts vs' ds' q hr.2 (fun x hx => hp x (by simp [hx])) h1)

section
/-- 'post' where nothing old has turned. -/
theorem post_of_below {f : Func} {s : ChangeSpec} {apart fresh handsOn again : Bool} {W W' : World} {args : Array Value} {v : Value} {ds gs : List (DataW H)} {before pa pv : List MemPlace}
    (hW : DataW.Whole enc P f.params.toList s.vars apart W args.toList ds gs before)
    (hres : ∀ (b : Nat) (sp : Nat → Bool) (hd : Bool), DataW.TrodAll enc P W' b sp hd f.resultTypes.toList (v.resultList f.resultTypes.size) (s.fn H (ds ++ gs)).results [])
    (hargs : ∀ sp : Nat → Bool, (∀ p ∈ before, sp p.block = true) → DataW.TrodAll enc P W' 0 sp true f.params.toList args.toList (s.fn H (ds ++ gs)).args pa)
    (hvars : ∀ sp : Nat → Bool, (∀ p ∈ before, sp p.block = true) → DataW.TrodVars enc P W' sp s.vars (s.fn H (ds ++ gs)).vars pv)
    (hps : before = pa ++ pv) (hb : Below W.heap.size W W')
    (hok : ∀ (j : Nat) (t : TypeId) (r : Value), f.resultTypes[j]? = some t → (v.resultList f.resultTypes.size)[j]? = some r → Value.okWide P W' .any 0 t r) :
    s.post enc P f apart fresh handsOn again W args v W' := by
  have hlt : ∀ p ∈ before, p.block < W.heap.size := fun p hp => hW.lt p hp
  have hold : ∀ p ∈ before, (fun b => decide (b < W.heap.size)) p.block = true := fun p hp => by simpa using hlt p hp
  refine ⟨ds, gs, before, [], pa, pv, hW, hres _ _ _, hargs _ hold, hvars _ hold, World.keptBut_mono (fun p hp => ⟨hp, ?_⟩) (hb.frame (· ∈ before)), fun _ => ?_⟩
  · rw [hps, List.mem_append] at hp
    exact Or.inr hp
  · obtain ⟨_, _, _, _, _, hz, hn⟩ := hW
    refine ⟨hok, _, _, ([] ++ pa) ++ pv, ⟨[] ++ pa, pv, trodAll_append (hargs _ (fun _ _ => rfl)) (hres _ _ _), hvars _ (fun _ _ => rfl), rfl, ?_, ?_⟩, ?_⟩
    · intro b off hp
      have hin : MemPlace.cell b off ∈ before := by rw [hps]; simpa using hp
      rw [hb.frozen (hlt _ hin)]
      exact hz b off hin
    · intro ha
      have := hn ha
      rw [hps] at this
      simpa using this
    · intro p hp _
      rw [hps]
      simpa using hp
end

/-- The post of a law that returned true and left what was there. -/
theorem law_post {f : Func} {s : ChangeSpec} {apart fresh handsOn : Bool} {W W' : World} {args : Array Value} {v : Value} {ds gs : List (DataW H)} {before : List MemPlace} {t : TypeId}
    (hl : laidOutB P = true) (hts : (f.params.toList.all fun t => P.readableRec t && decide (t < P.types.size)) = true) (hrt : f.resultTypes = #[t]) (hbool : P.underlying t = some .bool)
    (hW : DataW.Whole enc P f.params.toList s.vars apart W args.toList ds gs before) (hsv : s.vars = []) (hs : s.fn H (ds ++ gs) = { results := [.lit (.bool true)], args := ds }) (hv : v = .bool true)
    (hb : Below W.heap.size W W') : s.post enc P f apart fresh handsOn false W args v W' := by
  subst hv
  have hlt : ∀ p ∈ before, p.block < W.heap.size := fun p hp => hW.lt p hp
  have hW0 := hW
  obtain ⟨p, q, hA, hV, rfl, hz, hn⟩ := hW
  rw [hsv] at hV
  obtain ⟨rfl, rfl⟩ := trodVars_none hV
  have hs' := hs
  refine ⟨ds, [], p ++ [], [], p, [], hW0, ?_, ?_, ?_, World.keptBut_mono (fun p hp => ⟨hp, .inr (by simpa using hp)⟩) (hb.frame (· ∈ p ++ [])), fun h => by cases h⟩
  · rw [hs, hrt]
    exact trodAll_mk1 (shut_bool hbool _)
  · rw [hs]
    exact stayAll hl hb _ _ _ _ hts (fun x hx => hlt x (by simpa using hx)) hA
  · rw [hs, hsv]
    rfl
end

section
variable {H : Type} {enc : TypeId × Value → H} {P : Program}
/-- An argument that is a slice of int. -/
theorem arg_ints {r : Reach} {b0 : Nat} {t e : TypeId} {W : World} {v : Value} {d : DataW H} {ps : List MemPlace} {ts : List TypeId} {ds : List (DataW H)} {j : Nat} (ht : P.underlying t = some (.slice e)) (he : P.underlying e = some (.int .i64)) (hc : P.cellsOf e = 1) (h8 : P.bytesOf e = 8)
    (hs : (DataW.weightsEach P ts ds).all (· ≤ reachBytes) = true) (htj : ts[j]? = some t) (hdj : ds[j]? = some d) (hval : Value.okWide P W r b0 t v)
    (h : DataW.Trod enc P W 0 (fun _ => true) true t v d ps) : ∃ A n c xs, v = .slice A n c ∧ n ≤ c ∧ RI W A n xs ∧ n ≤ 17592186044416 := by
  obtain ⟨A, n, c, rfl⟩ := okWide_slice ht hval
  obtain ⟨fuel, hf⟩ := h
  rcases open_ints ht he hc hf with ⟨h1, h2⟩ | ⟨a, len, cap, zs, h1, _, hle, _, hlz, hx, hcell, _⟩
  · simp only [Value.cells, List.cons.injEq, and_true, Value.slice.injEq] at h1
    obtain ⟨rfl, rfl, rfl⟩ := h1
    exact ⟨none, 0, 0, [], rfl, Nat.le_refl _, RI.none_, by omega⟩
  · simp only [Value.cells, List.cons.injEq, and_true, Value.slice.injEq] at h1
    obtain ⟨rfl, rfl, rfl⟩ := h1
    have hd : d = .slice (lits .i64 (zs.take n)) (lits .i64 (zs.drop n)) := by injection hx
    have hlz' : zs.length = c := by simpa using hlz
    have hsz := sized_slice hs htj (hd ▸ hdj) ht
    have hr : reachBytes < 140737488355328 := reachBytes_lt
    rw [h8] at hsz
    simp [lits] at hsz
    refine ⟨some a, n, c, zs.take n, rfl, hle, ⟨by rw [ints_length, List.length_take]; omega, fun hn => ⟨a, rfl, ?_, ?_⟩⟩, by omega⟩
    · have := Lib.lt_of_cell (hcell 0 (by omega))
      rwa [block_of_add] at this
    · intro j u hu
      rw [ints, List.getElem?_map] at hu
      have hj : j < (zs.take n).length := by
        rcases Nat.lt_or_ge j (zs.take n).length with h | h
        · exact h
        · rw [List.getElem?_eq_none h] at hu; cases hu
      rw [List.getElem?_eq_getElem hj] at hu
      simp only [Option.map_some, Option.some.injEq] at hu
      rw [List.length_take] at hj
      rw [hcell j (by omega), ← hu, List.getElem_take, List.getD_eq_getElem?_getD, List.getElem?_eq_getElem (by omega)]
      rfl
end
end Go.Proofs.YtdibfecejgjfmaaGreatDoor

namespace Go.Proofs.YtdibfecejgjfmaaGreatDoor
open Go.ChangeShapes Go.WideShapes Go.ChangeAt Go.RowKit

theorem nat_u8 {a : Int} (h : (Lit.int .u8 a).wf = true) : ∃ n : Nat, a = (n : Int) ∧ n < 256 := by
  simp only [Lit.wf, Bool.and_eq_true, decide_eq_true_eq] at h
  have h1 : IntKind.u8.min = 0 := by decide
  have h2 : IntKind.u8.max = 255 := by decide
  rw [h1, h2] at h
  exact ⟨a.toNat, by omega, by omega⟩
theorem nat_u16 {a : Int} (h : (Lit.int .u16 a).wf = true) : ∃ n : Nat, a = (n : Int) ∧ n < 65536 := by
  simp only [Lit.wf, Bool.and_eq_true, decide_eq_true_eq] at h
  have h1 : IntKind.u16.min = 0 := by decide
  have h2 : IntKind.u16.max = 65535 := by decide
  rw [h1, h2] at h
  exact ⟨a.toNat, by omega, by omega⟩
theorem int_i64 {a : Int} (h : (Lit.int .i64 a).wf = true) : -9223372036854775808 ≤ a ∧ a ≤ 9223372036854775807 := bounds_i64 h
end Go.Proofs.YtdibfecejgjfmaaGreatDoor

/- The listed table of math/bits lies where the masks' walks want it. -/
set_option linter.unusedVariables false
namespace Go.Proofs.YtdibfecejgjfmaaGreatDoor
open Go.ChangeShapes Go.WideShapes Go.ChangeAt Go.RowKit

theorem laid_numbers : (Rows.laid_math_bits_deBruijn64tab : DataW Unit) = .agg (Lib.deBruijn64tab.map fun n : Nat => .lit (.int .u8 (n : Int))) := by kernel_rfl

theorem tab_of_laid {W : World} (h : laidMetH Tryz.prog [("math/bits.deBruijn64tab", Rows.laid_math_bits_deBruijn64tab)] W) : Tab W := by
  intro j hj
  rw [MakeChecks.laidMetH_plain _ _ _ (by kernel_rfl)] at h
  obtain ⟨ps, ⟨g, t, cs, fuel, p, q, hg, ht, hv, hd, _, _⟩, _, _⟩ := h
  obtain rfl := Option.some.inj ((show Tryz.prog.globalNamed "math/bits.deBruijn64tab" = some 0 by kernel_rfl).symm.trans hg)
  obtain rfl := Option.some.inj ((show (Tryz.prog.globals[0]?).map (·.type) = some 120 by kernel_rfl).symm.trans ht)
  obtain ⟨xs, m, _, ex, _, hl, hel⟩ := DataW.trod_array Tryz.underlying120 hd
  have hj' : j < 64 := hj
  have c5 : Tryz.prog.cellsOf 5 = 1 := by kernel_rfl
  have hE := hel j (by omega)
  rw [c5, Nat.mul_one, List.getElem?_eq_getElem (by omega)] at hE
  obtain ⟨z, e1, e2, _⟩ := DataW.trod_int Tryz.underlying5 hE
  have hlen : Lib.deBruijn64tab.length = 64 := by kernel_rfl
  have e3 : (xs.map (·.1)) = Lib.deBruijn64tab.map fun n : Nat => .lit (.int .u8 (n : Int)) := (DataW.agg.inj (laid_numbers.symm.trans (Prod.mk.inj ex).1)).symm
  have e4 : (xs.map (·.1))[j]? = (Lib.deBruijn64tab.map fun n : Nat => (DataW.lit (.int .u8 (n : Int)) : DataW Unit))[j]? := by rw [e3]
  rw [List.getElem?_map, List.getElem?_map, List.getElem?_eq_getElem (by omega : j < xs.length), List.getElem?_eq_getElem (by omega : j < Lib.deBruijn64tab.length), e2] at e4
  have hz : z = (Lib.deBruijn64tab.getD j 0 : Int) := by
    simp only [Option.map_some, Option.some.injEq, DataW.lit.injEq, Lit.int.injEq, true_and] at e4
    rw [e4, List.getD, List.getElem?_eq_getElem (by omega : j < Lib.deBruijn64tab.length)]; rfl
  rw [World.var?_cell hg hv j, ← hz]
  have : cs.toList[j]? = some (.int .u8 z) := by
    have h0 : ((cs.toList.drop j).take 1)[0]? = some (.int .u8 z) := by rw [e1]; rfl
    simpa using h0
  simpa using this
end Go.Proofs.YtdibfecejgjfmaaGreatDoor

/- An argument that is a graph: opened. -/
set_option linter.unusedVariables false
namespace Go.Proofs.YtdibfecejgjfmaaGreatDoor
open Go.ChangeShapes Go.WideShapes Go.ChangeAt Go.RowKit

theorem edgs_half {es : List (Int × Int)} {j : Nat} {u : Value} (h : (edgs es)[j]? = some u) : ∃ e, es[j / 2]? = some e ∧ u = (if j % 2 = 0 then .int .i64 e.1 else .int .i64 e.2) := by
  have hl := edgs_length es
  have hj : j < (edgs es).length := by
    rcases Nat.lt_or_ge j (edgs es).length with h' | h'
    · exact h'
    · rw [List.getElem?_eq_none h'] at h; cases h
  have hk : es[j / 2]? = some (es[j / 2]'(by omega)) := List.getElem?_eq_getElem _
  obtain ⟨h1, h2⟩ := edgs_at hk
  refine ⟨_, hk, ?_⟩
  rcases Nat.mod_two_eq_zero_or_one j with h0 | h0
  · rw [if_pos h0]
    rw [show j / 2 * 2 = j by omega, h] at h1
    exact Option.some.inj h1
  · rw [if_neg (by omega)]
    rw [show j / 2 * 2 + 1 = j by omega, h] at h2
    exact Option.some.inj h2

section
variable {H : Type} {enc : TypeId × Value → H} {P : Program}
/-- A slice of edges, out of its cell. -/
theorem cell_edges {W : World} {tsl te ti : TypeId} {g0 g1 : Field} {x : DataW H × List MemPlace} {v1 : Value} {fuel : Nat}
    (hsl : P.underlying tsl = some (.slice te)) (hte : P.underlying te = some (.struct #[g0, g1])) (hti : P.underlying ti = some (.int .i64)) (a0 : g0.type = ti) (a1 : g1.type = ti) (p0 : g0.offset = 0) (p1 : g1.offset = 1)
    (ce : P.cellsOf te = 2) (ci : P.cellsOf ti = 1) (h : DataW.trod enc P W 0 (fun _ => true) true fuel tsl [v1] = some x) :
    ∃ (A : Option Addr) (m c : Nat) (es : List (Int × Int)), v1 = .slice A m c ∧ m ≤ c ∧ RE W A m es ∧ (x.1 = .nil ∧ m = 0 ∨ ∃ el sp, x.1 = .slice el sp ∧ el.length = m) := by
  subst a0
  rcases Deep.open_slice_pairs hsl hte ce p0 p1 ci (by rw [a1]; exact ci) h with ⟨h1, h2⟩ | ⟨a, len, cap, m, n, V0, V1, D0, D1, P0, P1, h1, _, hle, _, hm, hx, hcell⟩
  · obtain rfl : v1 = .slice none 0 0 := by injection h1
    exact ⟨none, 0, 0, [], rfl, Nat.le_refl _, RE.none_, .inl ⟨by rw [h2], rfl⟩⟩
  · obtain rfl : v1 = .slice (some a) len cap := by injection h1
    have hm' : m = cap := by simpa using hm
    subst hm'
    have each : ∀ i, i < len → ∃ q : Int × Int, W.cell? (a.add (i * 2)) = some (.int .i64 q.1) ∧ W.cell? (a.add (i * 2 + 1)) = some (.int .i64 q.2) := fun i hi => by
      obtain ⟨c0, c1, t0, t1⟩ := hcell i (by omega)
      obtain ⟨z0, e0, _⟩ := DataW.trod_int hti t0
      rw [a1] at t1
      obtain ⟨z1, e1, _⟩ := DataW.trod_int hti t1
      obtain e0 : V0 i = _ := by injection e0
      obtain e1 : V1 i = _ := by injection e1
      exact ⟨(z0, z1), by rw [c0, e0], by rw [c1, e1]⟩
    obtain ⟨q, hq⟩ := Deep.choose_lt each
    refine ⟨some a, len, m, (List.range len).map q, rfl, hle, ⟨by rw [edgs_length]; simp, fun hn => ⟨a, rfl, ?_, ?_⟩⟩, .inr ⟨_, _, by rw [hx], by simp⟩⟩
    · have := Lib.lt_of_cell (hq 0 hn).1
      rwa [block_of_add] at this
    · intro j u hu
      obtain ⟨e, he, rfl⟩ := edgs_half hu
      rw [List.getElem?_map] at he
      have hj : j / 2 < len := by
        rcases Nat.lt_or_ge (j / 2) len with h' | h'
        · exact h'
        · rw [List.getElem?_eq_none (by simpa using h')] at he; cases he
      rw [List.getElem?_range hj] at he
      obtain rfl := Option.some.inj he
      have hc := hq (j / 2) hj
      rcases Nat.mod_two_eq_zero_or_one j with h0 | h0
      · rw [if_pos h0, ← hc.1, show j / 2 * 2 = j by omega]
      · rw [if_neg (by omega), ← hc.2, show j / 2 * 2 + 1 = j by omega]

/-- An argument that is a graph. -/
theorem arg_graph {r : Reach} {b0 : Nat} {tg tsl te ti : TypeId} {W : World} {v : Value} {d : DataW H} {ps : List MemPlace} {ts : List TypeId} {ds : List (DataW H)} {j : Nat} {f0 f1 g0 g1 : Field}
    (htg : P.underlying tg = some (.struct #[f0, f1])) (hsl : P.underlying tsl = some (.slice te)) (hte : P.underlying te = some (.struct #[g0, g1])) (hti : P.underlying ti = some (.int .i64))
    (e0 : f0.type = ti) (e1 : f1.type = tsl) (o0 : f0.offset = 0) (o1 : f1.offset = 1) (a0 : g0.type = ti) (a1 : g1.type = ti) (p0 : g0.offset = 0) (p1 : g1.offset = 1)
    (c2 : P.cellsOf tg = 2) (ci : P.cellsOf ti = 1) (cs : P.cellsOf tsl = 1) (ce : P.cellsOf te = 2) (be : P.bytesOf te = 16)
    (hs : (DataW.weightsEach P ts ds).all (· ≤ reachBytes) = true) (htj : ts[j]? = some tg) (hdj : ds[j]? = some d) (hval : Value.okWide P W r b0 tg v)
    (h : DataW.Trod enc P W 0 (fun _ => true) true tg v d ps) : ∃ (n : Int) (A : Option Addr) (m c : Nat) (es : List (Int × Int)), v = .agg #[.int .i64 n, .slice A m c] ∧ m ≤ c ∧ RE W A m es ∧ m ≤ 8796093022208 := by
  unfold Value.okWide at hval
  rw [htg] at hval
  obtain ⟨cells, rfl, hsz, _⟩ := hval
  obtain ⟨fuel, hf⟩ := h
  obtain ⟨y0, y1, n, hx, hl, t0, t1⟩ := trod_struct2 htg hf
  have hl2 : cells.toList.length = 2 := by simpa [c2, Value.cells] using hl
  obtain ⟨v0, v1, hcs⟩ : ∃ v0 v1, cells = #[v0, v1] := by
    match cells, hl2 with
    | ⟨[v0, v1]⟩, _ => exact ⟨v0, v1, rfl⟩
  subst hcs
  subst e1
  rw [e0, o0] at t0
  rw [o1] at t1
  simp only [Value.cells, ci, cs, List.drop_zero, List.take_succ_cons, List.take_zero, List.drop_succ_cons] at t0 t1
  obtain ⟨z, h1, _⟩ := DataW.trod_int hti t0
  obtain ⟨A, m, c, es, rfl, hmc, hre, hnil⟩ := cell_edges hsl hte hti a0 a1 p0 p1 ce ci t1
  obtain rfl : v0 = .int .i64 z := by injection h1
  refine ⟨z, A, m, c, es, rfl, hmc, hre, ?_⟩
  rcases hnil with ⟨_, rfl⟩ | ⟨el, sp, he, hel⟩
  · omega
  · have hd : d = .agg [y0.1, y1.1] := (Prod.mk.inj hx).1
    have hmem : (el.length + sp.length) * P.bytesOf te ∈ d.weights P tg := by
      rw [hd, DataW.weights, htg]
      exact DataW.weights_mem_each (j := 1) (t := f1.type) (d := y1.1) rfl rfl _ (by rw [he]; simp [DataW.weights, hsl])
    have := List.all_eq_true.1 hs _ (DataW.weights_mem_each htj hdj _ hmem)
    have hr : reachBytes < 140737488355328 := reachBytes_lt
    rw [be] at this
    simp at this
    omega
end
end Go.Proofs.YtdibfecejgjfmaaGreatDoor

/- An argument that is a fraction (two integers). -/
set_option linter.unusedVariables false
namespace Go.Proofs.YtdibfecejgjfmaaGreatDoor
open Go.ChangeShapes Go.WideShapes Go.ChangeAt Go.RowKit

section
variable {H : Type} {enc : TypeId × Value → H} {P : Program}
theorem arg_frac {r : Reach} {b0 : Nat} {tg ti : TypeId} {W : World} {v : Value} {d : DataW H} {ps : List MemPlace} {f0 f1 : Field}
    (htg : P.underlying tg = some (.struct #[f0, f1])) (hti : P.underlying ti = some (.int .i64))
    (e0 : f0.type = ti) (e1 : f1.type = ti) (o0 : f0.offset = 0) (o1 : f1.offset = 1) (c2 : P.cellsOf tg = 2) (ci : P.cellsOf ti = 1)
    (hval : Value.okWide P W r b0 tg v) (h : DataW.Trod enc P W 0 (fun _ => true) true tg v d ps) : ∃ a b : Int, v = .agg #[.int .i64 a, .int .i64 b] := by
  unfold Value.okWide at hval
  rw [htg] at hval
  obtain ⟨cells, rfl, hsz, _⟩ := hval
  obtain ⟨fuel, hf⟩ := h
  obtain ⟨y0, y1, n, hx, hl, t0, t1⟩ := trod_struct2 htg hf
  have hl2 : cells.toList.length = 2 := by simpa [c2, Value.cells] using hl
  obtain ⟨v0, v1, hcs⟩ : ∃ v0 v1, cells = #[v0, v1] := by
    match cells, hl2 with
    | ⟨[v0, v1]⟩, _ => exact ⟨v0, v1, rfl⟩
  subst hcs
  rw [e0, o0] at t0
  rw [e1, o1] at t1
  simp only [Value.cells, ci, List.drop_zero, List.take_succ_cons, List.take_zero, List.drop_succ_cons] at t0 t1
  obtain ⟨z, h1, _⟩ := DataW.trod_int hti t0
  obtain ⟨z', h1', _⟩ := DataW.trod_int hti t1
  obtain rfl : v0 = .int .i64 z := by injection h1
  obtain rfl : v1 = .int .i64 z' := by injection h1'
  exact ⟨z, z', rfl⟩
end
end Go.Proofs.YtdibfecejgjfmaaGreatDoor
