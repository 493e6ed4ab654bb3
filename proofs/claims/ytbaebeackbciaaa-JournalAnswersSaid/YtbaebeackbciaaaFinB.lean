/- An argument that is a slice of bytes. -/
import Derived.Test.YtbaebeackbciaaaFin
import Derived.Test.YtbaebeackbciaaaGen
import Derived.Test.YtbaebeackbciaaaEveM
set_option linter.unusedVariables false
namespace Go.Proofs.Ytbaebeackbciaaa
open Go.ChangeShapes Go.WideShapes Go.ChangeAt Go.RowKit CoEv

theorem wf_u8 {a : Int} (h : (Lit.int .u8 a).wf = true) : 0 ≤ a ∧ a < 256 := by
  obtain ⟨n, rfl, h⟩ := nat_u8 h; omega
section
variable {H : Type} {enc : TypeId × Value → H} {P : Program}
theorem arg_bytes {r : Reach} {b0 : Nat} {t e : TypeId} {W : World} {v : Value} {d : DataW H} {ps : List MemPlace} {ts : List TypeId} {ds : List (DataW H)} {j : Nat} (ht : P.underlying t = some (.slice e)) (he : P.underlying e = some (.int .u8)) (hc : P.cellsOf e = 1) (h8 : P.bytesOf e = 1)
    (hs : (DataW.weightsEach P ts ds).all (· ≤ reachBytes) = true) (htj : ts[j]? = some t) (hdj : ds[j]? = some d) (hval : Value.okWide P W r b0 t v)
    (h : DataW.Trod enc P W 0 (fun _ => true) true t v d ps) : ∃ A n c xs, v = .slice A n c ∧ n ≤ c ∧ RS BE W A n xs ∧ n ≤ 140737488355328 ∧ Byt xs := by
  obtain ⟨A, n, c, rfl⟩ := okWide_slice ht hval
  obtain ⟨fuel, hf⟩ := h
  rcases open_ints ht he hc hf with ⟨h1, h2⟩ | ⟨a, len, cap, zs, h1, _, hle, _, hlz, hx, hcell, hwf⟩
  · simp only [Value.cells, List.cons.injEq, and_true, Value.slice.injEq] at h1
    obtain ⟨rfl, rfl, rfl⟩ := h1
    exact ⟨none, 0, 0, [], rfl, Nat.le_refl _, RS.none_, by omega, fun x hx => by cases hx⟩
  · simp only [Value.cells, List.cons.injEq, and_true, Value.slice.injEq] at h1
    obtain ⟨rfl, rfl, rfl⟩ := h1
    have hd : d = .slice (lits .u8 (zs.take n)) (lits .u8 (zs.drop n)) := by injection hx
    have hlz' : zs.length = c := by simpa using hlz
    have hsz := sized_slice hs htj (hd ▸ hdj) ht
    have hr : reachBytes < 140737488355328 := reachBytes_lt
    rw [h8] at hsz
    simp [lits] at hsz
    have hall : ∀ x ∈ zs, 0 ≤ x ∧ x < 256 := fun x hx => wf_u8 (hwf x hx)
    have hlen : ((zs.take n).map Int.toNat).length = n := by rw [List.length_map, List.length_take]; omega
    refine ⟨some a, n, c, (zs.take n).map Int.toNat, rfl, hle, ⟨by rw [El.all_length, hlen], fun hn => ⟨a, rfl, ?_, ?_⟩⟩, by omega, ?_⟩
    · have := Lib.lt_of_cell (hcell 0 (by omega))
      rwa [block_of_add] at this
    · intro j u hu
      have hmap : BE.all ((zs.take n).map Int.toNat) = (zs.take n).map (fun z => Value.int .u8 (z.toNat : Int)) := by
        generalize zs.take n = l
        induction l with
        | nil => rfl
        | cons x l ih => rw [List.map_cons, El.all_cons, ih]; rfl
      rw [hmap, List.getElem?_map] at hu
      have hj : j < (zs.take n).length := by
        rcases Nat.lt_or_ge j (zs.take n).length with h | h
        · exact h
        · rw [List.getElem?_eq_none h] at hu; cases hu
      rw [List.getElem?_eq_getElem hj] at hu
      simp only [Option.map_some, Option.some.injEq] at hu
      rw [List.length_take] at hj
      have hjz : j < zs.length := by omega
      have h0 := hall _ (List.getElem_mem hjz)
      rw [hcell j (by omega), ← hu, List.getElem_take, List.getD_eq_getElem?_getD, List.getElem?_eq_getElem hjz]
      simp only [Option.getD_some]
      rw [Int.toNat_of_nonneg h0.1]
    · intro x hx
      rw [List.mem_map] at hx
      obtain ⟨z, hz, rfl⟩ := hx
      have := hall z (List.mem_of_mem_take hz)
      omega
end
end Go.Proofs.Ytbaebeackbciaaa
