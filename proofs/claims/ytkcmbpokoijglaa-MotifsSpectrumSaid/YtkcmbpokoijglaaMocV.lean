/- Printed by merge.py from MocA, MocB, MocC, MocD, MocE. -/
import Derived.Test.YtkcmbpokoijglaaMotT
import Derived.Lib.AppendZerosOnto
import Derived.Maps.Keyed
import Derived.DeepKeys4
import Derived.MapFrom
import Derived.Test.YtkcmbpokoijglaaMotK
import Derived.Test.YtkcmbpokoijglaaWpt
import Derived.Test.YtkcmbpokoijglaaMotQ
import Derived.Deep.OwnRows
/- slices.Clone of steps, as a row of the call's own; append of zeros; motifs.padded. -/
set_option linter.unusedVariables false
set_option linter.unusedSimpArgs false
namespace CoMot
/-- Steps of zeros behind. -/
def pd (M : List Step) : List Step := M ++ List.replicate (4 - M.length) (0, 0)
theorem pd_len {M : List Step} (h : M.length ≤ 4) : (pd M).length = 4 := by unfold pd; rw [List.length_append, List.length_replicate]; omega
theorem pd_inj {M N : List Step} (hl : M.length = N.length) (h : pd M = pd N) : M = N := by
  unfold pd at h
  exact (List.append_inj h hl).1
end CoMot
namespace Go.Proofs.Ytkcmbpokoijglaa
open Go.RowKit CoMot

set_option maxRecDepth 100000 in
set_option maxHeartbeats 2000000 in
theorem mclone_own (A : Option Addr) (n c : Nat) (xs : List Step) (w : World) (h : RS SE w A n xs) (hn : n ≤ 1099511627776) :
    Calls Try.prog 59 #[.slice A n c] w (fun e w' => ∃ v, e = .returned v ∧ OS SE 34 w' w.heap.size v xs ∧ Below w.heap.size w w') := by
  have kq := fun (w : World) (a : Option Addr) (l c n' c' : Nat) => Lib.run_eql_slice_nil (P := Try.prog) w 29 34 a l c n' c' Try.underlying29
  cases A with
  | none =>
    have h0 : n = 0 := by
      rcases Nat.eq_zero_or_pos n with h0 | h0
      · exact h0
      · obtain ⟨ad, e, _⟩ := h.block_lt h0; cases e
    subst h0
    have hx : xs = [] := List.eq_nil_of_length_eq_zero h.len
    subst hx
    go_enter Try.func59, Try.ntmps59
    go_wp2_with fail
    go_ret
    exact ⟨_, rfl, OS.nil_, Below.refl _ _⟩
  | some ad =>
    go_enter Try.func59, Try.ntmps59
    have ho : OS SE 34 (w.alloc (.cells #[] 34)) w.heap.size (.slice (some ⟨w.heap.size, 0, none⟩) 0 0) [] :=
      ⟨rfl, .inr ⟨w.heap.size, 0, #[], rfl, Nat.le_refl _, heap_alloc_new w _, Nat.le_refl _, Nat.zero_le _, rfl, rfl⟩⟩
    have hr := h.alloc (.cells #[] 34)
    have hb0 : Below w.heap.size w (w.alloc (.cells #[] 34)) := (Below.refl _ _).alloc (Nat.le_refl _) _
    go_wp2_with (at_builtin; refine wpList_catG tyS rfl _ _ rfl rfl rfl ho hr (by unfold maxLen; simp; omega) (by simp; omega) (by simp) ?_; intro v1 w1 ho1 hb1 hg1)
    go_ret
    exact ⟨_, rfl, ho1, hb0.trans hb1⟩
section
variable {α : Type} {E : El α} {st t : TypeId} {bytes : Nat}
theorem zero_cells {z : Value} {zz : α} (hz : E.cells zz = z.cells.toList) (k : Nat) : (Builtin.zeroCells z.cells k).toList = E.all (List.replicate k zz) := by
  have hzs : z.cells.size = E.size := by rw [← E.len zz, hz]; simp
  apply List.ext_getElem?
  intro i
  by_cases hi : i < k * E.size
  · have hd : i / E.size < k := Nat.div_lt_of_lt_mul (by rw [Nat.mul_comm]; exact hi)
    have hr : (List.replicate k zz)[i / E.size]? = some zz := by rw [List.getElem?_replicate, if_pos hd]
    have hm : i % E.size < E.size := Nat.mod_lt _ E.pos
    obtain ⟨u, hu⟩ : ∃ u, (E.cells zz)[i % E.size]? = some u := ⟨_, List.getElem?_eq_getElem (by rw [E.len]; exact hm)⟩
    have h2 := E.all_at hr hu
    have hdm : i / E.size * E.size + i % E.size = i := by rw [Nat.mul_comm]; exact Nat.div_add_mod _ _
    rw [hdm] at h2
    rw [h2]
    unfold Builtin.zeroCells
    rw [Array.getElem?_toList, Array.getElem?_map, hzs]
    have : (Array.range (k * E.size))[i]? = some i := by rw [Array.getElem?_range]; simp [hi]
    rw [this, Option.map_some]
    rw [hz, Array.getElem?_toList] at hu
    rw [getElem!_def, hu]
  · rw [List.getElem?_eq_none (l := E.all _) (by rw [E.all_length, List.length_replicate]; omega), List.getElem?_eq_none (l := (Builtin.zeroCells z.cells k).toList) (by rw [Array.length_toList, size_zeroCells, hzs]; omega)]
/-- append of zeros where there is room. -/
theorem run_append_zeros_room {P : Program} (w : World) (t tn ty e : TypeId) (i : TypeInfo) (z : Value) (kn : IntKind) (ht : P.underlying t = some (.slice e)) (htn : P.underlying tn = some (.int kn)) (hi : P.info? e = some i) (hz : i.zero = some z) (hzs : z.cells.size = i.size)
    (base : Option Addr) (sLen sCap k : Nat) (hs : 0 < i.size) (hroom : sLen + k ≤ sCap) (hk : k ≤ 1099511627776) (h48 : k * i.bytes ≤ 281474976710656) (w' : World)
    (hst : (match base with | some a => storeCells (a.add (sLen * i.size)) (Builtin.zeroCells z.cells k).toList | none => pure ()).run P w = .ok () w') :
    (Builtin.append_ #[t, tn] ty #[.slice base sLen sCap, .int .i64 k]).run P w = .ok (.slice base (sLen + k) sCap) w' := by
  have hw : IntKind.i64.wrap (k : Int) = k := by rw [IntKind.wrap_i64]; omega
  have h48i : ¬ (281474976710656 < (k : Int) * (i.bytes : Int)) := by
    rw [← Int.natCast_mul]
    omega
  have hneg : ¬ ((k : Int) < 0) := by omega
  by_cases hns : k * i.size = 0
  · have e0 : Builtin.zeroCells z.cells k = #[] := Array.eq_empty_of_size_eq_zero (by rw [size_zeroCells, hzs]; exact hns)
    rw [e0] at hst
    cases base with
    | none =>
      simp at hst
      simp [Builtin.append_, run_underlying ht, run_underlying htn, sizeOf, typeInfo, zeroValue, hi, hz, asInt, asIntOf, hw, hroom, hneg, hns, h48i, hst]
    | some a =>
      simp at hst
      simp [Builtin.append_, run_underlying ht, run_underlying htn, sizeOf, typeInfo, zeroValue, hi, hz, asInt, asIntOf, hw, hroom, hneg, hns, h48i, hst]
  · cases base with
    | none =>
      simp at hst
      simp [Builtin.append_, run_underlying ht, run_underlying htn, sizeOf, typeInfo, zeroValue, hi, hz, asInt, asIntOf, hw, hroom, hneg, hns, h48i, hst]
    | some a =>
      simp at hst
      simp [Builtin.append_, run_underlying ht, run_underlying htn, sizeOf, typeInfo, zeroValue, hi, hz, asInt, asIntOf, hw, hroom, hneg, hns, h48i, hst]
/-- append of zeros to a row of the call's own. -/
theorem run_append_zeros (T : Ty E st t bytes) {z : Value} {zz : α} (hzi : (Try.prog.info? t).map (fun i => (i.zero, i.size, i.bytes)) = some (some z, E.size, bytes)) (hz : E.cells zz = z.cells.toList) {tn : TypeId} (htn : Try.prog.underlying tn = some (.int .i64)) (w : World) (ty : TypeId) {B : Nat} {v : Value} {xs : List α} {k : Nat} (hown : OS E t w B v xs) (hm : xs.length + k ≤ 1099511627776) (hn : (xs.length + k) * bytes ≤ 140737488355328) (hB : B ≤ w.heap.size) :
    ∃ v' w', (Builtin.append_ #[st, tn] ty #[v, .int .i64 (k : Int)]).run Try.prog w = .ok v' w' ∧ OS E t w' B v' (xs ++ List.replicate k zz) ∧ w.grownBy w' v.ownBlock := by
  obtain ⟨i0, hi0, hz0, hz1, hz2⟩ := info_parts hzi
  have hzs : z.cells.size = E.size := by rw [← E.len zz, hz]; simp
  have hpos := E.pos
  have hw : IntKind.i64.wrap (k : Int) = k := by rw [IntKind.wrap_i64]; omega
  have hneg : ¬ ((k : Int) < 0) := by omega
  have h48i : ¬ (281474976710656 < (k : Int) * (i0.bytes : Int)) := by
    rw [← Int.natCast_mul, hz2]
    have : k * bytes ≤ (xs.length + k) * bytes := Nat.mul_le_mul_right _ (by omega)
    omega
  have hall : E.all (xs ++ List.replicate k zz) = E.all xs ++ (Builtin.zeroCells z.cells k).toList := by rw [E.all_append, zero_cells hz]
  have hzl : (Builtin.zeroCells z.cells k).toList.length = k * E.size := by rw [Array.length_toList, size_zeroCells, hzs]
  have hlen : (xs ++ List.replicate k zz).length = xs.length + k := by rw [List.length_append, List.length_replicate]
  rcases hown.2 with ⟨rfl, h0⟩ | ⟨g, cap, cur, rfl, hbg, hg, hnc, hcm, hcs, htake⟩
  · by_cases hk : k = 0
    · have hx0 : xs.length = 0 := h0
      have hrun := run_append_zeros_room (P := Try.prog) w st tn ty t i0 z .i64 T.und htn hi0 hz0 (by omega) none 0 0 k (by omega) (by omega) (by omega) (by rw [hk]; simp) w (by simp)
      refine ⟨_, w, hrun, ?_, ⟨rfl, rfl, rfl, Nat.le_refl _, fun _ _ _ => rfl⟩⟩
      subst hk
      simpa using hown
    · have hx0 : xs.length = 0 := h0
      have hrun := Lib.run_append_nil_zeros (P := Try.prog) w st tn ty t i0 z .i64 .i64 T.und htn hi0 hz0 k (by omega) (by omega) (by omega) (by rw [hz2]; have : k * bytes ≤ (xs.length + k) * bytes := Nat.mul_le_mul_right _ (by omega); omega)
      have hG := grownCap_ge w k 0 t
      have hM := grownCap_le_maxLen w k 0 t (by unfold maxLen; omega)
      refine ⟨_, _, hrun, ?_, ⟨rfl, rfl, rfl, by simp, fun j hj _ => Below.heap_alloc w.drew _ j hj⟩⟩
      have hxn : xs = [] := List.eq_nil_of_length_eq_zero hx0
      subst hxn
      rw [List.nil_append]
      refine ⟨by rw [E.all_length, List.length_replicate], .inr ⟨w.heap.size, grownCap w k 0 t, _, by rw [List.length_replicate], hB, heap_alloc_new w.drew _, by rw [List.length_replicate]; exact hG, hM, ?_, ?_⟩⟩
      · rw [Array.size_append, size_zeroCells, size_zeroCells, hzs, ← Nat.add_mul, Nat.add_sub_cancel' hG]
      · rw [Array.toList_append, List.length_replicate, ← zero_cells hz, List.take_append_of_le_length (by rw [Array.length_toList, size_zeroCells, hzs]; exact Nat.le_refl _), List.take_of_length_le (by rw [Array.length_toList, size_zeroCells, hzs]; exact Nat.le_refl _)]
  · by_cases hroom : xs.length + k ≤ cap
    · have hfit : xs.length * E.size + (Builtin.zeroCells z.cells k).toList.length ≤ cur.size := by
        rw [hzl, hcs, ← Nat.add_mul]; exact Nat.mul_le_mul_right _ hroom
      have hst := run_storeCells_at Try.prog g (xs.length * E.size) t (Builtin.zeroCells z.cells k).toList 0 cur w hg (by simpa using hfit) (by rw [zero_cells hz]; exact E.all_one _)
      simp only [Nat.add_zero] at hst
      have hrun := run_append_zeros_room (P := Try.prog) w st tn ty t i0 z .i64 T.und htn hi0 hz0 (by omega) (some ⟨g, 0, none⟩) xs.length cap k (by omega) hroom (by omega) (by
        rw [hz2]; have : k * bytes ≤ (xs.length + k) * bytes := Nat.mul_le_mul_right _ (by omega)
        omega) _ (by rw [hz1]; simp only [Addr.add_lit, Nat.zero_add]; exact hst)
      refine ⟨_, _, hrun, ⟨by rw [E.all_length, List.length_append, List.length_replicate], .inr ⟨g, cap, _, by rw [hlen], hbg, setRow_heap w g cur _ t _ hg, by rw [hlen]; exact hroom, hcm, ?_, ?_⟩⟩, ?_⟩
      · rw [List.size_toArray, List.length_append, List.length_append, List.length_take, List.length_drop, hzl]
        rw [hzl] at hfit
        have hct : cur.toList.length = cur.size := Array.length_toList
        omega
      · have hl1 : (cur.toList.take (xs.length * E.size)).length = xs.length * E.size := by
          rw [htake]; exact hown.1
        rw [hall, hlen]
        show ((_ : List Value).toArray.toList).take ((xs.length + k) * E.size) = _
        simp only [List.toList_toArray]
        rw [htake, List.take_append_of_le_length (by rw [List.length_append, hzl, E.all_length, ← Nat.add_mul]; exact Nat.le_refl _), List.take_of_length_le (by rw [List.length_append, hzl, E.all_length, ← Nat.add_mul]; exact Nat.le_refl _)]
      · exact ⟨rfl, rfl, rfl, by simp, fun j _ hj => setRow_other w g j _ (fun e => hj (by simp [Value.ownBlock, e]))⟩
    · have holds : ∀ j u, (E.all xs)[j]? = some u → w.cell? ((⟨g, 0, none⟩ : Addr).add j) = some u := World.ownsRow.cells hown (g := g) rfl
      have hold := run_firstCells_some (P := Try.prog) w.drew i0.size xs.length ⟨g, 0, none⟩ xs.length cap (E.all xs) (by rw [hz1]; exact hown.1) holds
      have hk : 0 < k := by omega
      have hrun := Lib.run_append_grow_zeros (P := Try.prog) w st tn ty t i0 z .i64 .i64 T.und htn hi0 hz0 (some ⟨g, 0, none⟩) xs.length cap (E.all xs) hold k hk (by omega) (by omega) (by omega) (by rw [hz2]; have : k * bytes ≤ (xs.length + k) * bytes := Nat.mul_le_mul_right _ (by omega); omega)
        (growslice_fits (by omega) (by rw [hz2]; exact hn))
      have hge := grownCap_ge w (xs.length + k) cap t
      have hcm2 := grownCap_le_maxLen w (xs.length + k) cap t (by unfold maxLen; omega)
      refine ⟨_, _, hrun, ⟨by rw [E.all_length, List.length_append, List.length_replicate], .inr ⟨w.heap.size, _, _, by rw [hlen], hB, heap_alloc_new w.drew _, by rw [hlen]; exact hge, hcm2, ?_, ?_⟩⟩, ⟨rfl, rfl, rfl, by simp, fun j hj _ => Below.heap_alloc w.drew _ j hj⟩⟩
      · simp only [Array.size_append, List.size_toArray, size_zeroCells, hzs, E.all_length, ← Nat.add_mul]
        congr 1
        omega
      · rw [hall, hlen]
        simp only [Array.toList_append]
        rw [List.take_append_of_le_length (by rw [List.length_append, hzl, E.all_length, ← Nat.add_mul]; exact Nat.le_refl _), List.take_of_length_le (by rw [List.length_append, hzl, E.all_length, ← Nat.add_mul]; exact Nat.le_refl _)]
end
theorem step_info : (Try.prog.info? 34).map (fun i => (i.zero, i.size, i.bytes)) = some (some (.agg #[.int .i64 0, .int .i64 0]), SE.size, 16) := by kernel_rfl
set_option maxRecDepth 100000 in
set_option maxHeartbeats 2000000 in
theorem padded_any (A : Option Addr) (n c : Nat) (M : List Step) (w : World) (h : RS SE w A n M) (hn : n ≤ 4) :
    Calls Try.prog 49 #[.slice A n c] w (fun e w' => ∃ gk c', e = .returned (.slice (some ⟨gk, 0, none⟩) 4 c') ∧ 4 ≤ c' ∧ RS SE w' (some ⟨gk, 0, none⟩) 4 (pd M) ∧ Below w.heap.size w w' ∧ w.heap.size ≤ gk ∧ gk < w'.heap.size) := by
  have hl := h.len
  have kc := Lib.hid (mclone_own A n c M w h (by omega))
  have hz := Lib.hid fun w' (v : Value) (ho : OS SE 34 w' w.heap.size v M) (hB : w.heap.size ≤ w'.heap.size) ty => run_append_zeros tyS (z := .agg #[.int .i64 0, .int .i64 0]) (zz := ((0, 0) : Step)) step_info rfl Try.underlying3 w' ty (k := 4 - n) ho (by omega) (by omega) hB
  have e1 : wrap64 ((4 : Int) - (n : Int)) = ((4 - n : Nat) : Int) := by unfold wrap64; omega
  have e2 : IntKind.i64.wrap ((4 : Int) - (n : Int)) = ((4 - n : Nat) : Int) := by rw [IntWalk.i64_in _ ⟨by omega, by omega⟩]; omega
  have hpd : Hid (M ++ List.replicate (4 - n) (0, 0) = pd M) := Lib.hid (by unfold pd; rw [hl])
  have hpl : Hid ((pd M).length = 4) := Lib.hid (pd_len (by omega))
  replace hl := Lib.hid hl
  go_enter Try.func49, Try.ntmps49
  go_wp2_with fail
  (with_reducible refine (kc.out).mono ?_)
  rintro e w1 ⟨v, rfl, ho, hb⟩
  obtain ⟨v2, w2, hrun, ho2, hg2⟩ := hz.out w1 v ho hb.size 29
  rw [hpd.out] at ho2
  have hbl := ho2.block_lt
  have hown := ho2.2
  obtain ⟨A2, n2, c2, rfl, hn2, hc2, -, hr2, hf2⟩ := ho2.form
  obtain rfl : n2 = 4 := by rw [hn2]; exact hpl.out
  obtain ⟨gk, rfl⟩ : ∃ gk, A2 = some ⟨gk, 0, none⟩ := by
    rcases hown with ⟨h1, h2⟩ | ⟨gk, cap, cur, h1, _⟩
    · have := hpl.out; omega
    · injection h1 with h1; exact ⟨gk, h1⟩
  have hb2 := hb.grown hg2 hb.size (fun k hk => (ho.block_lt k hk).1)
  obtain ⟨hfd, hfe⟩ := hbl gk rfl
  clear hz hpd hpl ho2 hn2 hf2 hbl hown
  go_wp2_with (at_builtin; (go_loud (refine Lib.wpList_append_run _ rfl _ _ _ _ rfl _ _ rfl rfl _ _ hrun ?_)))
  go_ret
  exact ⟨gk, c2, rfl, hc2, hr2, hb2, hfd, hfe⟩
end Go.Proofs.Ytkcmbpokoijglaa

/- A map of the call's own, keyed by arrays of eight numbers: look-up, entry, store. -/
set_option linter.unusedVariables false
set_option linter.unusedSimpArgs false
namespace Go.Proofs.Ytkcmbpokoijglaa
open Go.RowKit CoMot Go.MapKept
open Go.Maps (Keyed)

/-- The value of a key. -/
def kv (X : List Int) : Value := .agg (X.map (Value.int .i64)).toArray
def OKK (X : List Int) : Prop := X.length = 8 ∧ ∀ x ∈ X, 0 ≤ x ∧ x < 100
theorem kv_inj {X Y : List Int} (h : kv X = kv Y) : X = Y := by
  unfold kv at h
  injection h with h
  have h1 : X.map (Value.int .i64) = Y.map (Value.int .i64) := by simpa using congrArg Array.toList h
  induction X generalizing Y with
  | nil => cases Y with
    | nil => rfl
    | cons y Y => cases h1
  | cons x X ih => cases Y with
    | nil => cases h1
    | cons y Y =>
      injection h1 with h2 h3
      injection h2 with _ h2
      rw [h2, ih (by rw [h3]) h3]
theorem lawK : Keyed Try.prog 80 := Keyed.of_law (deep_law_laid (by kernel_rfl) (m := 3) (by omega) (of_decide_eq_true (by kernel_rfl)) (by kernel_rfl) (by rw [Try.underlying80]))
theorem key_of {X : List Int} (h : OKK X) : ∃ l, keyOf Try.prog 80 (kv X) = some l := by
  obtain ⟨hl, hb⟩ := h
  match X, hl with
  | [x0, x1, x2, x3, x4, x5, x6, x7], _ =>
    have w : ∀ x ∈ [x0, x1, x2, x3, x4, x5, x6, x7], (Lit.int .i64 x).wf = true := fun x hx => WalkArith.wf_i64 (by have := hb x hx; omega)
    have w0 := w x0 (by simp)
    have w1 := w x1 (by simp)
    have w2 := w x2 (by simp)
    have w3 := w x3 (by simp)
    have w4 := w x4 (by simp)
    have w5 := w x5 (by simp)
    have w6 := w x6 (by simp)
    have w7 := w x7 (by simp)
    have hks : Try.prog.keyType 80 = true := by kernel_rfl
    have hce : Try.prog.cellsOf 80 = 8 := by kernel_rfl
    have hc2 : Try.prog.cellsOf 34 = 2 := by kernel_rfl
    have hc1 : Try.prog.cellsOf 3 = 1 := by kernel_rfl
    have hf : (kv [x0, x1, x2, x3, x4, x5, x6, x7]).formed Try.prog 80 = true := by simp [kv, Value.formed, Try.underlying80, hce]
    obtain ⟨m, hm⟩ : ∃ m, Try.prog.types.size + 1 = m + 3 := ⟨Try.prog.types.size - 2, by have : 2 ≤ Try.prog.types.size := of_decide_eq_true (by kernel_rfl); omega⟩
    have hint : ∀ x, (Lit.int .i64 x).wf = true → Try.prog.keyLits (m + 1) 3 [.int .i64 x] = some [.int .i64 x] := fun x hx => by simp [Program.keyLits, Try.underlying3, hx]
    have harr : ∀ x y, (Lit.int .i64 x).wf = true → (Lit.int .i64 y).wf = true → Try.prog.keyLits (m + 2) 34 [.int .i64 x, .int .i64 y] = some [.int .i64 x, .int .i64 y] := fun x y hx hy => by
      rw [show m + 2 = (m + 1) + 1 from rfl]
      unfold Program.keyLits
      simp [Try.underlying34, hc2, hc1, List.range_succ, hint x hx, hint y hy]
    have hk : Try.prog.keyLits (m + 3) 80 (kv [x0, x1, x2, x3, x4, x5, x6, x7]).cells.toList = some [.int .i64 x0, .int .i64 x1, .int .i64 x2, .int .i64 x3, .int .i64 x4, .int .i64 x5, .int .i64 x6, .int .i64 x7] := by
      rw [show m + 3 = (m + 2) + 1 from rfl]
      unfold Program.keyLits
      simp [Try.underlying80, hce, hc2, List.range_succ, kv, Value.cells, harr _ _ w0 w1, harr _ _ w2 w3, harr _ _ w4 w5, harr _ _ w6 w7]
    refine ⟨.string (keyBytes [.int .i64 x0, .int .i64 x1, .int .i64 x2, .int .i64 x3, .int .i64 x4, .int .i64 x5, .int .i64 x6, .int .i64 x7]), ?_⟩
    unfold keyOf
    simp only [Try.underlying80, hks, hf, hm, Bool.and_true, if_true, hk, Option.map_some]
theorem gob {W : World} {r : Nat} {es : Array MapEntry} {cl : Nat} (hb : W.heap[r]? = some (.map es cl)) : (getObj r).run Try.prog W = .ok (.map es cl) W := by simp [getObj, Sem.run, hb]
theorem sob {W : World} {r : Nat} {es : Array MapEntry} {cl : Nat} (o' : Obj) (hb : W.heap[r]? = some (.map es cl)) : (setObj r o').run Try.prog W = .ok () { W with heap := W.heap.setIfInBounds r o' } := by simp [setObj, Sem.run, hb]

/-- An entry of the map: its key, its number, its birth. -/
def ent (p : List Int × Int × Nat) : MapEntry := { key := kv p.1, val := .int .i64 p.2.1, born := p.2.2 }
structure MB (W : World) (g : Nat) (E : List (List Int × Int × Nat)) (clock : Nat) : Prop where
  blk : W.heap[g]? = some (.map (E.map ent).toArray clock)
  ok : ∀ p ∈ E, OKK p.1
  nd : (E.map (·.1)).Nodup
  bn : (E.map (·.2.2)).Nodup
  lt : ∀ p ∈ E, p.2.2 < clock
def valOf (E : List (List Int × Int × Nat)) (X : List Int) : Int := ((E.find? (fun p => decide (p.1 = X))).map (·.2.1)).getD 0
theorem valOf_mem {E : List (List Int × Int × Nat)} (hn : (E.map (·.1)).Nodup) {p : List Int × Int × Nat} (hp : p ∈ E) : valOf E p.1 = p.2.1 := by
  unfold valOf
  induction E with
  | nil => cases hp
  | cons q E ih =>
    rw [List.map_cons, List.nodup_cons] at hn
    rw [List.find?_cons]
    by_cases hq : q.1 = p.1
    · rw [decide_eq_true hq]
      rcases List.mem_cons.1 hp with rfl | hp
      · rfl
      · exact absurd (List.mem_map.2 ⟨p, hp, hq.symm⟩) hn.1
    · rw [decide_eq_false hq]
      rcases List.mem_cons.1 hp with rfl | hp
      · exact absurd rfl hq
      · exact ih hn.2 hp
theorem valOf_not {E : List (List Int × Int × Nat)} {X : List Int} (h : ∀ p ∈ E, p.1 ≠ X) : valOf E X = 0 := by
  unfold valOf
  rw [List.find?_eq_none.2 (fun p hp => by simpa using h p hp)]; rfl
section
variable {W : World} {g clock : Nat} {E : List (List Int × Int × Nat)}
theorem MB.find (h : MB W g E clock) (W' : World) {X : List Int} (hX : OKK X) :
    ((Instr.findKey 80 (kv X) (E.map ent)).run Try.prog W' = .ok none W' ∧ ∀ p ∈ E, p.1 ≠ X) ∨ ∃ j p, (Instr.findKey 80 (kv X) (E.map ent)).run Try.prog W' = .ok (some (j, .int .i64 p.2.1)) W' ∧ E[j]? = some p ∧ p.1 = X := by
  obtain ⟨l, hl⟩ := key_of hX
  rcases lawK.find W' hl (E.map ent) (fun e he => by
    obtain ⟨p, hp, rfl⟩ := List.mem_map.1 he
    exact key_of (h.ok p hp)) with ⟨h1, h2⟩ | ⟨j, e, h1, h2, h3⟩
  · exact .inl ⟨h1, fun p hp hx => h2 (ent p) (List.mem_map.2 ⟨p, hp, rfl⟩) (by rw [← hx]; rfl)⟩
  · rw [List.getElem?_map] at h2
    cases hj : E[j]? with
    | none => rw [hj] at h2; cases h2
    | some p =>
      rw [hj] at h2
      injection h2 with h2
      subst h2
      exact .inr ⟨j, p, h1, hj, kv_inj h3⟩
theorem map_und : Try.prog.underlying 78 = some (.map 80 3) := Try.underlying78
theorem zero_int (w : World) : (zeroValue 3).run Try.prog w = .ok (.int .i64 0) w := by kernel_rfl
/-- The number at a key. -/
theorem MB.look (h : MB W g E clock) {X : List Int} (hX : OKK X) : (Instr.lookup 78 (.map (some g)) (kv X) false).run Try.prog W = .ok (.int .i64 (valOf E X)) W := by
  obtain ⟨l, hl⟩ := key_of hX
  rcases h.find W hX with ⟨h1, h2⟩ | ⟨j, p, h1, h2, h3⟩
  · rw [valOf_not h2]
    simp [Instr.lookup, run_underlying map_und, gob h.blk, lawK.check W _ hl, h1, zero_int]
  · subst h3
    rw [valOf_mem h.nd (List.mem_of_getElem? h2)]
    simp [Instr.lookup, run_underlying map_und, gob h.blk, lawK.check W _ hl, h1]
theorem same_setObj {W : World} {g : Nat} (o : Obj) : Same (fun k => k = g) W { W with heap := W.heap.setIfInBounds g o } :=
  ⟨rfl, rfl, rfl, by simp, fun k hk hn => by simp [Ne.symm (show k ≠ g from hn)]⟩
/-- The map says what F says. -/
def MF (W : World) (g : Nat) (F : List Int → Int) : Prop := ∃ E clock, MB W g E clock ∧ ∀ X, valOf E X = F X
/-- The same, and there is an entry of X that was born then. -/
def MFe (W : World) (g : Nat) (F : List Int → Int) (X : List Int) (b : Nat) : Prop := ∃ E clock, MB W g E clock ∧ (∀ Y, valOf E Y = F Y) ∧ ∃ v, (X, v, b) ∈ E
theorem MF.look {F : List Int → Int} (h : MF W g F) {X : List Int} (hX : OKK X) : (Instr.lookup 78 (.map (some g)) (kv X) false).run Try.prog W = .ok (.int .i64 (F X)) W := by
  obtain ⟨E, clock, h1, h2⟩ := h
  rw [← h2]; exact h1.look hX
/-- The entry of a key. -/
theorem MF.entry {F : List Int → Int} (h : MF W g F) {X : List Int} (hX : OKK X) : ∃ (v : Value) (b : Nat) (W' : World), (Instr.mapEntry 78 (.map (some g)) (kv X)).run Try.prog W = .ok (.tuple #[v, .int .i64 (b : Int)]) W' ∧ MFe W' g F X b ∧ Same (fun k => k = g) W W' := by
  obtain ⟨E, clock, h0, hF⟩ := h
  obtain ⟨l, hl⟩ := key_of hX
  rcases h0.find W hX with ⟨h1, h2⟩ | ⟨j, p, h1, h2, h3⟩
  · refine ⟨.int .i64 0, clock, { W with heap := W.heap.setIfInBounds g (.map ((E ++ [(X, 0, clock)]).map ent).toArray (clock + 1)) }, ?_, ⟨E ++ [(X, 0, clock)], clock + 1, ⟨(MapKept.heap_set h0.blk).1, ?_, ?_, ?_, ?_⟩, ?_, 0, by simp⟩, same_setObj _⟩
    · simp [Instr.mapEntry, run_underlying map_und, gob h0.blk, lawK.check W _ hl, h1, zero_int, goInt, sob _ h0.blk, ent]
    · intro q hq
      rcases List.mem_append.1 hq with hq | hq
      · exact h0.ok q hq
      · rw [List.mem_singleton] at hq; rw [hq]; exact hX
    · rw [List.map_append, List.nodup_append]
      refine ⟨h0.nd, by simp, fun a ha b hb => ?_⟩
      simp at hb
      subst hb
      obtain ⟨q, hq, rfl⟩ := List.mem_map.1 ha
      exact h2 q hq
    · rw [List.map_append, List.nodup_append]
      refine ⟨h0.bn, by simp, fun a ha b hb => ?_⟩
      simp at hb
      subst hb
      obtain ⟨q, hq, rfl⟩ := List.mem_map.1 ha
      have := h0.lt q hq
      omega
    · intro q hq
      rcases List.mem_append.1 hq with hq | hq
      · exact Nat.lt_succ_of_lt (h0.lt q hq)
      · rw [List.mem_singleton] at hq; rw [hq]; exact Nat.lt_succ_self _
    · intro Y
      rw [← hF Y]
      unfold valOf
      rw [List.find?_append]
      cases hf : E.find? (fun p => decide (p.1 = Y)) with
      | some q => rfl
      | none =>
        by_cases hy : X = Y
        · simp [hy]
        · simp [hy]
  · subst h3
    have hm := List.mem_of_getElem? h2
    refine ⟨.int .i64 p.2.1, p.2.2, { W with heap := W.heap.setIfInBounds g (.map (E.map ent).toArray clock) }, ?_, ⟨E, clock, ⟨(MapKept.heap_set h0.blk).1, h0.ok, h0.nd, h0.bn, h0.lt⟩, hF, p.2.1, hm⟩, same_setObj _⟩
    have hj : (E.map ent).toArray[j]? = some (ent p) := by simp [h2]
    have he : (E.map ent).toArray.modify j (fun e => { e with key := kv p.1 }) = (E.map ent).toArray := by
      apply Array.ext_getElem?
      intro i
      rw [Array.getElem?_modify]
      by_cases hi : j = i
      · subst hi; rw [if_pos rfl, hj]; rfl
      · rw [if_neg hi]
    have hk1 : ((E.map ent).toArray[j]?.map (·.key)).getD (kv p.1) = kv p.1 := by rw [hj]; rfl
    have hk2 : ((E.map ent).toArray[j]?.map (·.born)).getD 0 = p.2.2 := by rw [hj]; rfl
    generalize hes : (E.map ent).toArray = es at *
    have h1' : (Instr.findKey 80 (kv p.1) es.toList).run Try.prog W = .ok (some (j, .int .i64 p.2.1)) W := by rw [← hes]; simpa using h1
    have hb := h0.blk
    rw [hes] at hb
    simp only [Instr.mapEntry, Sem.run_bind, run_underlying map_und, gob hb, lawK.check W _ hl, h1', Result.andThen_ok, hk1, hk2, lawK.stays W hl, he, sob _ hb, goInt, Sem.run_pure]
    rw [hj]; rfl
/-- One number is another one. -/
def upF (F : List Int → Int) (X : List Int) (v : Int) : List Int → Int := fun Y => if Y = X then v else F Y
/-- A store at an entry. -/
theorem MFe.store {F : List Int → Int} {X : List Int} {b : Nat} (h : MFe W g F X b) (v : Int) : ∃ W', (Instr.entryStore 78 (.map (some g)) (.int .i64 (b : Int)) (.int .i64 v)).run Try.prog W = .ok () W' ∧ MF W' g (upF F X v) ∧ Same (fun k => k = g) W W' := by
  obtain ⟨E, clock, h0, hF, v0, hm⟩ := h
  obtain ⟨j, hj⟩ := List.mem_iff_getElem?.1 hm
  have hlt := (List.getElem?_eq_some_iff.1 hj).1
  have hje := (List.getElem?_eq_some_iff.1 hj).2
  have hbj : ∀ i q, E[i]? = some q → (q.2.2 = b ↔ i = j) := fun i q hi => by
    constructor
    · intro hq
      have h1 : (E.map (·.2.2))[i]? = some b := by rw [List.getElem?_map, hi, ← hq]; rfl
      have h2 : (E.map (·.2.2))[j]? = some b := by rw [List.getElem?_map, hj]; rfl
      exact (List.getElem?_inj (by rw [List.length_map]; exact (List.getElem?_eq_some_iff.1 hi).1) h0.bn).1 (h1.trans h2.symm)
    · intro hij
      subst hij
      rw [hj] at hi; injection hi with hi; rw [← hi]
  have hE' : ∀ i q, E[i]? = some q → (E.set j (X, v, b))[i]? = some (if i = j then (X, v, b) else q) := fun i q hi => by
    rw [List.getElem?_set]
    by_cases hij : j = i
    · subst hij; simp [hlt]
    · rw [if_neg hij, if_neg (fun e => hij e.symm)]; exact hi
  have hkeys : (E.set j (X, v, b)).map (·.1) = E.map (·.1) := by
    apply List.ext_getElem?
    intro i
    rw [List.getElem?_map, List.getElem?_map, List.getElem?_set]
    by_cases hij : j = i
    · subst hij; simp [hlt, hje]
    · rw [if_neg hij]
  have hborn : (E.set j (X, v, b)).map (·.2.2) = E.map (·.2.2) := by
    apply List.ext_getElem?
    intro i
    rw [List.getElem?_map, List.getElem?_map, List.getElem?_set]
    by_cases hij : j = i
    · subst hij; simp [hlt, hje]
    · rw [if_neg hij]
  have hfind : (E.map ent).toArray.findIdx? (fun e => (e.born : Int) == (b : Int)) = some j := by
    rw [List.findIdx?_toArray, List.findIdx?_map, List.findIdx?_eq_some_iff_getElem]
    obtain ⟨hjl, hje⟩ := List.getElem?_eq_some_iff.1 hj
    refine ⟨hjl, by simp [ent, hje], fun i hi => ?_⟩
    have := hbj i _ (List.getElem?_eq_getElem (by omega))
    simp only [Function.comp_apply, ent, beq_iff_eq]
    omega
  have hmod : (E.map ent).toArray.modify j (fun e => { e with val := .int .i64 v }) = ((E.set j (X, v, b)).map ent).toArray := by
    apply Array.ext_getElem?
    intro i
    rw [Array.getElem?_modify]
    simp only [List.getElem?_toArray, List.getElem?_map, List.getElem?_set]
    by_cases hij : j = i
    · subst hij; simp [hlt, hje, ent]
    · simp [hij]
  refine ⟨{ W with heap := W.heap.setIfInBounds g (.map ((E.set j (X, v, b)).map ent).toArray clock) }, ?_, ⟨E.set j (X, v, b), clock, ⟨(MapKept.heap_set h0.blk).1, ?_, by rw [hkeys]; exact h0.nd, by rw [hborn]; exact h0.bn, ?_⟩, fun Y => ?_⟩, same_setObj _⟩
  · simp only [Instr.entryStore, Sem.run_bind, gob h0.blk, Result.andThen_ok, asInt, asIntOf, Sem.run_pure, hfind, hmod, sob _ h0.blk]
  · intro q hq
    obtain ⟨i, hi⟩ := List.mem_iff_getElem?.1 hq
    have hil : i < E.length := by have := (List.getElem?_eq_some_iff.1 hi).1; simpa using this
    rw [hE' i _ (List.getElem?_eq_getElem hil)] at hi
    injection hi with hi
    rw [← hi]
    split
    · exact h0.ok (X, v0, b) hm
    · exact h0.ok _ (List.getElem_mem _)
  · intro q hq
    obtain ⟨i, hi⟩ := List.mem_iff_getElem?.1 hq
    have hil : i < E.length := by have := (List.getElem?_eq_some_iff.1 hi).1; simpa using this
    rw [hE' i _ (List.getElem?_eq_getElem hil)] at hi
    injection hi with hi
    rw [← hi]
    split
    · exact h0.lt (X, v0, b) hm
    · exact h0.lt _ (List.getElem_mem _)
  · have hnd' : ((E.set j (X, v, b)).map (·.1)).Nodup := by rw [hkeys]; exact h0.nd
    have hmX : (X, v, b) ∈ E.set j (X, v, b) := List.mem_iff_getElem?.2 ⟨j, by rw [hE' j _ hj, if_pos rfl]⟩
    unfold upF
    by_cases hY : Y = X
    · rw [if_pos hY, hY]
      exact valOf_mem hnd' hmX
    · rw [if_neg hY, ← hF Y]
      by_cases hex : ∃ p ∈ E, p.1 = Y
      · obtain ⟨p, hp, hpY⟩ := hex
        have hp2 : p ∈ E.set j (X, v, b) := by
          obtain ⟨i, hi⟩ := List.mem_iff_getElem?.1 hp
          refine List.mem_iff_getElem?.2 ⟨i, ?_⟩
          rw [hE' i _ hi, if_neg]
          intro hij
          subst hij
          rw [hj] at hi; injection hi with hi
          rw [← hi] at hpY
          exact hY hpY.symm
        rw [← hpY, valOf_mem hnd' hp2, valOf_mem h0.nd hp]
      · have hn : ∀ p ∈ E, p.1 ≠ Y := fun p hp e => hex ⟨p, hp, e⟩
        rw [valOf_not hn, valOf_not]
        intro q hq he
        have : q.1 ∈ (E.set j (X, v, b)).map (·.1) := List.mem_map.2 ⟨q, hq, rfl⟩
        rw [hkeys] at this
        obtain ⟨p, hp, hpq⟩ := List.mem_map.1 this
        exact hn p hp (hpq.trans he)
theorem MFe.mf {F : List Int → Int} {X : List Int} {b : Nat} (h : MFe W g F X b) : MF W g F := by
  obtain ⟨E, clock, h0, hF, _⟩ := h
  exact ⟨E, clock, h0, hF⟩
theorem MF.made (W : World) : MF (W.alloc (.map #[] 0)) W.heap.size (fun _ => 0) :=
  ⟨[], 0, ⟨heap_alloc_new W _, by simp, by simp, by simp, by simp⟩, fun X => rfl⟩
theorem MF.keep {W' : World} {ex : Nat → Prop} {F : List Int → Int} (h : MF W g F) (hs : Same ex W W') (hg : ¬ ex g) : MF W' g F := by
  obtain ⟨E, clock, h0, hF⟩ := h
  exact ⟨E, clock, ⟨(hs.block g (Array.getElem?_eq_some_iff.1 h0.blk).1 hg).trans h0.blk, h0.ok, h0.nd, h0.bn, h0.lt⟩, hF⟩
theorem MFe.keep {W' : World} {ex : Nat → Prop} {F : List Int → Int} {X : List Int} {b : Nat} (h : MFe W g F X b) (hs : Same ex W W') (hg : ¬ ex g) : MFe W' g F X b := by
  obtain ⟨E, clock, h0, hF, hv⟩ := h
  exact ⟨E, clock, ⟨(hs.block g (Array.getElem?_eq_some_iff.1 h0.blk).1 hg).trans h0.blk, h0.ok, h0.nd, h0.bn, h0.lt⟩, hF, hv⟩
theorem MF.lt {F : List Int → Int} (h : MF W g F) : g < W.heap.size := by
  obtain ⟨E, clock, h0, hF⟩ := h
  exact (Array.getElem?_eq_some_iff.1 h0.blk).1
end
end Go.Proofs.Ytkcmbpokoijglaa

/- motifs.Spectrum: the function that counts in the map. -/
set_option linter.unusedVariables false
set_option linter.unusedSimpArgs false
namespace CoMot
/-- The eight numbers of a motif's key. -/
def k8 (M : List Step) : List Int := (pd M).flatMap fun s => [s.1, s.2]
theorem k8_inj {M N : List Step} (hl : M.length = N.length) (h : k8 M = k8 N) : M = N := by
  refine pd_inj hl ?_
  unfold k8 at h
  have : ∀ a b : List Step, a.flatMap (fun s => [s.1, s.2]) = b.flatMap (fun s => [s.1, s.2]) → a = b := by
    intro a
    induction a with
    | nil => intro b h; cases b with
      | nil => rfl
      | cons y b => simp at h
    | cons x a ih => intro b h; cases b with
      | nil => simp at h
      | cons y b =>
        simp only [List.flatMap_cons, List.cons_append, List.nil_append] at h
        injection h with h1 h; injection h with h2 h
        rw [ih b h]
        exact congrArg (· :: b) (Prod.ext h1 h2)
  exact this _ _ h
end CoMot
namespace Go.Proofs.Ytkcmbpokoijglaa
open Go.RowKit CoMot

theorem wrap_eq (a : Int) : IntKind.i64.wrap a = wrap64 a := IntWalk.i64_left a
theorem key_cells {w : World} {gk : Nat} {M : List Step} (hM : M.length ≤ 4) (h : RS SE w (some ⟨gk, 0, none⟩) 4 (pd M)) : ∃ a0 a1 a2 a3 a4 a5 a6 a7, k8 M = [a0, a1, a2, a3, a4, a5, a6, a7] ∧
    w.cell? ⟨gk, 0, none⟩ = some (.int .i64 a0) ∧ w.cell? ⟨gk, 1, none⟩ = some (.int .i64 a1) ∧ w.cell? ⟨gk, 2, none⟩ = some (.int .i64 a2) ∧ w.cell? ⟨gk, 3, none⟩ = some (.int .i64 a3) ∧
    w.cell? ⟨gk, 4, none⟩ = some (.int .i64 a4) ∧ w.cell? ⟨gk, 5, none⟩ = some (.int .i64 a5) ∧ w.cell? ⟨gk, 6, none⟩ = some (.int .i64 a6) ∧ w.cell? ⟨gk, 7, none⟩ = some (.int .i64 a7) := by
  obtain ⟨ad, he, hb, hc⟩ := h.2 (by omega)
  injection he with he
  subst he
  have hl := pd_len hM
  match hp : pd M, hl with
  | [(a0, a1), (a2, a3), (a4, a5), (a6, a7)], _ =>
    rw [hp] at hc
    have hadd : ∀ j, (⟨gk, 0, none⟩ : Addr).add j = ⟨gk, j, none⟩ := fun j => by unfold Addr.add; split <;> simp_all
    refine ⟨a0, a1, a2, a3, a4, a5, a6, a7, by unfold k8; rw [hp]; rfl, ?_, ?_, ?_, ?_, ?_, ?_, ?_, ?_⟩
    · rw [← hadd]; exact hc 0 _ rfl
    · rw [← hadd]; exact hc 1 _ rfl
    · rw [← hadd]; exact hc 2 _ rfl
    · rw [← hadd]; exact hc 3 _ rfl
    · rw [← hadd]; exact hc 4 _ rfl
    · rw [← hadd]; exact hc 5 _ rfl
    · rw [← hadd]; exact hc 6 _ rfl
    · rw [← hadd]; exact hc 7 _ rfl
set_option maxRecDepth 100000 in
set_option maxHeartbeats 4000000 in
theorem spec2_any (gb g : Nat) (F : List Int → Int) (A : Option Addr) (n c : Nat) (M : List Step) (u : Value) (W : World) (h : RS SE W A n M) (hn : n ≤ 4) (hB : Blk W gb 78 #[.map (some g)]) (hF : MF W g F) (hX : OKK (k8 M)) (hgb : gb ≠ g) :
    Calls Try.prog 48 #[u, .slice A n c, .pointer (some ⟨gb, 0, none⟩)] W fun e w' => e = .returned (.bool true) ∧ MF w' g (upF F (k8 M) (wrap64 (F (k8 M) + 1))) ∧ Same (fun k => k = g) W w' := by
  have kp := Lib.hid fun w h => padded_any A n c M w h hn
  have c1 := Blk.cell hB 0
  simp at c1
  go_enter Try.func48, Try.ntmps48
  go_wp2_with fail
  refine wp_region_noPanic ?_
  obtain ⟨TT, hTT⟩ : ∃ TT : Nat → World → Prop, ∀ j w', TT j w' ↔ (j = 9 ∨ (w'.cell? ⟨gb, 0, none⟩ = some (.map (some g)) ∧ (Instr.lookup 78 (.map (some g)) (kv (k8 M)) false).run Try.prog w' = .ok (.int .i64 (F (k8 M))) w')) := ⟨fun j w' => _, fun _ _ => Iff.rfl⟩
  replace hTT := Lib.hid hTT
  have hgl := hB.lt
  have hml := hF.lt
  have hFd : MF W.drew g F := hF.keep ((Same.refl (fun _ => False) W).drew) (fun h => h)
  have hkeep : Hid (∀ w', Same (fun k => k = g) W w' → w'.cell? ⟨gb, 0, none⟩ = some (.map (some g))) := Lib.hid fun w' hs => hs.cell (p := ⟨gb, 0, none⟩) hgl hgb c1
  have hS0 : Same (fun k => k = g) W W := Same.refl _ _
  refine wp_region_T (T := TT) (by kernel_rfl) ?_
  have c2 := hkeep.out W.drew hS0.drew
  refine wpAnyT_take (i := 0) (S := fun w' => w'.cell? ⟨gb, 0, none⟩ = some (.map (some g)) ∧ (Instr.lookup 78 (.map (some g)) (kv (k8 M)) false).run Try.prog w' = .ok (.int .i64 (F (k8 M))) w') (v := .map (some g)) rfl (by kernel_rfl) (by kernel_rfl) (by kernel_rfl) (fun _ _ _ h => h) (fun w' h => (hTT.out _ _).2 (.inr h)) (fun j oj hoj hji hun hno w' hT => ?_) (Or.inl ⟨by rfl, ?_⟩) ⟨c2, hFd.look hX⟩ ?_
  case refine_1 =>
    rcases (hTT.out _ _).1 hT with h9 | h9
    · subst h9
      obtain rfl := Option.some.inj hoj
      exact ((hno ⟨0, .phase⟩ (by simp) rfl) rfl).elim
    · exact h9
  case refine_2 =>
    intro w' hS
    obtain ⟨hS1, -⟩ := hS
    go_simp
  (try simp only [Act.put, List.setIfInBounds_toArray, List.set_cons_zero, List.set_cons_succ])
  refine wpAnyT_ready (rs := [1]) (by kernel_rfl) (by simp) ?_
  intro j hj; rw [List.mem_singleton] at hj; subst hj
  refine wpOpT_step (by rfl) (fun K hK => ?_)
  go_simp
  refine hK.out _ _ ((hTT.out _ _).2 (.inr ⟨c2, hFd.look hX⟩)) ?_
  clear hK K
  (try simp only [Act.put, List.setIfInBounds_toArray, List.set_cons_zero, List.set_cons_succ])
  refine wpAnyT_ready (rs := [2]) (by kernel_rfl) (by simp) ?_
  intro j hj; rw [List.mem_singleton] at hj; subst hj
  refine wpOpT_step (by rfl) (fun K hK => ?_)
  go_simp
  (with_reducible refine (kp.out _ h.drew).mono ?_)
  rintro e w1 ⟨gk, c', rfl, hc', hr', hb', hk1, hk2⟩
  have hS1 : Same (fun k => k = g) W w1 := hS0.drew.trans (Same.of_below hb' (Nat.le_refl _) _) (fun _ _ h => h)
  have hF1 : MF w1 g F := hFd.keep (Same.of_below hb' (Nat.le_refl _) (fun _ => False)) (fun h => h)
  have d1 := hkeep.out w1 hS1
  obtain ⟨a0, a1, a2, a3, a4, a5, a6, a7, hk8, q0, q1, q2, q3, q4, q5, q6, q7⟩ := key_cells (by rw [h.len]; exact hn) hr'
  have hkv : Hid (kv (k8 M) = .agg #[.int .i64 a0, .int .i64 a1, .int .i64 a2, .int .i64 a3, .int .i64 a4, .int .i64 a5, .int .i64 a6, .int .i64 a7]) := Lib.hid (by rw [hk8]; rfl)
  replace hk8 := Lib.hid hk8
  refine hK.out _ _ ((hTT.out _ _).2 (.inr ⟨d1, hF1.look hX⟩)) ?_
  clear hK K c2 hFd
  (try simp only [Act.put, List.setIfInBounds_toArray, List.set_cons_zero, List.set_cons_succ])
  refine wpAnyT_ready (rs := [3]) (by kernel_rfl) (by simp) ?_
  intro j hj; rw [List.mem_singleton] at hj; subst hj
  refine wpOpT_step (by rfl) (fun K hK => ?_)
  go_simp
  refine hK.out _ _ ((hTT.out _ _).2 (.inr ⟨d1, hF1.look hX⟩)) ?_
  clear hK K
  (try simp only [Act.put, List.setIfInBounds_toArray, List.set_cons_zero, List.set_cons_succ])
  refine wpAnyT_ready (rs := [4]) (by kernel_rfl) (by simp) ?_
  intro j hj; rw [List.mem_singleton] at hj; subst hj
  refine wpOpT_step (by rfl) (fun K hK => ?_)
  go_simp
  refine hK.out _ _ ((hTT.out _ _).2 (.inr ⟨d1, hF1.look hX⟩)) ?_
  clear hK K
  (try simp only [Act.put, List.setIfInBounds_toArray, List.set_cons_zero, List.set_cons_succ])
  refine wpAnyT_take (i := 5) (S := fun w' => w'.cell? ⟨gb, 0, none⟩ = some (.map (some g)) ∧ (Instr.lookup 78 (.map (some g)) (kv (k8 M)) false).run Try.prog w' = .ok (.int .i64 (F (k8 M))) w') (v := .int .i64 (F (k8 M))) rfl (by kernel_rfl) (by kernel_rfl) (by kernel_rfl) (fun _ _ _ h => h) (fun w' h => (hTT.out _ _).2 (.inr h)) (fun j oj hoj hji hun hno w' hT => ?_) (Or.inl ⟨by rfl, ?_⟩) ⟨d1, hF1.look hX⟩ ?_
  case refine_1 =>
    rcases (hTT.out _ _).1 hT with h9 | h9
    · subst h9
      obtain rfl := Option.some.inj hoj
      exact ((hno ⟨5, .phase⟩ (by simp) rfl) rfl).elim
    · exact h9
  case refine_2 =>
    intro w' hS
    obtain ⟨-, hS2⟩ := hS
    rw [hkv.out] at hS2
    go_simp
  (try simp only [Act.put, List.setIfInBounds_toArray, List.set_cons_zero, List.set_cons_succ])
  refine wpAnyT_take (i := 6) (S := fun w' => w'.cell? ⟨gb, 0, none⟩ = some (.map (some g)) ∧ (Instr.lookup 78 (.map (some g)) (kv (k8 M)) false).run Try.prog w' = .ok (.int .i64 (F (k8 M))) w') (v := .int .i64 (wrap64 (F (k8 M) + 1))) rfl (by kernel_rfl) (by kernel_rfl) (by kernel_rfl) (fun _ _ _ h => h) (fun w' h => (hTT.out _ _).2 (.inr h)) (fun j oj hoj hji hun hno w' hT => ?_) (Or.inl ⟨by rfl, ?_⟩) ⟨d1, hF1.look hX⟩ ?_
  case refine_1 =>
    rcases (hTT.out _ _).1 hT with h9 | h9
    · subst h9
      obtain rfl := Option.some.inj hoj
      exact ((hno ⟨6, .phase⟩ (by simp) rfl) rfl).elim
    · exact h9
  case refine_2 =>
    intro w' hS
    clear hS
    go_simp
    exact wrap_eq _
  (try simp only [Act.put, List.setIfInBounds_toArray, List.set_cons_zero, List.set_cons_succ])
  obtain ⟨v0, b, w2, hrun, hFe, hs2⟩ := hF1.entry hX
  have hS2 := hS1.trans hs2 (fun _ _ h => h)
  have d2 := hkeep.out w2 hS2
  rw [hkv.out] at hrun
  refine wpAnyT_ready (rs := [7]) (by kernel_rfl) (by simp) ?_
  intro j hj; rw [List.mem_singleton] at hj; subst hj
  refine wpOpT_step (by rfl) (fun K hK => ?_)
  go_simp
  refine hK.out _ _ ((hTT.out _ _).2 (.inr ⟨d2, hFe.mf.look hX⟩)) ?_
  clear hK K hrun
  (try simp only [Act.put, List.setIfInBounds_toArray, List.set_cons_zero, List.set_cons_succ])
  refine wpAnyT_ready (rs := [8]) (by kernel_rfl) (by simp) ?_
  intro j hj; rw [List.mem_singleton] at hj; subst hj
  refine wpOpT_step (by rfl) (fun K hK => ?_)
  go_simp
  refine hK.out _ _ ((hTT.out _ _).2 (.inr ⟨d2, hFe.mf.look hX⟩)) ?_
  clear hK K
  (try simp only [Act.put, List.setIfInBounds_toArray, List.set_cons_zero, List.set_cons_succ])
  obtain ⟨w3, hrun3, hF3, hs3⟩ := hFe.store (wrap64 (F (k8 M) + 1))
  have hS3 := hS2.trans hs3 (fun _ _ h => h)
  refine wpAnyT_ready (rs := [9]) (by kernel_rfl) (by simp) ?_
  intro j hj; rw [List.mem_singleton] at hj; subst hj
  refine wpOpT_step (by rfl) (fun K hK => ?_)
  go_simp
  refine hK.out _ _ ((hTT.out _ _).2 (.inl rfl)) ?_
  clear hK K hrun3
  (try simp only [Act.put, List.setIfInBounds_toArray, List.set_cons_zero, List.set_cons_succ])
  refine wpAnyT_done (by kernel_rfl) ?_ _
  refine NoPanic.normal ?_
  clear hTT TT hkeep kp
  go_wp2_with fail
  go_ret
  exact ⟨rfl, hF3, hS3⟩
end Go.Proofs.Ytkcmbpokoijglaa

/- motifs.Spectrum: what is counted, and what it does in motifs.each. -/
set_option linter.unusedVariables false
set_option linter.unusedSimpArgs false
namespace CoMot
/-- How many of these have the key X. -/
def cntM (L : List (List Nat × List Step)) (X : List Int) : Nat := (L.filter (fun p => decide (k8 p.2 = X))).length
theorem cntM_snoc (L : List (List Nat × List Step)) (p : List Nat × List Step) (X : List Int) : cntM (L ++ [p]) X = cntM L X + if k8 p.2 = X then 1 else 0 := by
  unfold cntM
  rw [List.filter_append, List.length_append]
  congr 1
  by_cases h : k8 p.2 = X
  · rw [if_pos h]; simp [h]
  · rw [if_neg h]; simp [h]
theorem mem_all {l : List Tick} {w : Int} (hw : 0 ≤ w) (hl : ∀ y ∈ l, 0 ≤ y.t) {K : Nat} (p : List Nat × List Step) : p ∈ sub l w (fun _ => true) K [] [] [] ↔ p.1.length = K ∧ Good l w p.1 ∧ ofL (ends l p.1) = some p.2 := by
  rw [mem_sub hw hl K [] [] [] ⟨by simp, by simp, by simp⟩ rfl]
  simp only [List.nil_append, List.length_nil]
  constructor
  · rintro ⟨c, ns', hc, h1, h2, h3, h4⟩
    exact ⟨by rw [h1, hc], h2, by rw [ofL_eq, h3]; rfl⟩
  · rintro ⟨h1, h2, h3⟩
    rw [ofL_eq] at h3
    cases h5 : ofS (ends l p.1) with
    | none => rw [h5] at h3; cases h3
    | some q =>
      obtain ⟨ns', m⟩ := q
      rw [h5] at h3
      simp only [Option.map_some, Option.some.injEq] at h3
      exact ⟨p.1, ns', h1, rfl, h2, by rw [h3], fun _ _ _ => trivial⟩
theorem all_nodup (l : List Tick) (w : Int) (K : Nat) : ((sub l w (fun _ => true) K [] [] []).map (·.1)).Nodup := by
  have := (sub_nodup l w (fun _ => true) K [] [] []).2
  rw [List.nodup_iff_pairwise_ne, List.pairwise_map]
  exact this
/-- All instances of one number of steps, told apart by their keys. -/
theorem cnt_inst {l : List Tick} {w : Int} (hw : 0 ≤ w) (hl : ∀ y ∈ l, 0 ≤ y.t) {K : Nat} {M : List Step} (hM : M.length = K) : cntM (sub l w (fun _ => true) K [] [] []) (k8 M) = (inst l w M).length := by
  unfold cntM
  refine same_len (filter_nodup (all_nodup l w K)) (inst_nodup l w M) (fun p => ?_)
  rw [List.mem_filter, decide_eq_true_eq, mem_all hw hl, mem_inst hw hl]
  constructor
  · rintro ⟨⟨h1, h2, h3⟩, h4⟩
    have hlen := ofL_len h3
    have he : (ends l p.1).length = p.1.length := by simp [ends]
    have h5 : p.2 = M := k8_inj (by omega) h4
    exact ⟨by omega, h2, by rw [h3, h5], h5⟩
  · rintro ⟨h1, h2, h3, h4⟩
    exact ⟨⟨by omega, h2, by rw [h3, h4]⟩, by rw [h4]⟩
end CoMot
namespace Go.Proofs.Ytkcmbpokoijglaa
open Go.RowKit CoMot

/-- What Spectrum answers. -/
def specE (l : List Tick) (s w : Int) : Int := if chkL l ≠ 0 then chkL l else if motE s ≠ 0 then motE s else spn w
def specL (l : List Tick) (s w : Int) : List Nat := if specE l s w = 0 then (motR s).map fun M => (inst l w M).length else []
theorem growL_mem : ∀ k M v, 1 ≤ v → v + k ≤ 50 → ∀ N ∈ growL k M v, N.length = M.length + k ∧ (Stp M → Stp N) := by
  intro k
  induction k with
  | zero => intro M v _ _ N hN; simp only [growL, List.mem_singleton] at hN; subst hN; exact ⟨rfl, fun h => h⟩
  | succ k ih =>
    intro M v hv hk N hN
    unfold growL at hN
    obtain ⟨a, ha, hN⟩ := List.mem_flatMap.1 hN
    obtain ⟨b, hb, hN⟩ := List.mem_flatMap.1 hN
    rw [List.mem_range] at ha hb
    unfold gOne at hN
    cases hvs : vs v ((a : Int), (b : Int)) with
    | none => rw [hvs] at hN; cases hN
    | some n =>
      rw [hvs] at hN
      have hn := vs_le hvs hv
      obtain ⟨h1, h2⟩ := ih _ n (by omega) (by omega) N hN
      refine ⟨by rw [h1, List.length_append, List.length_singleton]; omega, fun h => h2 (fun x hx => ?_)⟩
      rcases List.mem_append.1 hx with hx | hx
      · exact h x hx
      · rw [List.mem_singleton] at hx; subst hx; simp only; omega
theorem motR_mem {s : Int} {M : List Step} (h : M ∈ motR s) : (M.length : Int) = s ∧ Stp M ∧ 1 ≤ s ∧ s ≤ 4 := by
  unfold motR at h
  split at h
  · rename_i hs
    obtain ⟨h1, h2⟩ := growL_mem (s.toNat - 1) [(0, 1)] 2 (by omega) (by omega) M h
    refine ⟨by rw [h1, List.length_singleton]; omega, h2 (by intro x hx; rw [List.mem_singleton] at hx; subst hx; decide), hs⟩
  · cases h
theorem enter_spec1 (args : Array Value) (w : World) : Sem.run Try.prog (callFunc 47 args) w = .ok (.enter 47 args) w := by
  have h1 : ¬ Try.f47.name = "runtime.NumGoroutine" := fun h => by
    have h2 : ( Try.f47.name == "runtime.NumGoroutine") = false := by kernel_rfl
    rw [h] at h2; simp at h2
  have h3 : ¬ Try.f47.body = none := by
    have h2 : Try.f47.body.isNone = false := by kernel_rfl
    intro h; rw [h] at h2; cases h2
  simp [callFunc, go_sem, Try.func47, h1, h3]
theorem enter_spec2 (args : Array Value) (w : World) : Sem.run Try.prog (callFunc 48 args) w = .ok (.enter 48 args) w := by
  have h1 : ¬ Try.f48.name = "runtime.NumGoroutine" := fun h => by
    have h2 : ( Try.f48.name == "runtime.NumGoroutine") = false := by kernel_rfl
    rw [h] at h2; simp at h2
  have h3 : ¬ Try.f48.body = none := by
    have h2 : Try.f48.body.isNone = false := by kernel_rfl
    intro h; rw [h] at h2; cases h2
  simp [callFunc, go_sem, Try.func48, h1, h3]
set_option maxHeartbeats 1000000 in
theorem spec1_any (v : Value) (w : World) : Calls Try.prog 47 #[v] w fun e w' => e = .returned (.bool true) ∧ Below w.heap.size w w' := by
  go_enter Try.func47, Try.ntmps47
  go_wp2_with fail
  go_ret
  exact ⟨rfl, Below.refl _ _⟩
theorem ok_k8 {M : List Step} (h : Stp M) (hl : M.length ≤ 4) : OKK (k8 M) := by
  unfold k8
  refine ⟨?_, fun x hx => ?_⟩
  · have : ∀ a : List Step, (a.flatMap fun s => [s.1, s.2]).length = 2 * a.length := by
      intro a
      induction a with
      | nil => rfl
      | cons y a ih => simp only [List.flatMap_cons, List.length_append, ih]; simp; omega
    rw [this, pd_len hl]
  · obtain ⟨s, hs, hx⟩ := List.mem_flatMap.1 hx
    unfold pd at hs
    have h3 : (0 ≤ s.1 ∧ s.1 < 100) ∧ (0 ≤ s.2 ∧ s.2 < 100) := by
      rcases List.mem_append.1 hs with hs | hs
      · exact h s hs
      · rw [(List.mem_replicate.1 hs).2]; decide
    simp only [List.mem_cons, List.not_mem_nil, or_false] at hx
    rcases hx with rfl | rfl
    · exact h3.1
    · exact h3.2
/-- Spectrum's J: the map holds how many there were of each. -/
def sJ (g : Nat) (pre : List (List Nat × List Step)) (W : World) (ow : Nat → Prop) : Prop := (∀ k, ow k ↔ k = g) ∧ MF W g (fun X => wrap64 ((cntM pre X : Nat) : Int))
theorem MF.ext {W : World} {g : Nat} {F G : List Int → Int} (h : MF W g F) (he : ∀ X, F X = G X) : MF W g G := by
  obtain ⟨E, clock, h0, hF⟩ := h
  exact ⟨E, clock, h0, fun X => (hF X).trans (he X)⟩
theorem wrap_up' (a : Nat) : wrap64 (wrap64 (a : Int) + 1) = wrap64 ((a + 1 : Nat) : Int) := by unfold wrap64; omega
theorem tk_spec {W : World} {g gb : Nat} {A : Option Addr} {n c K : Nat} {l : List Tick} {wd : Int} (h : RS TE W A n l) (hnc : n ≤ c) (hn : n ≤ 4096) (hm4 : K ≤ 4) (hg : g < W.heap.size) (hgl : ∀ ad, A = some ad → 0 < n → ad.block ≠ g) (hgb : gb ≠ g) (hB : Blk W gb 78 #[.map (some g)])
    (ht : ∀ x ∈ l, 0 ≤ x.t ∧ x.t ≤ 1048576) (hs : ∀ i j, i ≤ j → j < n → tim l i ≤ tim l j) (hw : 0 ≤ wd ∧ wd ≤ 1048576) :
    TK ⟨l, A, n, c, K, wd, 47, #[], 48, #[.pointer (some ⟨gb, 0, none⟩)], W.heap.size, W, fun k => k = g⟩ (fun _ => true) (sJ g) (fun _ _ _ => False) where
  keep := fun p W W' ow hJ hs => ⟨hJ.1, hJ.2.keep hs (fun hn => hn ((hJ.1 g).2 rfl))⟩
  keepx := fun _ _ _ _ h _ => h
  call := fun at' ms s p hI hK hst hJ => by
    obtain ⟨hst, hml⟩ := hst
    obtain ⟨A9, n9, c9, e9, hn9, hnc9, -, hr9, -⟩ := hI.om.form
    have hK' : at'.length = K := hK
    have q1 : n9 ≤ 4 := by omega
    have kl := spec2_any gb g _ A9 n9 c9 ms s.av s.W hr9 q1 (hI.kp.blk hB hgb) hJ.2 (ok_k8 hst (by omega)) hgb
    have e : (#[s.av, s.mv] ++ #[.pointer (some ⟨gb, 0, none⟩)] : Array Value) = #[s.av, .slice A9 n9 c9, .pointer (some ⟨gb, 0, none⟩)] := by rw [e9]; rfl
    rw [← e] at kl
    refine kl.mono ?_
    rintro r W' ⟨rfl, h1, h2⟩
    refine ⟨s.ow, h2.mono (fun k _ hk => (hJ.1 k).2 hk), fun k hk => .inl hk, fun k hk => ?_, .inl ⟨rfl, hJ.1, ?_⟩⟩
    · rw [(hJ.1 k).1 hk]; exact h1.lt
    · refine h1.ext (fun X => ?_)
      unfold upF
      rw [cntM_snoc]
      by_cases hX : X = k8 ms
      · subst hX
        rw [if_pos rfl, if_pos rfl, wrap_up']
      · rw [if_neg hX, if_neg (fun e => hX e.symm), Nat.add_zero]
  fits := fun at' ms s A' n' c' xs hI hr hc hn' => by
    have k1 := spec1_any (.slice A' n' c') s.W
    exact k1
  enterT := enter_spec2
  enterF := enter_spec1
  four := hm4
  tick := h
  cap := hnc
  lim := hn
  far := hgl
  time := ht
  asc := hs
  wide := hw
end Go.Proofs.Ytkcmbpokoijglaa

/- motifs.Spectrum. -/
set_option linter.unusedVariables false
set_option linter.unusedSimpArgs false
namespace Go.Proofs.Ytkcmbpokoijglaa
open Go.RowKit CoMot

def RetSp (w : World) (L : List Nat) (e : Int) (r : Ending) (w' : World) : Prop := ∃ A n c, r = .returned (.tuple #[.slice A n c, .int .i64 e]) ∧ n ≤ c ∧ RS NE w' A n L ∧ Below w.heap.size w w'
theorem wrap_same {a : Nat} (h : a ≤ 281474976710656) : wrap64 (a : Int) = (a : Int) := by unfold wrap64; omega
theorem vals_set {L : List Nat} {k n : Nat} {v : Nat} (hk : k < n) (hn : n = L.length) (hv : L[k]? = some v) : ((((L.take k) ++ List.replicate (n - k) 0).map fun x : Nat => Value.int .i64 (x : Int)).toArray.setIfInBounds k (.int .i64 (v : Int))) = (((L.take (k + 1)) ++ List.replicate (n - (k + 1)) 0).map fun x : Nat => Value.int .i64 (x : Int)).toArray := by
  have hl : (L.take k).length = k := by rw [List.length_take]; omega
  have e1 : List.replicate (n - k) (0 : Nat) = 0 :: List.replicate (n - (k + 1)) 0 := by rw [← List.replicate_succ]; congr 1; omega
  rw [e1, List.take_add_one, hv]
  simp only [List.map_append, List.map_cons, List.setIfInBounds_toArray, Option.toList_some, List.append_assoc, List.cons_append, List.nil_append, List.map_nil]
  rw [List.set_append_right _ _ (by rw [List.length_map, hl]; exact Nat.le_refl _), List.length_map, hl, Nat.sub_self]
  rfl
set_option maxRecDepth 100000 in
set_option maxHeartbeats 8000000 in
theorem spectrum_any (A : Option Addr) (n c : Nat) (l : List Tick) (s v : Int) (w : World) (h : RS TE w A n l) (hn : n ≤ 1099511627776) (hnc : n ≤ c) :
    Calls Try.prog 20 #[.slice A n c, .int .i64 s, .int .i64 v] w (RetSp w (specL l s v) (specE l s v)) := by
  have kc := mcheck_any A n c l w h hn
  have km := Lib.hid fun w => motifs_any s w
  have ks := fun w => mspan_any v w
  by_cases e1 : chkL l = 0
  rotate_left
  · have hR : Hid (specE l s v = chkL l) := Lib.hid (by unfold specE; rw [if_pos e1])
    have hL : Hid (specL l s v = []) := Lib.hid (by unfold specL; rw [if_neg (by rw [hR.out]; exact e1)])
    have q : (chkL l != 0) = true := by simpa using e1
    rw [hR.out, hL.out]
    replace e1 := Lib.hid e1
    replace kc := Lib.hid kc
    go_enter Try.func20, Try.ntmps20
    go_wp2_with fail
    (with_reducible refine (kc.out).mono ?_); rintro e w1 ⟨rfl, hb1⟩
    go_wp2_with fail
    go_ret2
    exact ⟨none, 0, 0, rfl, Nat.le_refl _, RS.none_, hb1⟩
  have kc0 := kc
  rw [e1] at kc
  replace kc := Lib.hid kc
  clear kc0
  by_cases e2 : motE s = 0
  rotate_left
  · have hR : Hid (specE l s v = motE s) := Lib.hid (by unfold specE; rw [if_neg (by rw [e1]; simp), if_pos e2])
    have hL : Hid (specL l s v = []) := Lib.hid (by unfold specL; rw [if_neg (by rw [hR.out]; exact e2)])
    have q : (motE s != 0) = true := by simpa using e2
    rw [hR.out, hL.out]
    replace e1 := Lib.hid e1
    replace e2 := Lib.hid e2
    go_enter Try.func20, Try.ntmps20
    go_wp2_with fail
    (with_reducible refine (kc.out).mono ?_); rintro e w1 ⟨rfl, hb1⟩
    go_wp2_with fail
    (with_reducible refine (km.out _).mono ?_); rintro e w2 ⟨A7, c7, rfl, hc7, hr7, hb2⟩
    have hb := hb1.trans (hb2.mono hb1.size)
    go_wp2_with fail
    go_ret2
    exact ⟨none, 0, 0, rfl, Nat.le_refl _, RS.none_, hb⟩
  by_cases e3 : spn v = 0
  rotate_left
  · have hR : Hid (specE l s v = spn v) := Lib.hid (by unfold specE; rw [if_neg (by rw [e1]; simp), if_neg (by rw [e2]; simp)])
    have hL : Hid (specL l s v = []) := Lib.hid (by unfold specL; rw [if_neg (by rw [hR.out]; exact e3)])
    have q : (spn v != 0) = true := by simpa using e3
    rw [hR.out, hL.out]
    replace e1 := Lib.hid e1
    replace e2 := Lib.hid e2
    replace e3 := Lib.hid e3
    replace ks := Lib.hid ks
    go_enter Try.func20, Try.ntmps20
    go_wp2_with fail
    (with_reducible refine (kc.out).mono ?_); rintro e w1 ⟨rfl, hb1⟩
    go_wp2_with fail
    (with_reducible refine (km.out _).mono ?_); rintro e w2 ⟨A7, c7, rfl, hc7, hr7, hb2⟩
    rw [e2.out]
    have hb := hb1.trans (hb2.mono hb1.size)
    go_wp2_with fail
    (with_reducible refine (ks.out _).mono ?_); rintro e w3 ⟨rfl, hQ⟩; obtain rfl := hQ.symm; clear hQ
    go_wp2_with fail
    go_ret2
    exact ⟨none, 0, 0, rfl, Nat.le_refl _, RS.none_, hb⟩
  obtain ⟨t1, t2, t3, _⟩ := chkL_zero e1
  have hl := h.len
  have hn4 : n ≤ 4096 := by omega
  have hv : 0 ≤ v ∧ v ≤ 1048576 := by
    unfold spn at e3
    split at e3
    · cases e3
    · rename_i h; omega
  have hs14 : 1 ≤ s ∧ s ≤ 4 := by
    unfold motE at e2
    split at e2
    · assumption
    · cases e2
  have hR : Hid (specE l s v = 0) := Lib.hid (by unfold specE; rw [if_neg (by rw [e1]; simp), if_neg (by rw [e2]; simp)]; exact e3)
  have hL : Hid (specL l s v = (motR s).map fun M => (inst l v M).length) := Lib.hid (by unfold specL; rw [if_pos hR.out])
  rw [e3] at ks
  replace ks := Lib.hid ks
  rw [hR.out, hL.out]
  obtain ⟨K, rfl⟩ : ∃ K : Nat, s = (K : Int) := ⟨s.toNat, by omega⟩
  have hK4 : K ≤ 4 := by omega
  have hcnt : Hid (∀ M ∈ motR (K : Int), wrap64 ((cntM (sub l v (fun _ => true) K [] [] []) (k8 M) : Nat) : Int) = ((inst l v M).length : Int)) := Lib.hid fun M hM => by
    obtain ⟨h1, _, _, _⟩ := motR_mem hM
    rw [cnt_inst hv.1 (fun y hy => (t2 y hy).1) (show M.length = K by omega)]
    exact wrap_same (inst_small (by omega) (by omega))
  have hokk : Hid (∀ M ∈ motR (K : Int), OKK (k8 M) ∧ M.length ≤ 4) := Lib.hid fun M hM => by
    obtain ⟨h1, h2, _, _⟩ := motR_mem hM
    exact ⟨ok_k8 h2 (by omega), by omega⟩
  have hms := motR_small (K : Int)
  have ke : Hid (∀ w1, Below w.heap.size w w1 → Calls Try.prog 41 #[.slice A n c, .int .i64 (K : Int), .int .i64 v, .func (.func 47) #[] #[], .func (.func 48) #[] #[.pointer (some ⟨w1.heap.size + 1, 0, none⟩)]]
      ((w1.alloc (.map #[] 0)).alloc (.cells #[.map (some w1.heap.size)] 78)) fun r W' => (∃ x, r = .returned x) ∧ Same (fun k => k = w1.heap.size) ((w1.alloc (.map #[] 0)).alloc (.cells #[.map (some w1.heap.size)] 78)) W' ∧ Hid (MF W' w1.heap.size (fun X => wrap64 ((cntM (sub l v (fun _ => true) K [] [] []) X : Nat) : Int)))) := Lib.hid fun w1 hb => by
    have hsz := hb.size
    have z1 : (w1.alloc (.map #[] 0)).heap.size = w1.heap.size + 1 := by simp
    have B1 : Blk ((w1.alloc (.map #[] 0)).alloc (.cells #[.map (some w1.heap.size)] 78)) (w1.heap.size + 1) 78 #[.map (some w1.heap.size)] := Blk.new' _ _ _ z1.symm
    have hM0 : MF ((w1.alloc (.map #[] 0)).alloc (.cells #[.map (some w1.heap.size)] 78)) w1.heap.size (fun _ => 0) := (MF.made w1).keep ((Same.refl (fun _ => False) _).alloc _) (fun h => h)
    have hbA := (hb.alloc hsz (.map #[] 0)).alloc (by omega) (.cells #[.map (some w1.heap.size)] 78)
    have hz0 : wrap64 ((0 : Nat) : Int) = 0 := by unfold wrap64; rfl
    have hgl : w1.heap.size < ((w1.alloc (.map #[] 0)).alloc (.cells #[.map (some w1.heap.size)] 78)).heap.size := by simp; omega
    have kk := each_any _ _ _ _ (tk_spec (W := (w1.alloc (.map #[] 0)).alloc (.cells #[.map (some w1.heap.size)] 78)) (g := w1.heap.size) (gb := w1.heap.size + 1) (K := K) (wd := v) (h.below hbA (Nat.le_refl _)) hnc hn4 hK4 hgl (h.farg hsz) (by omega) B1 t2 (fun i j hij hj => t3 i j hij (by omega)) hv) rfl (fun k hk => by simp only at hk ⊢; omega) ⟨fun k => Iff.rfl, hM0.ext (fun X => hz0.symm)⟩
    refine Calls.mono kk ?_
    rintro r W' ⟨ow', hr, hS, hJ⟩
    rcases hJ with hJ | ⟨q, t, _, hx⟩
    · exact ⟨hr, hS, Lib.hid hJ.2⟩
    · exact hx.elim
  have hmk := fun w (k : Nat) (hk : k ≤ 262144) => run_make_row' (P := Try.prog) 22 3 (.int .i64 0) 8 Try.underlying22 (by kernel_rfl) rfl .i64 .i64 k (by omega) (by omega) w
  have hmk1 := fun w => hmk w (motR (K : Int)).length hms
  have hone : (motR (K : Int)).length = ((motR (K : Int)).map fun M => (inst l v M).length).length := (List.length_map _).symm
  generalize hSP : ((motR (K : Int)).map fun M => (inst l v M).length) = SP at *
  generalize hMM : motR (K : Int) = MM at *
  have hSPk : Hid (∀ k M, MM[k]? = some M → SP[k]? = some (inst l v M).length) := Lib.hid fun k M hk => by rw [← hSP, List.getElem?_map, hk]; rfl
  generalize cntM (sub l v (fun _ => true) K [] [] []) = CN at *
  replace hSP := Lib.hid hSP
  replace hMM := Lib.hid hMM
  generalize hNN : MM.length = NN at *
  replace hone := Lib.hid hone
  replace hNN := Lib.hid hNN
  clear t1 t2 t3 hl e1 e3 hL hmk hs14
  have hmm := @run_makeMap Try.prog
  replace e2 := Lib.hid e2
  go_enter Try.func20, Try.ntmps20
  go_wp2_with fail
  (with_reducible refine (kc.out).mono ?_); rintro e w1 ⟨rfl, hb1⟩
  go_wp2_with fail
  (with_reducible refine (km.out _).mono ?_); rintro e w2 ⟨A7, c7, rfl, hc7, hr7, hb2⟩
  rw [e2.out]
  rw [hMM.out, hNN.out] at hc7 hr7 ⊢
  have hb := hb1.trans (hb2.mono hb1.size)
  clear hb1 hb2 kc km
  go_wp2_with fail
  (with_reducible refine (ks.out _).mono ?_); rintro e w3 ⟨rfl, hQ⟩; obtain rfl := hQ.symm; clear hQ
  have ke1 := Lib.hid (ke.out w2 hb)
  have hsz := hb.size
  clear ke ks
  go_wp2_with fail
  (with_reducible refine (ke1.out).mono ?_); rintro e w3 ⟨⟨x, rfl⟩, hS3, hF3⟩
  clear ke1 hmm
  have hbA := (hb.alloc hsz (.map #[] 0)).alloc (by simp; omega) (.cells #[.map (some w2.heap.size)] 78)
  have hB3 : Blk w3 (w2.heap.size + 1) 78 #[.map (some w2.heap.size)] := hS3.blk (Blk.new' _ _ _ (by simp)) (by omega)
  have hb3 : Below w.heap.size w w3 := hbA.trans (hS3.below (by simp; omega) (fun k hk e => by omega))
  have hb23 : Below w2.heap.size w2 w3 := (((Below.refl w2.heap.size w2).alloc (Nat.le_refl _) (.map #[] 0)).alloc (by simp) (.cells #[.map (some w2.heap.size)] 78)).trans (hS3.below (by simp; omega) (fun k hk e => by omega))
  have hr3 := hr7.below hb23 (Nat.le_refl _)
  clear hS3 hbA hr7 hb hb23
  generalize hgg : w2.heap.size = g at *
  replace hgg := Lib.hid hgg
  go_wp2_with fail
  have hml := hF3.out.lt
  have hgl3 := hB3.lt
  have S36 : Same (fun j => j = w3.heap.size) w3 (w3.alloc (.cells (madeCells #[.int .i64 0] NN) 3)) := (Same.refl _ _).alloc _
  have B6 : Blk (w3.alloc (.cells (madeCells #[.int .i64 0] NN) 3)) w3.heap.size 3 (((SP.take 0) ++ List.replicate (NN - 0) 0).map fun x : Nat => Value.int .i64 (x : Int)).toArray := by
    have h1 := Blk.new w3 3 (madeCells #[.int .i64 0] NN)
    have h2 : madeCells #[.int .i64 0] NN = (((SP.take 0) ++ List.replicate (NN - 0) 0).map fun x : Nat => Value.int .i64 (x : Int)).toArray := by
      apply Array.toList_inj.1
      rw [toList_madeCells_one]
      simp
    rw [← h2]; exact h1
  generalize hW6 : w3.alloc (.cells (madeCells #[.int .i64 0] NN) 3) = W6 at *
  replace hW6 := Lib.hid hW6
  generalize hgo : w3.heap.size = go at *
  replace hgo := Lib.hid hgo
  generalize hgbd : g + 1 = gb at *
  replace hgbd := Lib.hid hgbd
  go_loopw [45] (fun i wr => ∃ k : Nat, k ≤ NN ∧ i = .int .i64 (k : Int) ∧ Blk wr go 3 (((SP.take k) ++ List.replicate (NN - k) 0).map fun x : Nat => Value.int .i64 (x : Int)).toArray ∧ Same (fun j => j = go) W6 wr) (fun i _ => NN - (intOf i).toNat)
  case atStart => exact ⟨0, Nat.zero_le _, rfl, B6, Same.refl _ _⟩
  case round =>
    obtain ⟨k, hk, rfl, hBo, hSr⟩ := hrel
    have hS := S36.trans hSr (fun _ _ h => h)
    by_cases hlt : k < NN
    · obtain ⟨ad, A1, n1, c1, M, rfl, hcl, hyM, hc1, hrM, hbl⟩ := hr3.get hlt
      obtain ⟨hX, hM4⟩ := hokk.out M (List.mem_of_getElem? hyM.out)
      have hcv := hcnt.out M (List.mem_of_getElem? hyM.out)
      have hspv := hSPk.out k M hyM.out
      have hrM' : RS SE wr A1 n1 M := hrM.same hS (fun ad he hp => by
        obtain ⟨ad', he', hb', _⟩ := hrM.2 hp
        rw [he] at he'; injection he' with he'; subst he'
        have := hgo.out; omega)
      have hcl' := hS.cell (p := ad.add k) (by rw [block_of_add]; exact hbl) (by rw [block_of_add]; have := hgo.out; omega) hcl
      have hn14 : n1 ≤ 4 := by rw [← hrM.len]; exact hM4
      have hFr : MF wr g (fun X => wrap64 ((CN X : Nat) : Int)) := hF3.out.keep hS (by have := hgo.out; omega)
      have hBr := hS.blk hB3 (by have := hgo.out; omega)
      have hBl := hBr.lt
      have c1r := Blk.cell hBr 0
      simp at c1r
      have i2 : (0 : Int) ≤ (k : Int) := Int.natCast_nonneg _
      have i3 : (k : Int) < (NN : Int) := Int.ofNat_lt.2 hlt
      have hset : Hid (((((SP.take k) ++ List.replicate (NN - k) 0).map fun x : Nat => Value.int .i64 (x : Int)).toArray.setIfInBounds k (.int .i64 ((inst l v M).length : Int))) = (((SP.take (k + 1)) ++ List.replicate (NN - (k + 1)) 0).map fun x : Nat => Value.int .i64 (x : Int)).toArray) := Lib.hid (vals_set hlt hone.out hspv)
      have hgg1 : gb ≠ go := by omega
      obtain ⟨z, hz⟩ : ∃ z, (((SP.take k) ++ List.replicate (NN - k) 0).map fun x : Nat => Value.int .i64 (x : Int)).toArray[k]? = some z := ⟨_, Array.getElem?_eq_getElem (by simp [hone.out.symm]; omega)⟩
      have hvl : Hid (kv (k8 M) = kv (k8 M)) := Lib.hid rfl
      have kp := Lib.hid fun w h => padded_any A1 n1 c1 M w h hn14
      generalize (inst l v M).length = IL at *
      generalize ((SP.take k ++ List.replicate (NN - k) 0).map fun x : Nat => Value.int .i64 (x : Int)).toArray = VS at *
      replace hcv := Lib.hid hcv
      have hlk : ∀ w', MF w' g (fun X => wrap64 ((CN X : Nat) : Int)) → (Instr.lookup 78 (.map (some g)) (kv (k8 M)) false).run Try.prog w' = .ok (.int .i64 (IL : Int)) w' := fun w' hF => (hF.look hX).trans (by show Result.ok (Value.int .i64 (wrap64 ((CN (k8 M) : Nat) : Int))) w' = _; rw [hcv.out])
      replace hlk := Lib.hid hlk
      replace hspv := Lib.hid hspv
      clear hyM hcl hrM hSPk hcnt hokk
      go_upto_region 16 with fail
      have f6 := Blk.frozen hBo k
      have f7 : wr.cell? ⟨go, k, none⟩ = some z := (Blk.cell hBo k).trans hz
      refine wp_region_noPanic ?_
      obtain ⟨TT, hTT⟩ : ∃ TT : Nat → World → Prop, ∀ j w', TT j w' ↔ (j = 9 ∨ w'.cell? ⟨gb, 0, none⟩ = some (.map (some g))) := ⟨fun j w' => _, fun _ _ => Iff.rfl⟩
      replace hTT := Lib.hid hTT
      refine wp_region_T (T := TT) (by kernel_rfl) ?_
      have c2 : wr.drew.cell? ⟨gb, 0, none⟩ = some (.map (some g)) := c1r
      refine wpAnyT_take (i := 2) (S := fun w' => w'.cell? ⟨gb, 0, none⟩ = some (.map (some g))) (v := .map (some g)) rfl (by kernel_rfl) (by kernel_rfl) (by kernel_rfl) (fun _ _ _ h => h) (fun w' h => (hTT.out _ _).2 (.inr h)) (fun j oj hoj hji hun hno w' hT => ?_) (Or.inl ⟨by rfl, ?_⟩) c2 ?_
      case refine_1 =>
        rcases (hTT.out _ _).1 hT with h9 | h9
        · subst h9
          obtain rfl := Option.some.inj hoj
          exact ((hno ⟨2, .phase⟩ (by simp) rfl) rfl).elim
        · exact h9
      case refine_2 =>
        intro w' hS
        go_simp
      (try simp only [Act.put, List.setIfInBounds_toArray, List.set_cons_zero, List.set_cons_succ])
      refine wpAnyT_take (i := 0) (S := fun w' => w'.cell? ⟨gb, 0, none⟩ = some (.map (some g))) (v := .slice (some ⟨go, 0, none⟩) NN NN) rfl (by kernel_rfl) (by kernel_rfl) (by kernel_rfl) (fun _ _ _ h => h) (fun w' h => (hTT.out _ _).2 (.inr h)) (fun j oj hoj hji hun hno w' hT => ?_) (Or.inl ⟨by rfl, ?_⟩) c2 ?_
      case refine_1 =>
        rcases (hTT.out _ _).1 hT with h9 | h9
        · subst h9
          obtain rfl := Option.some.inj hoj
          exact ((hno ⟨0, .phase⟩ (by simp) rfl) rfl).elim
        · exact h9
      case refine_2 =>
        intro w' hS
        clear hS
        go_simp
      (try simp only [Act.put, List.setIfInBounds_toArray, List.set_cons_zero, List.set_cons_succ])
      refine wpAnyT_take (i := 1) (S := fun w' => w'.cell? ⟨gb, 0, none⟩ = some (.map (some g))) (v := .int .i64 (k : Int)) rfl (by kernel_rfl) (by kernel_rfl) (by kernel_rfl) (fun _ _ _ h => h) (fun w' h => (hTT.out _ _).2 (.inr h)) (fun j oj hoj hji hun hno w' hT => ?_) (Or.inl ⟨by rfl, ?_⟩) c2 ?_
      case refine_1 =>
        rcases (hTT.out _ _).1 hT with h9 | h9
        · subst h9
          obtain rfl := Option.some.inj hoj
          exact ((hno ⟨1, .phase⟩ (by simp) rfl) rfl).elim
        · exact h9
      case refine_2 =>
        intro w' hS
        clear hS
        go_simp
      (try simp only [Act.put, List.setIfInBounds_toArray, List.set_cons_zero, List.set_cons_succ])
      refine wpAnyT_take (i := 3) (S := fun w' => w'.cell? ⟨gb, 0, none⟩ = some (.map (some g))) (v := .slice A1 n1 c1) rfl (by kernel_rfl) (by kernel_rfl) (by kernel_rfl) (fun _ _ _ h => h) (fun w' h => (hTT.out _ _).2 (.inr h)) (fun j oj hoj hji hun hno w' hT => ?_) (Or.inl ⟨by rfl, ?_⟩) c2 ?_
      case refine_1 =>
        rcases (hTT.out _ _).1 hT with h9 | h9
        · subst h9
          obtain rfl := Option.some.inj hoj
          exact ((hno ⟨3, .phase⟩ (by simp) rfl) rfl).elim
        · exact h9
      case refine_2 =>
        intro w' hS
        clear hS
        go_simp
      (try simp only [Act.put, List.setIfInBounds_toArray, List.set_cons_zero, List.set_cons_succ])
      refine wpAnyT_ready (rs := [4]) (by kernel_rfl) (by simp) ?_
      intro j hj; rw [List.mem_singleton] at hj; subst hj
      refine wpOpT_step (by rfl) (fun K9 hK => ?_)
      go_simp
      (with_reducible refine (kp.out _ hrM'.drew).mono ?_)
      rintro e w4 ⟨gk, c', rfl, hc', hr', hb', hk1, hk2⟩
      have hSn : Same (fun _ => False) wr w4 := (Same.refl (fun _ => False) wr).drew.trans (Same.of_below hb' (Nat.le_refl _) _) (fun _ _ h => h)
      have d1 : w4.cell? ⟨gb, 0, none⟩ = some (.map (some g)) := hSn.cell (p := ⟨gb, 0, none⟩) hBl (fun h => h) c1r
      have hF4 := hFr.keep hSn (fun h => h)
      have hBo4 := hSn.blk hBo (fun h => h)
      obtain ⟨a0, a1, a2, a3, a4, a5, a6, a7, hk8, q0, q1, q2, q3, q4, q5, q6, q7⟩ := key_cells hM4 hr'
      have hlk4 := hlk.out w4 hF4
      rw [hk8] at hlk4
      replace hlk4 : (Instr.lookup 78 (.map (some g)) (.agg #[.int .i64 a0, .int .i64 a1, .int .i64 a2, .int .i64 a3, .int .i64 a4, .int .i64 a5, .int .i64 a6, .int .i64 a7]) false).run Try.prog w4 = .ok (.int .i64 (IL : Int)) w4 := hlk4
      replace hk8 := Lib.hid hk8
      refine hK.out _ _ ((hTT.out _ _).2 (.inr d1)) ?_
      clear hK K9
      (try simp only [Act.put, List.setIfInBounds_toArray, List.set_cons_zero, List.set_cons_succ])
      refine wpAnyT_ready (rs := [5]) (by kernel_rfl) (by simp) ?_
      intro j hj; rw [List.mem_singleton] at hj; subst hj
      refine wpOpT_step (by rfl) (fun K9 hK => ?_)
      go_simp
      refine hK.out _ _ ((hTT.out _ _).2 (.inr d1)) ?_
      clear hK K9
      (try simp only [Act.put, List.setIfInBounds_toArray, List.set_cons_zero, List.set_cons_succ])
      refine wpAnyT_ready (rs := [6]) (by kernel_rfl) (by simp) ?_
      intro j hj; rw [List.mem_singleton] at hj; subst hj
      refine wpOpT_step (by rfl) (fun K9 hK => ?_)
      go_simp
      refine hK.out _ _ ((hTT.out _ _).2 (.inr d1)) ?_
      clear hK K9
      (try simp only [Act.put, List.setIfInBounds_toArray, List.set_cons_zero, List.set_cons_succ])
      refine wpAnyT_ready (rs := [7]) (by kernel_rfl) (by simp) ?_
      intro j hj; rw [List.mem_singleton] at hj; subst hj
      refine wpOpT_step (by rfl) (fun K9 hK => ?_)
      go_simp
      refine hK.out _ _ ((hTT.out _ _).2 (.inr d1)) ?_
      clear hK K9
      (try simp only [Act.put, List.setIfInBounds_toArray, List.set_cons_zero, List.set_cons_succ])
      refine wpAnyT_ready (rs := [8]) (by kernel_rfl) (by simp) ?_
      intro j hj; rw [List.mem_singleton] at hj; subst hj
      refine wpOpT_step (by rfl) (fun K9 hK => ?_)
      go_simp
      refine hK.out _ _ ((hTT.out _ _).2 (.inr d1)) ?_
      clear hK K9
      (try simp only [Act.put, List.setIfInBounds_toArray, List.set_cons_zero, List.set_cons_succ])
      have f6' := Blk.frozen hBo4 k
      have f7' : w4.cell? ⟨go, k, none⟩ = some z := (Blk.cell hBo4 k).trans hz
      refine wpAnyT_ready (rs := [9]) (by kernel_rfl) (by simp) ?_
      intro j hj; rw [List.mem_singleton] at hj; subst hj
      refine wpOpT_step (by rfl) (fun K9 hK => ?_)
      go_simp
      refine hK.out _ _ ((hTT.out _ _).2 (.inl rfl)) ?_
      clear hK K9
      (try simp only [Act.put, List.setIfInBounds_toArray, List.set_cons_zero, List.set_cons_succ])
      refine wpAnyT_done (by kernel_rfl) ?_ _
      refine NoPanic.normal ?_
      clear hTT TT kp f6' f7' d1 c2 q0 q1 q2 q3 q4 q5 q6 q7 hlk4
      have hSr' := (hSr.trans hSn (fun _ _ h => h.elim)).trans (Same.set w4 go k (.int .i64 (IL : Int))) (fun _ _ h => h)
      have hBn := Blk.set hBo4 k (.int .i64 (IL : Int))
      rw [hset.out] at hBn
      go_wp2_with fail
      go_roundw
      case rel => exact ⟨k + 1, by omega, by go_num, hBn, hSr'⟩
      case measure => simp [intOf]; omega
    · obtain rfl : k = NN := by omega
      rw [List.take_of_length_le (by rw [← hone.out]; exact Nat.le_refl _), Nat.sub_self, List.replicate_zero, List.append_nil] at hBo
      have hfin : RS NE wr (some ⟨go, 0, none⟩) k SP := RS.blk hBo (by
        congr 1
        have : ∀ L : List Nat, L.map (fun x : Nat => Value.int .i64 (x : Int)) = NE.all L := fun L => by
          induction L with
          | nil => rfl
          | cons y L ih => rw [List.map_cons, ih]; rfl
        exact this SP) hone.out
      have hb7 : Below w.heap.size w wr := hb3.trans (hS.below (by have := hgo.out; omega) (fun j hj e => by have := hgo.out; omega))
      go_wp2_with fail
      go_ret2
      exact ⟨some ⟨go, 0, none⟩, k, k, rfl, Nat.le_refl _, hfin, hb7⟩
end Go.Proofs.Ytkcmbpokoijglaa
