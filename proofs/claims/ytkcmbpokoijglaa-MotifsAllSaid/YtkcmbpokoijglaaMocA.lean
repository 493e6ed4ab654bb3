/- slices.Clone of steps, as a row of the call's own; append of zeros; motifs.padded. -/
import Derived.Test.YtkcmbpokoijglaaMotT
import Derived.Lib.AppendZerosOnto
set_option linter.unusedVariables false
set_option linter.unusedSimpArgs false
namespace CoMot
/-- Steps of zeros behind. -/
def pd (M : List Step) : List Step := M ++ List.replicate (4 - M.length) (0, 0)
theorem pd_len {M : List Step} (h : M.length ≤ 4) : (pd M).length = 4 := by unfold pd; rw [List.length_append, List.length_replicate]; omega
theorem pd_inj {M N : List Step} (hl : M.length = N.length) (h : pd M = pd N) : M = N := by
  unfold pd at h
  exact (List.append_inj h hl).1
end CoMot
namespace Go.Proofs.Ytkcmbpokoijglaa
open Go.RowKit CoMot

set_option maxRecDepth 100000 in
set_option maxHeartbeats 2000000 in
theorem mclone_own (A : Option Addr) (n c : Nat) (xs : List Step) (w : World) (h : RS SE w A n xs) (hn : n ≤ 1099511627776) :
    Calls Try.prog 59 #[.slice A n c] w (fun e w' => ∃ v, e = .returned v ∧ OS SE 34 w' w.heap.size v xs ∧ Below w.heap.size w w') := by
  have kq := fun (w : World) (a : Option Addr) (l c n' c' : Nat) => Lib.run_eql_slice_nil (P := Try.prog) w 29 34 a l c n' c' Try.underlying29
  cases A with
  | none =>
    have h0 : n = 0 := by
      rcases Nat.eq_zero_or_pos n with h0 | h0
      · exact h0
      · obtain ⟨ad, e, _⟩ := h.block_lt h0; cases e
    subst h0
    have hx : xs = [] := List.eq_nil_of_length_eq_zero h.len
    subst hx
    go_enter Try.func59, Try.ntmps59
    go_wp2_with fail
    go_ret
    exact ⟨_, rfl, OS.nil_, Below.refl _ _⟩
  | some ad =>
    go_enter Try.func59, Try.ntmps59
    have ho : OS SE 34 (w.alloc (.cells #[] 34)) w.heap.size (.slice (some ⟨w.heap.size, 0, none⟩) 0 0) [] :=
      ⟨rfl, .inr ⟨w.heap.size, 0, #[], rfl, Nat.le_refl _, heap_alloc_new w _, Nat.le_refl _, Nat.zero_le _, rfl, rfl⟩⟩
    have hr := h.alloc (.cells #[] 34)
    have hb0 : Below w.heap.size w (w.alloc (.cells #[] 34)) := (Below.refl _ _).alloc (Nat.le_refl _) _
    go_wp2_with (at_builtin; refine wpList_catG tyS rfl _ _ rfl rfl rfl ho hr (by unfold maxLen; simp; omega) (by simp; omega) (by simp) ?_; intro v1 w1 ho1 hb1 hg1)
    go_ret
    exact ⟨_, rfl, ho1, hb0.trans hb1⟩
section
variable {α : Type} {E : El α} {st t : TypeId} {bytes : Nat}
theorem zero_cells {z : Value} {zz : α} (hz : E.cells zz = z.cells.toList) (k : Nat) : (Builtin.zeroCells z.cells k).toList = E.all (List.replicate k zz) := by
  have hzs : z.cells.size = E.size := by rw [← E.len zz, hz]; simp
  apply List.ext_getElem?
  intro i
  by_cases hi : i < k * E.size
  · have hd : i / E.size < k := Nat.div_lt_of_lt_mul (by rw [Nat.mul_comm]; exact hi)
    have hr : (List.replicate k zz)[i / E.size]? = some zz := by rw [List.getElem?_replicate, if_pos hd]
    have hm : i % E.size < E.size := Nat.mod_lt _ E.pos
    obtain ⟨u, hu⟩ : ∃ u, (E.cells zz)[i % E.size]? = some u := ⟨_, List.getElem?_eq_getElem (by rw [E.len]; exact hm)⟩
    have h2 := E.all_at hr hu
    have hdm : i / E.size * E.size + i % E.size = i := by rw [Nat.mul_comm]; exact Nat.div_add_mod _ _
    rw [hdm] at h2
    rw [h2]
    unfold Builtin.zeroCells
    rw [Array.getElem?_toList, Array.getElem?_map, hzs]
    have : (Array.range (k * E.size))[i]? = some i := by rw [Array.getElem?_range]; simp [hi]
    rw [this, Option.map_some]
    rw [hz, Array.getElem?_toList] at hu
    rw [getElem!_def, hu]
  · rw [List.getElem?_eq_none (l := E.all _) (by rw [E.all_length, List.length_replicate]; omega), List.getElem?_eq_none (l := (Builtin.zeroCells z.cells k).toList) (by rw [Array.length_toList, size_zeroCells, hzs]; omega)]
/-- append of zeros where there is room. -/
theorem run_append_zeros_room {P : Program} (w : World) (t tn ty e : TypeId) (i : TypeInfo) (z : Value) (kn : IntKind) (ht : P.underlying t = some (.slice e)) (htn : P.underlying tn = some (.int kn)) (hi : P.info? e = some i) (hz : i.zero = some z) (hzs : z.cells.size = i.size)
    (base : Option Addr) (sLen sCap k : Nat) (hs : 0 < i.size) (hroom : sLen + k ≤ sCap) (hk : k ≤ 1099511627776) (h48 : k * i.bytes ≤ 281474976710656) (w' : World)
    (hst : (match base with | some a => storeCells (a.add (sLen * i.size)) (Builtin.zeroCells z.cells k).toList | none => pure ()).run P w = .ok () w') :
    (Builtin.append_ #[t, tn] ty #[.slice base sLen sCap, .int .i64 k]).run P w = .ok (.slice base (sLen + k) sCap) w' := by
  have hw : IntKind.i64.wrap (k : Int) = k := by rw [IntKind.wrap_i64]; omega
  have h48i : ¬ (281474976710656 < (k : Int) * (i.bytes : Int)) := by
    rw [← Int.natCast_mul]
    omega
  have hneg : ¬ ((k : Int) < 0) := by omega
  by_cases hns : k * i.size = 0
  · have e0 : Builtin.zeroCells z.cells k = #[] := Array.eq_empty_of_size_eq_zero (by rw [size_zeroCells, hzs]; exact hns)
    rw [e0] at hst
    cases base with
    | none =>
      simp at hst
      simp [Builtin.append_, run_underlying ht, run_underlying htn, sizeOf, typeInfo, zeroValue, hi, hz, asInt, asIntOf, hw, hroom, hneg, hns, h48i, hst]
    | some a =>
      simp at hst
      simp [Builtin.append_, run_underlying ht, run_underlying htn, sizeOf, typeInfo, zeroValue, hi, hz, asInt, asIntOf, hw, hroom, hneg, hns, h48i, hst]
  · cases base with
    | none =>
      simp at hst
      simp [Builtin.append_, run_underlying ht, run_underlying htn, sizeOf, typeInfo, zeroValue, hi, hz, asInt, asIntOf, hw, hroom, hneg, hns, h48i, hst]
    | some a =>
      simp at hst
      simp [Builtin.append_, run_underlying ht, run_underlying htn, sizeOf, typeInfo, zeroValue, hi, hz, asInt, asIntOf, hw, hroom, hneg, hns, h48i, hst]
/-- append of zeros to a row of the call's own. -/
theorem run_append_zeros (T : Ty E st t bytes) {z : Value} {zz : α} (hzi : (Try.prog.info? t).map (fun i => (i.zero, i.size, i.bytes)) = some (some z, E.size, bytes)) (hz : E.cells zz = z.cells.toList) {tn : TypeId} (htn : Try.prog.underlying tn = some (.int .i64)) (w : World) (ty : TypeId) {B : Nat} {v : Value} {xs : List α} {k : Nat} (hown : OS E t w B v xs) (hm : xs.length + k ≤ 1099511627776) (hn : (xs.length + k) * bytes ≤ 140737488355328) (hB : B ≤ w.heap.size) :
    ∃ v' w', (Builtin.append_ #[st, tn] ty #[v, .int .i64 (k : Int)]).run Try.prog w = .ok v' w' ∧ OS E t w' B v' (xs ++ List.replicate k zz) ∧ w.grownBy w' v.ownBlock := by
  obtain ⟨i0, hi0, hz0, hz1, hz2⟩ := info_parts hzi
  have hzs : z.cells.size = E.size := by rw [← E.len zz, hz]; simp
  have hpos := E.pos
  have hw : IntKind.i64.wrap (k : Int) = k := by rw [IntKind.wrap_i64]; omega
  have hneg : ¬ ((k : Int) < 0) := by omega
  have h48i : ¬ (281474976710656 < (k : Int) * (i0.bytes : Int)) := by
    rw [← Int.natCast_mul, hz2]
    have : k * bytes ≤ (xs.length + k) * bytes := Nat.mul_le_mul_right _ (by omega)
    omega
  have hall : E.all (xs ++ List.replicate k zz) = E.all xs ++ (Builtin.zeroCells z.cells k).toList := by rw [E.all_append, zero_cells hz]
  have hzl : (Builtin.zeroCells z.cells k).toList.length = k * E.size := by rw [Array.length_toList, size_zeroCells, hzs]
  have hlen : (xs ++ List.replicate k zz).length = xs.length + k := by rw [List.length_append, List.length_replicate]
  rcases hown.2 with ⟨rfl, h0⟩ | ⟨g, cap, cur, rfl, hbg, hg, hnc, hcm, hcs, htake⟩
  · by_cases hk : k = 0
    · have hx0 : xs.length = 0 := h0
      have hrun := run_append_zeros_room (P := Try.prog) w st tn ty t i0 z .i64 T.und htn hi0 hz0 (by omega) none 0 0 k (by omega) (by omega) (by omega) (by rw [hk]; simp) w (by simp)
      refine ⟨_, w, hrun, ?_, ⟨rfl, rfl, rfl, Nat.le_refl _, fun _ _ _ => rfl⟩⟩
      subst hk
      simpa using hown
    · have hx0 : xs.length = 0 := h0
      have hrun := Lib.run_append_nil_zeros (P := Try.prog) w st tn ty t i0 z .i64 .i64 T.und htn hi0 hz0 k (by omega) (by omega) (by omega) (by rw [hz2]; have : k * bytes ≤ (xs.length + k) * bytes := Nat.mul_le_mul_right _ (by omega); omega)
      have hG := grownCap_ge w k 0 t
      have hM := grownCap_le_maxLen w k 0 t (by unfold maxLen; omega)
      refine ⟨_, _, hrun, ?_, ⟨rfl, rfl, rfl, by simp, fun j hj _ => Below.heap_alloc w.drew _ j hj⟩⟩
      have hxn : xs = [] := List.eq_nil_of_length_eq_zero hx0
      subst hxn
      rw [List.nil_append]
      refine ⟨by rw [E.all_length, List.length_replicate], .inr ⟨w.heap.size, grownCap w k 0 t, _, by rw [List.length_replicate], hB, heap_alloc_new w.drew _, by rw [List.length_replicate]; exact hG, hM, ?_, ?_⟩⟩
      · rw [Array.size_append, size_zeroCells, size_zeroCells, hzs, ← Nat.add_mul, Nat.add_sub_cancel' hG]
      · rw [Array.toList_append, List.length_replicate, ← zero_cells hz, List.take_append_of_le_length (by rw [Array.length_toList, size_zeroCells, hzs]; exact Nat.le_refl _), List.take_of_length_le (by rw [Array.length_toList, size_zeroCells, hzs]; exact Nat.le_refl _)]
  · by_cases hroom : xs.length + k ≤ cap
    · have hfit : xs.length * E.size + (Builtin.zeroCells z.cells k).toList.length ≤ cur.size := by
        rw [hzl, hcs, ← Nat.add_mul]; exact Nat.mul_le_mul_right _ hroom
      have hst := run_storeCells_at Try.prog g (xs.length * E.size) t (Builtin.zeroCells z.cells k).toList 0 cur w hg (by simpa using hfit) (by rw [zero_cells hz]; exact E.all_one _)
      simp only [Nat.add_zero] at hst
      have hrun := run_append_zeros_room (P := Try.prog) w st tn ty t i0 z .i64 T.und htn hi0 hz0 (by omega) (some ⟨g, 0, none⟩) xs.length cap k (by omega) hroom (by omega) (by
        rw [hz2]; have : k * bytes ≤ (xs.length + k) * bytes := Nat.mul_le_mul_right _ (by omega)
        omega) _ (by rw [hz1]; simp only [Addr.add_lit, Nat.zero_add]; exact hst)
      refine ⟨_, _, hrun, ⟨by rw [E.all_length, List.length_append, List.length_replicate], .inr ⟨g, cap, _, by rw [hlen], hbg, setRow_heap w g cur _ t _ hg, by rw [hlen]; exact hroom, hcm, ?_, ?_⟩⟩, ?_⟩
      · rw [List.size_toArray, List.length_append, List.length_append, List.length_take, List.length_drop, hzl]
        rw [hzl] at hfit
        have hct : cur.toList.length = cur.size := Array.length_toList
        omega
      · have hl1 : (cur.toList.take (xs.length * E.size)).length = xs.length * E.size := by
          rw [htake]; exact hown.1
        rw [hall, hlen]
        show ((_ : List Value).toArray.toList).take ((xs.length + k) * E.size) = _
        simp only [List.toList_toArray]
        rw [htake, List.take_append_of_le_length (by rw [List.length_append, hzl, E.all_length, ← Nat.add_mul]; exact Nat.le_refl _), List.take_of_length_le (by rw [List.length_append, hzl, E.all_length, ← Nat.add_mul]; exact Nat.le_refl _)]
      · exact ⟨rfl, rfl, rfl, by simp, fun j _ hj => setRow_other w g j _ (fun e => hj (by simp [Value.ownBlock, e]))⟩
    · have holds : ∀ j u, (E.all xs)[j]? = some u → w.cell? ((⟨g, 0, none⟩ : Addr).add j) = some u := World.ownsRow.cells hown (g := g) rfl
      have hold := run_firstCells_some (P := Try.prog) w.drew i0.size xs.length ⟨g, 0, none⟩ xs.length cap (E.all xs) (by rw [hz1]; exact hown.1) holds
      have hk : 0 < k := by omega
      have hrun := Lib.run_append_grow_zeros (P := Try.prog) w st tn ty t i0 z .i64 .i64 T.und htn hi0 hz0 (some ⟨g, 0, none⟩) xs.length cap (E.all xs) hold k hk (by omega) (by omega) (by omega) (by rw [hz2]; have : k * bytes ≤ (xs.length + k) * bytes := Nat.mul_le_mul_right _ (by omega); omega)
        (growslice_fits (by omega) (by rw [hz2]; exact hn))
      have hge := grownCap_ge w (xs.length + k) cap t
      have hcm2 := grownCap_le_maxLen w (xs.length + k) cap t (by unfold maxLen; omega)
      refine ⟨_, _, hrun, ⟨by rw [E.all_length, List.length_append, List.length_replicate], .inr ⟨w.heap.size, _, _, by rw [hlen], hB, heap_alloc_new w.drew _, by rw [hlen]; exact hge, hcm2, ?_, ?_⟩⟩, ⟨rfl, rfl, rfl, by simp, fun j hj _ => Below.heap_alloc w.drew _ j hj⟩⟩
      · simp only [Array.size_append, List.size_toArray, size_zeroCells, hzs, E.all_length, ← Nat.add_mul]
        congr 1
        omega
      · rw [hall, hlen]
        simp only [Array.toList_append]
        rw [List.take_append_of_le_length (by rw [List.length_append, hzl, E.all_length, ← Nat.add_mul]; exact Nat.le_refl _), List.take_of_length_le (by rw [List.length_append, hzl, E.all_length, ← Nat.add_mul]; exact Nat.le_refl _)]
end
theorem step_info : (Try.prog.info? 34).map (fun i => (i.zero, i.size, i.bytes)) = some (some (.agg #[.int .i64 0, .int .i64 0]), SE.size, 16) := by kernel_rfl
set_option maxRecDepth 100000 in
set_option maxHeartbeats 2000000 in
theorem padded_any (A : Option Addr) (n c : Nat) (M : List Step) (w : World) (h : RS SE w A n M) (hn : n ≤ 4) :
    Calls Try.prog 49 #[.slice A n c] w (fun e w' => ∃ gk c', e = .returned (.slice (some ⟨gk, 0, none⟩) 4 c') ∧ 4 ≤ c' ∧ RS SE w' (some ⟨gk, 0, none⟩) 4 (pd M) ∧ Below w.heap.size w w' ∧ w.heap.size ≤ gk ∧ gk < w'.heap.size) := by
  have hl := h.len
  have kc := Lib.hid (mclone_own A n c M w h (by omega))
  have hz := Lib.hid fun w' (v : Value) (ho : OS SE 34 w' w.heap.size v M) (hB : w.heap.size ≤ w'.heap.size) ty => run_append_zeros tyS (z := .agg #[.int .i64 0, .int .i64 0]) (zz := ((0, 0) : Step)) step_info rfl Try.underlying3 w' ty (k := 4 - n) ho (by omega) (by omega) hB
  have e1 : wrap64 ((4 : Int) - (n : Int)) = ((4 - n : Nat) : Int) := by unfold wrap64; omega
  have e2 : IntKind.i64.wrap ((4 : Int) - (n : Int)) = ((4 - n : Nat) : Int) := by rw [IntWalk.i64_in _ ⟨by omega, by omega⟩]; omega
  have hpd : Hid (M ++ List.replicate (4 - n) (0, 0) = pd M) := Lib.hid (by unfold pd; rw [hl])
  have hpl : Hid ((pd M).length = 4) := Lib.hid (pd_len (by omega))
  replace hl := Lib.hid hl
  go_enter Try.func49, Try.ntmps49
  go_wp2_with fail
  (with_reducible refine (kc.out).mono ?_)
  rintro e w1 ⟨v, rfl, ho, hb⟩
  obtain ⟨v2, w2, hrun, ho2, hg2⟩ := hz.out w1 v ho hb.size 29
  rw [hpd.out] at ho2
  have hbl := ho2.block_lt
  have hown := ho2.2
  obtain ⟨A2, n2, c2, rfl, hn2, hc2, -, hr2, hf2⟩ := ho2.form
  obtain rfl : n2 = 4 := by rw [hn2]; exact hpl.out
  obtain ⟨gk, rfl⟩ : ∃ gk, A2 = some ⟨gk, 0, none⟩ := by
    rcases hown with ⟨h1, h2⟩ | ⟨gk, cap, cur, h1, _⟩
    · have := hpl.out; omega
    · injection h1 with h1; exact ⟨gk, h1⟩
  have hb2 := hb.grown hg2 hb.size (fun k hk => (ho.block_lt k hk).1)
  obtain ⟨hfd, hfe⟩ := hbl gk rfl
  clear hz hpd hpl ho2 hn2 hf2 hbl hown
  go_wp2_with (at_builtin; (go_loud (refine Lib.wpList_append_run _ rfl _ _ _ _ rfl _ _ rfl rfl _ _ hrun ?_)))
  go_ret
  exact ⟨gk, c2, rfl, hc2, hr2, hb2, hfd, hfe⟩
end Go.Proofs.Ytkcmbpokoijglaa
