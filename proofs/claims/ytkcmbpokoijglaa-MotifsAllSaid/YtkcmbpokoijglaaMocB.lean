/- A map of the call's own, keyed by arrays of eight numbers: look-up, entry, store. -/
import Derived.Test.YtkcmbpokoijglaaMocA
import Derived.Maps.Keyed
import Derived.DeepKeys4
import Derived.MapFrom
set_option linter.unusedVariables false
set_option linter.unusedSimpArgs false
namespace Go.Proofs.Ytkcmbpokoijglaa
open Go.RowKit CoMot Go.MapKept
open Go.Maps (Keyed)

/-- The value of a key. -/
def kv (X : List Int) : Value := .agg (X.map (Value.int .i64)).toArray
def OKK (X : List Int) : Prop := X.length = 8 ∧ ∀ x ∈ X, 0 ≤ x ∧ x < 100
theorem kv_inj {X Y : List Int} (h : kv X = kv Y) : X = Y := by
  unfold kv at h
  injection h with h
  have h1 : X.map (Value.int .i64) = Y.map (Value.int .i64) := by simpa using congrArg Array.toList h
  induction X generalizing Y with
  | nil => cases Y with
    | nil => rfl
    | cons y Y => cases h1
  | cons x X ih => cases Y with
    | nil => cases h1
    | cons y Y =>
      injection h1 with h2 h3
      injection h2 with _ h2
      rw [h2, ih (by rw [h3]) h3]
theorem lawK : Keyed Try.prog 80 := Keyed.of_law (deep_law_laid (by kernel_rfl) (m := 3) (by omega) (of_decide_eq_true (by kernel_rfl)) (by kernel_rfl) (by rw [Try.underlying80]))
theorem key_of {X : List Int} (h : OKK X) : ∃ l, keyOf Try.prog 80 (kv X) = some l := by
  obtain ⟨hl, hb⟩ := h
  match X, hl with
  | [x0, x1, x2, x3, x4, x5, x6, x7], _ =>
    have w : ∀ x ∈ [x0, x1, x2, x3, x4, x5, x6, x7], (Lit.int .i64 x).wf = true := fun x hx => WalkArith.wf_i64 (by have := hb x hx; omega)
    have w0 := w x0 (by simp)
    have w1 := w x1 (by simp)
    have w2 := w x2 (by simp)
    have w3 := w x3 (by simp)
    have w4 := w x4 (by simp)
    have w5 := w x5 (by simp)
    have w6 := w x6 (by simp)
    have w7 := w x7 (by simp)
    have hks : Try.prog.keyType 80 = true := by kernel_rfl
    have hce : Try.prog.cellsOf 80 = 8 := by kernel_rfl
    have hc2 : Try.prog.cellsOf 34 = 2 := by kernel_rfl
    have hc1 : Try.prog.cellsOf 3 = 1 := by kernel_rfl
    have hf : (kv [x0, x1, x2, x3, x4, x5, x6, x7]).formed Try.prog 80 = true := by simp [kv, Value.formed, Try.underlying80, hce]
    obtain ⟨m, hm⟩ : ∃ m, Try.prog.types.size + 1 = m + 3 := ⟨Try.prog.types.size - 2, by have : 2 ≤ Try.prog.types.size := of_decide_eq_true (by kernel_rfl); omega⟩
    have hint : ∀ x, (Lit.int .i64 x).wf = true → Try.prog.keyLits (m + 1) 3 [.int .i64 x] = some [.int .i64 x] := fun x hx => by simp [Program.keyLits, Try.underlying3, hx]
    have harr : ∀ x y, (Lit.int .i64 x).wf = true → (Lit.int .i64 y).wf = true → Try.prog.keyLits (m + 2) 34 [.int .i64 x, .int .i64 y] = some [.int .i64 x, .int .i64 y] := fun x y hx hy => by
      rw [show m + 2 = (m + 1) + 1 from rfl]
      unfold Program.keyLits
      simp [Try.underlying34, hc2, hc1, List.range_succ, hint x hx, hint y hy]
    have hk : Try.prog.keyLits (m + 3) 80 (kv [x0, x1, x2, x3, x4, x5, x6, x7]).cells.toList = some [.int .i64 x0, .int .i64 x1, .int .i64 x2, .int .i64 x3, .int .i64 x4, .int .i64 x5, .int .i64 x6, .int .i64 x7] := by
      rw [show m + 3 = (m + 2) + 1 from rfl]
      unfold Program.keyLits
      simp [Try.underlying80, hce, hc2, List.range_succ, kv, Value.cells, harr _ _ w0 w1, harr _ _ w2 w3, harr _ _ w4 w5, harr _ _ w6 w7]
    refine ⟨.string (keyBytes [.int .i64 x0, .int .i64 x1, .int .i64 x2, .int .i64 x3, .int .i64 x4, .int .i64 x5, .int .i64 x6, .int .i64 x7]), ?_⟩
    unfold keyOf
    simp only [Try.underlying80, hks, hf, hm, Bool.and_true, if_true, hk, Option.map_some]
theorem gob {W : World} {r : Nat} {es : Array MapEntry} {cl : Nat} (hb : W.heap[r]? = some (.map es cl)) : (getObj r).run Try.prog W = .ok (.map es cl) W := by simp [getObj, Sem.run, hb]
theorem sob {W : World} {r : Nat} {es : Array MapEntry} {cl : Nat} (o' : Obj) (hb : W.heap[r]? = some (.map es cl)) : (setObj r o').run Try.prog W = .ok () { W with heap := W.heap.setIfInBounds r o' } := by simp [setObj, Sem.run, hb]

/-- An entry of the map: its key, its number, its birth. -/
def ent (p : List Int × Int × Nat) : MapEntry := { key := kv p.1, val := .int .i64 p.2.1, born := p.2.2 }
structure MB (W : World) (g : Nat) (E : List (List Int × Int × Nat)) (clock : Nat) : Prop where
  blk : W.heap[g]? = some (.map (E.map ent).toArray clock)
  ok : ∀ p ∈ E, OKK p.1
  nd : (E.map (·.1)).Nodup
  bn : (E.map (·.2.2)).Nodup
  lt : ∀ p ∈ E, p.2.2 < clock
def valOf (E : List (List Int × Int × Nat)) (X : List Int) : Int := ((E.find? (fun p => decide (p.1 = X))).map (·.2.1)).getD 0
theorem valOf_mem {E : List (List Int × Int × Nat)} (hn : (E.map (·.1)).Nodup) {p : List Int × Int × Nat} (hp : p ∈ E) : valOf E p.1 = p.2.1 := by
  unfold valOf
  induction E with
  | nil => cases hp
  | cons q E ih =>
    rw [List.map_cons, List.nodup_cons] at hn
    rw [List.find?_cons]
    by_cases hq : q.1 = p.1
    · rw [decide_eq_true hq]
      rcases List.mem_cons.1 hp with rfl | hp
      · rfl
      · exact absurd (List.mem_map.2 ⟨p, hp, hq.symm⟩) hn.1
    · rw [decide_eq_false hq]
      rcases List.mem_cons.1 hp with rfl | hp
      · exact absurd rfl hq
      · exact ih hn.2 hp
theorem valOf_not {E : List (List Int × Int × Nat)} {X : List Int} (h : ∀ p ∈ E, p.1 ≠ X) : valOf E X = 0 := by
  unfold valOf
  rw [List.find?_eq_none.2 (fun p hp => by simpa using h p hp)]; rfl
section
variable {W : World} {g clock : Nat} {E : List (List Int × Int × Nat)}
theorem MB.find (h : MB W g E clock) (W' : World) {X : List Int} (hX : OKK X) :
    ((Instr.findKey 80 (kv X) (E.map ent)).run Try.prog W' = .ok none W' ∧ ∀ p ∈ E, p.1 ≠ X) ∨ ∃ j p, (Instr.findKey 80 (kv X) (E.map ent)).run Try.prog W' = .ok (some (j, .int .i64 p.2.1)) W' ∧ E[j]? = some p ∧ p.1 = X := by
  obtain ⟨l, hl⟩ := key_of hX
  rcases lawK.find W' hl (E.map ent) (fun e he => by
    obtain ⟨p, hp, rfl⟩ := List.mem_map.1 he
    exact key_of (h.ok p hp)) with ⟨h1, h2⟩ | ⟨j, e, h1, h2, h3⟩
  · exact .inl ⟨h1, fun p hp hx => h2 (ent p) (List.mem_map.2 ⟨p, hp, rfl⟩) (by rw [← hx]; rfl)⟩
  · rw [List.getElem?_map] at h2
    cases hj : E[j]? with
    | none => rw [hj] at h2; cases h2
    | some p =>
      rw [hj] at h2
      injection h2 with h2
      subst h2
      exact .inr ⟨j, p, h1, hj, kv_inj h3⟩
theorem map_und : Try.prog.underlying 78 = some (.map 80 3) := Try.underlying78
theorem zero_int (w : World) : (zeroValue 3).run Try.prog w = .ok (.int .i64 0) w := by kernel_rfl
/-- The number at a key. -/
theorem MB.look (h : MB W g E clock) {X : List Int} (hX : OKK X) : (Instr.lookup 78 (.map (some g)) (kv X) false).run Try.prog W = .ok (.int .i64 (valOf E X)) W := by
  obtain ⟨l, hl⟩ := key_of hX
  rcases h.find W hX with ⟨h1, h2⟩ | ⟨j, p, h1, h2, h3⟩
  · rw [valOf_not h2]
    simp [Instr.lookup, run_underlying map_und, gob h.blk, lawK.check W _ hl, h1, zero_int]
  · subst h3
    rw [valOf_mem h.nd (List.mem_of_getElem? h2)]
    simp [Instr.lookup, run_underlying map_und, gob h.blk, lawK.check W _ hl, h1]
theorem same_setObj {W : World} {g : Nat} (o : Obj) : Same (fun k => k = g) W { W with heap := W.heap.setIfInBounds g o } :=
  ⟨rfl, rfl, rfl, by simp, fun k hk hn => by simp [Ne.symm (show k ≠ g from hn)]⟩
/-- The map says what F says. -/
def MF (W : World) (g : Nat) (F : List Int → Int) : Prop := ∃ E clock, MB W g E clock ∧ ∀ X, valOf E X = F X
/-- The same, and there is an entry of X that was born then. -/
def MFe (W : World) (g : Nat) (F : List Int → Int) (X : List Int) (b : Nat) : Prop := ∃ E clock, MB W g E clock ∧ (∀ Y, valOf E Y = F Y) ∧ ∃ v, (X, v, b) ∈ E
theorem MF.look {F : List Int → Int} (h : MF W g F) {X : List Int} (hX : OKK X) : (Instr.lookup 78 (.map (some g)) (kv X) false).run Try.prog W = .ok (.int .i64 (F X)) W := by
  obtain ⟨E, clock, h1, h2⟩ := h
  rw [← h2]; exact h1.look hX
/-- The entry of a key. -/
theorem MF.entry {F : List Int → Int} (h : MF W g F) {X : List Int} (hX : OKK X) : ∃ (v : Value) (b : Nat) (W' : World), (Instr.mapEntry 78 (.map (some g)) (kv X)).run Try.prog W = .ok (.tuple #[v, .int .i64 (b : Int)]) W' ∧ MFe W' g F X b ∧ Same (fun k => k = g) W W' := by
  obtain ⟨E, clock, h0, hF⟩ := h
  obtain ⟨l, hl⟩ := key_of hX
  rcases h0.find W hX with ⟨h1, h2⟩ | ⟨j, p, h1, h2, h3⟩
  · refine ⟨.int .i64 0, clock, { W with heap := W.heap.setIfInBounds g (.map ((E ++ [(X, 0, clock)]).map ent).toArray (clock + 1)) }, ?_, ⟨E ++ [(X, 0, clock)], clock + 1, ⟨(MapKept.heap_set h0.blk).1, ?_, ?_, ?_, ?_⟩, ?_, 0, by simp⟩, same_setObj _⟩
    · simp [Instr.mapEntry, run_underlying map_und, gob h0.blk, lawK.check W _ hl, h1, zero_int, goInt, sob _ h0.blk, ent]
    · intro q hq
      rcases List.mem_append.1 hq with hq | hq
      · exact h0.ok q hq
      · rw [List.mem_singleton] at hq; rw [hq]; exact hX
    · rw [List.map_append, List.nodup_append]
      refine ⟨h0.nd, by simp, fun a ha b hb => ?_⟩
      simp at hb
      subst hb
      obtain ⟨q, hq, rfl⟩ := List.mem_map.1 ha
      exact h2 q hq
    · rw [List.map_append, List.nodup_append]
      refine ⟨h0.bn, by simp, fun a ha b hb => ?_⟩
      simp at hb
      subst hb
      obtain ⟨q, hq, rfl⟩ := List.mem_map.1 ha
      have := h0.lt q hq
      omega
    · intro q hq
      rcases List.mem_append.1 hq with hq | hq
      · exact Nat.lt_succ_of_lt (h0.lt q hq)
      · rw [List.mem_singleton] at hq; rw [hq]; exact Nat.lt_succ_self _
    · intro Y
      rw [← hF Y]
      unfold valOf
      rw [List.find?_append]
      cases hf : E.find? (fun p => decide (p.1 = Y)) with
      | some q => rfl
      | none =>
        by_cases hy : X = Y
        · simp [hy]
        · simp [hy]
  · subst h3
    have hm := List.mem_of_getElem? h2
    refine ⟨.int .i64 p.2.1, p.2.2, { W with heap := W.heap.setIfInBounds g (.map (E.map ent).toArray clock) }, ?_, ⟨E, clock, ⟨(MapKept.heap_set h0.blk).1, h0.ok, h0.nd, h0.bn, h0.lt⟩, hF, p.2.1, hm⟩, same_setObj _⟩
    have hj : (E.map ent).toArray[j]? = some (ent p) := by simp [h2]
    have he : (E.map ent).toArray.modify j (fun e => { e with key := kv p.1 }) = (E.map ent).toArray := by
      apply Array.ext_getElem?
      intro i
      rw [Array.getElem?_modify]
      by_cases hi : j = i
      · subst hi; rw [if_pos rfl, hj]; rfl
      · rw [if_neg hi]
    have hk1 : ((E.map ent).toArray[j]?.map (·.key)).getD (kv p.1) = kv p.1 := by rw [hj]; rfl
    have hk2 : ((E.map ent).toArray[j]?.map (·.born)).getD 0 = p.2.2 := by rw [hj]; rfl
    generalize hes : (E.map ent).toArray = es at *
    have h1' : (Instr.findKey 80 (kv p.1) es.toList).run Try.prog W = .ok (some (j, .int .i64 p.2.1)) W := by rw [← hes]; simpa using h1
    have hb := h0.blk
    rw [hes] at hb
    simp only [Instr.mapEntry, Sem.run_bind, run_underlying map_und, gob hb, lawK.check W _ hl, h1', Result.andThen_ok, hk1, hk2, lawK.stays W hl, he, sob _ hb, goInt, Sem.run_pure]
    rw [hj]; rfl
/-- One number is another one. -/
def upF (F : List Int → Int) (X : List Int) (v : Int) : List Int → Int := fun Y => if Y = X then v else F Y
/-- A store at an entry. -/
theorem MFe.store {F : List Int → Int} {X : List Int} {b : Nat} (h : MFe W g F X b) (v : Int) : ∃ W', (Instr.entryStore 78 (.map (some g)) (.int .i64 (b : Int)) (.int .i64 v)).run Try.prog W = .ok () W' ∧ MF W' g (upF F X v) ∧ Same (fun k => k = g) W W' := by
  obtain ⟨E, clock, h0, hF, v0, hm⟩ := h
  obtain ⟨j, hj⟩ := List.mem_iff_getElem?.1 hm
  have hlt := (List.getElem?_eq_some_iff.1 hj).1
  have hje := (List.getElem?_eq_some_iff.1 hj).2
  have hbj : ∀ i q, E[i]? = some q → (q.2.2 = b ↔ i = j) := fun i q hi => by
    constructor
    · intro hq
      have h1 : (E.map (·.2.2))[i]? = some b := by rw [List.getElem?_map, hi, ← hq]; rfl
      have h2 : (E.map (·.2.2))[j]? = some b := by rw [List.getElem?_map, hj]; rfl
      exact (List.getElem?_inj (by rw [List.length_map]; exact (List.getElem?_eq_some_iff.1 hi).1) h0.bn).1 (h1.trans h2.symm)
    · intro hij
      subst hij
      rw [hj] at hi; injection hi with hi; rw [← hi]
  have hE' : ∀ i q, E[i]? = some q → (E.set j (X, v, b))[i]? = some (if i = j then (X, v, b) else q) := fun i q hi => by
    rw [List.getElem?_set]
    by_cases hij : j = i
    · subst hij; simp [hlt]
    · rw [if_neg hij, if_neg (fun e => hij e.symm)]; exact hi
  have hkeys : (E.set j (X, v, b)).map (·.1) = E.map (·.1) := by
    apply List.ext_getElem?
    intro i
    rw [List.getElem?_map, List.getElem?_map, List.getElem?_set]
    by_cases hij : j = i
    · subst hij; simp [hlt, hje]
    · rw [if_neg hij]
  have hborn : (E.set j (X, v, b)).map (·.2.2) = E.map (·.2.2) := by
    apply List.ext_getElem?
    intro i
    rw [List.getElem?_map, List.getElem?_map, List.getElem?_set]
    by_cases hij : j = i
    · subst hij; simp [hlt, hje]
    · rw [if_neg hij]
  have hfind : (E.map ent).toArray.findIdx? (fun e => (e.born : Int) == (b : Int)) = some j := by
    rw [List.findIdx?_toArray, List.findIdx?_map, List.findIdx?_eq_some_iff_getElem]
    obtain ⟨hjl, hje⟩ := List.getElem?_eq_some_iff.1 hj
    refine ⟨hjl, by simp [ent, hje], fun i hi => ?_⟩
    have := hbj i _ (List.getElem?_eq_getElem (by omega))
    simp only [Function.comp_apply, ent, beq_iff_eq]
    omega
  have hmod : (E.map ent).toArray.modify j (fun e => { e with val := .int .i64 v }) = ((E.set j (X, v, b)).map ent).toArray := by
    apply Array.ext_getElem?
    intro i
    rw [Array.getElem?_modify]
    simp only [List.getElem?_toArray, List.getElem?_map, List.getElem?_set]
    by_cases hij : j = i
    · subst hij; simp [hlt, hje, ent]
    · simp [hij]
  refine ⟨{ W with heap := W.heap.setIfInBounds g (.map ((E.set j (X, v, b)).map ent).toArray clock) }, ?_, ⟨E.set j (X, v, b), clock, ⟨(MapKept.heap_set h0.blk).1, ?_, by rw [hkeys]; exact h0.nd, by rw [hborn]; exact h0.bn, ?_⟩, fun Y => ?_⟩, same_setObj _⟩
  · simp only [Instr.entryStore, Sem.run_bind, gob h0.blk, Result.andThen_ok, asInt, asIntOf, Sem.run_pure, hfind, hmod, sob _ h0.blk]
  · intro q hq
    obtain ⟨i, hi⟩ := List.mem_iff_getElem?.1 hq
    have hil : i < E.length := by have := (List.getElem?_eq_some_iff.1 hi).1; simpa using this
    rw [hE' i _ (List.getElem?_eq_getElem hil)] at hi
    injection hi with hi
    rw [← hi]
    split
    · exact h0.ok (X, v0, b) hm
    · exact h0.ok _ (List.getElem_mem _)
  · intro q hq
    obtain ⟨i, hi⟩ := List.mem_iff_getElem?.1 hq
    have hil : i < E.length := by have := (List.getElem?_eq_some_iff.1 hi).1; simpa using this
    rw [hE' i _ (List.getElem?_eq_getElem hil)] at hi
    injection hi with hi
    rw [← hi]
    split
    · exact h0.lt (X, v0, b) hm
    · exact h0.lt _ (List.getElem_mem _)
  · have hnd' : ((E.set j (X, v, b)).map (·.1)).Nodup := by rw [hkeys]; exact h0.nd
    have hmX : (X, v, b) ∈ E.set j (X, v, b) := List.mem_iff_getElem?.2 ⟨j, by rw [hE' j _ hj, if_pos rfl]⟩
    unfold upF
    by_cases hY : Y = X
    · rw [if_pos hY, hY]
      exact valOf_mem hnd' hmX
    · rw [if_neg hY, ← hF Y]
      by_cases hex : ∃ p ∈ E, p.1 = Y
      · obtain ⟨p, hp, hpY⟩ := hex
        have hp2 : p ∈ E.set j (X, v, b) := by
          obtain ⟨i, hi⟩ := List.mem_iff_getElem?.1 hp
          refine List.mem_iff_getElem?.2 ⟨i, ?_⟩
          rw [hE' i _ hi, if_neg]
          intro hij
          subst hij
          rw [hj] at hi; injection hi with hi
          rw [← hi] at hpY
          exact hY hpY.symm
        rw [← hpY, valOf_mem hnd' hp2, valOf_mem h0.nd hp]
      · have hn : ∀ p ∈ E, p.1 ≠ Y := fun p hp e => hex ⟨p, hp, e⟩
        rw [valOf_not hn, valOf_not]
        intro q hq he
        have : q.1 ∈ (E.set j (X, v, b)).map (·.1) := List.mem_map.2 ⟨q, hq, rfl⟩
        rw [hkeys] at this
        obtain ⟨p, hp, hpq⟩ := List.mem_map.1 this
        exact hn p hp (hpq.trans he)
theorem MFe.mf {F : List Int → Int} {X : List Int} {b : Nat} (h : MFe W g F X b) : MF W g F := by
  obtain ⟨E, clock, h0, hF, _⟩ := h
  exact ⟨E, clock, h0, hF⟩
theorem MF.made (W : World) : MF (W.alloc (.map #[] 0)) W.heap.size (fun _ => 0) :=
  ⟨[], 0, ⟨heap_alloc_new W _, by simp, by simp, by simp, by simp⟩, fun X => rfl⟩
theorem MF.keep {W' : World} {ex : Nat → Prop} {F : List Int → Int} (h : MF W g F) (hs : Same ex W W') (hg : ¬ ex g) : MF W' g F := by
  obtain ⟨E, clock, h0, hF⟩ := h
  exact ⟨E, clock, ⟨(hs.block g (Array.getElem?_eq_some_iff.1 h0.blk).1 hg).trans h0.blk, h0.ok, h0.nd, h0.bn, h0.lt⟩, hF⟩
theorem MFe.keep {W' : World} {ex : Nat → Prop} {F : List Int → Int} {X : List Int} {b : Nat} (h : MFe W g F X b) (hs : Same ex W W') (hg : ¬ ex g) : MFe W' g F X b := by
  obtain ⟨E, clock, h0, hF, hv⟩ := h
  exact ⟨E, clock, ⟨(hs.block g (Array.getElem?_eq_some_iff.1 h0.blk).1 hg).trans h0.blk, h0.ok, h0.nd, h0.bn, h0.lt⟩, hF, hv⟩
theorem MF.lt {F : List Int → Int} (h : MF W g F) : g < W.heap.size := by
  obtain ⟨E, clock, h0, hF⟩ := h
  exact (Array.getElem?_eq_some_iff.1 h0.blk).1
end
end Go.Proofs.Ytkcmbpokoijglaa
