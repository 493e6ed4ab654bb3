/- The network is made. -/
import Derived.Test.YticekkjambkifaaDoorFlwC
import Derived.Test.YticekkjambkifaaDoorZad
import Derived.Deep.RegionLaw
set_option linter.unusedVariables false
set_option linter.unusedSimpArgs false
namespace Go.Proofs.YticekkjambkifaaDoor.Fl
open Go.RowKit Go.Proofs.YticekkjambkifaaDoor
/-- Operation i must come ahead of operation m. -/
def hasB (md : Region.Mode) (ops : Array Oper) (m i : Nat) : Bool := match ops[m]? with | some o => o.after.toList.any fun e => Region.binds md e && e.on == i | none => false
/-- An operation that comes ahead of the last one, and that yields the same wherever S holds, is taken first; S need not hold behind the last one. -/
theorem takeS {P : Program} {md : Region.Mode} {ops : Array Oper} {Q : Exit → Act → World → Prop} {S : World → Prop} {m i : Nat} {oi : Oper} {d : Option Tmp} {v : Value} {fuel : Nat} {listed : Array Bool} {a : Act} {w : World} (hi : ops[i]? = some oi) (hd : oi.dst = d)
    (hs : Region.noSelect ops = true) (hf : Region.free md ops listed i = true) (hr : (Region.ready md ops listed).contains i = true)
    (hQ : ∀ c a w, Q (.panic c) a w → False) (hm : hasB md ops m i = true) (hy : YieldsIf P ops S oi v a) (hS : S w)
    (h : wpAnyT P md ops Q (fun j w => j = m ∨ S w) fuel (listed.setIfInBounds i true) (a.put d v) w) : wpAnyT P md ops Q (fun j w => j = m ∨ S w) (fuel + 1) listed a w :=
  wpAnyT_take hi hs hf hr (fun c a w h => (hQ _ _ _ h).elim) (fun w h => .inr h) (fun j oj hj hji hun hno w hT => by
    rcases hT with rfl | h
    · exfalso
      unfold hasB at hm
      rw [hj] at hm
      obtain ⟨e, he, hb⟩ := List.any_eq_true.1 hm
      rw [Bool.and_eq_true, beq_iff_eq] at hb
      exact hno e (by simpa using he) hb.1 hb.2
    · exact h) hy hS (by rw [hd]; exact h)
/-- A region that is walked with a condition for each operation; what follows it is put out of sight. -/
theorem wp_region_TS {P : Program} {ops : Array Oper} {Q : Exit → Act → World → Prop} {T : Nat → World → Prop} {id : Nat} {a : Act} {w : World} (hm : P.follows .mixedOrders = true)
    (h : ∀ Q' : Exit → Act → World → Prop, Hid (∀ a w, Q .normal a w → Q' .normal a w) → Hid (∀ c a w, Q' (.panic c) a w → False) → wpAnyT P .any ops Q' T ops.size (Array.replicate ops.size false) a w.drew) : (Code.region id ops true).wp P Q a w :=
  wp_region_noPanic (wp_region_T hm (h (NoPanic Q) (Lib.hid fun _ _ h => h) (Lib.hid fun _ _ _ h => h)))
theorem slice_info_ : (Tryd.prog.info? 22).map (fun i => (i.zero, i.size, i.bytes)) = some (some (.slice none 0 0), 1, 24) := by kernel_rfl
theorem make_I (n : Nat) (hn : n ≤ 1099511627776) : ∃ F : World → World, (∀ w, Sem.run Tryd.prog (Instr.makeSlice 22 (.int .i64 (n : Int)) (.int .i64 (n : Int))) w = .ok (.slice (some ⟨w.heap.size, 0, none⟩) n n) (F w)) ∧ (∀ w, AI (F w) w.heap.size (List.replicate n 0)) ∧ ∀ w : World, w.grownBy (F w) none := by
  have h : ∀ w : World, ∃ w', Sem.run Tryd.prog (Instr.makeSlice 22 (.int .i64 (n : Int)) (.int .i64 (n : Int))) w = .ok (.slice (some ⟨w.heap.size, 0, none⟩) n n) w' ∧ AI w' w.heap.size (List.replicate n 0) ∧ w.grownBy w' none := fun w => by
    obtain ⟨i0, hi0, hz0, hz1, hz2⟩ := info_parts int_info
    obtain ⟨w', hrun, r1, r2⟩ := run_make_full (P := Tryd.prog) w w.heap.size 22 3 i0 _ 1 Tryd.underlying22 hi0 hz0 hz1 .i64 .i64 n (by rw [hz2]; omega) (by unfold maxLen; omega) (Nat.le_refl _)
    refine ⟨w', hrun, ?_, r2⟩
    have := blk_of_own r1
    rw [show (Value.int IntKind.i64 0).cells = #[.int .i64 0] from rfl, Nat.mul_one, toList_madeCells_one] at this
    unfold AI
    have e : ints (List.replicate n 0) = List.replicate n (.int .i64 0) := List.map_replicate
    rw [e]; exact this
  exact ⟨fun w => Classical.choose (h w), fun w => (Classical.choose_spec (h w)).1, fun w => (Classical.choose_spec (h w)).2.1, fun w => (Classical.choose_spec (h w)).2.2⟩
theorem make_L (n : Nat) (hn : n ≤ 1099511627776) : ∃ F : World → World, (∀ w, Sem.run Tryd.prog (Instr.makeSlice 178 (.int .i64 (n : Int)) (.int .i64 (n : Int))) w = .ok (.slice (some ⟨w.heap.size, 0, none⟩) n n) (F w)) ∧ (∀ w, Blk (F w) w.heap.size 22 (List.replicate n (.slice none 0 0)).toArray) ∧ ∀ w : World, w.grownBy (F w) none := by
  have h : ∀ w : World, ∃ w', Sem.run Tryd.prog (Instr.makeSlice 178 (.int .i64 (n : Int)) (.int .i64 (n : Int))) w = .ok (.slice (some ⟨w.heap.size, 0, none⟩) n n) w' ∧ Blk w' w.heap.size 22 (List.replicate n (.slice none 0 0)).toArray ∧ w.grownBy w' none := fun w => by
    obtain ⟨i0, hi0, hz0, hz1, hz2⟩ := info_parts slice_info_
    obtain ⟨w', hrun, r1, r2⟩ := run_make_full (P := Tryd.prog) w w.heap.size 178 22 i0 _ 1 Tryd.underlying178 hi0 hz0 hz1 .i64 .i64 n (by rw [hz2]; omega) (by unfold maxLen; omega) (Nat.le_refl _)
    refine ⟨w', hrun, ?_, r2⟩
    have := blk_of_own r1
    rw [show (Value.slice none 0 0).cells = #[.slice none 0 0] from rfl, Nat.mul_one, toList_madeCells_one] at this
    exact this
  exact ⟨fun w => Classical.choose (h w), fun w => (Classical.choose_spec (h w)).1, fun w => (Classical.choose_spec (h w)).2.1, fun w => (Classical.choose_spec (h w)).2.2⟩
theorem kept_none {w w' : World} (h : w.grownBy w' none) {b o : Nat} {v : Value} (hv : w.cell? ⟨b, o, none⟩ = some v) : w'.cell? ⟨b, o, none⟩ = some v := h.cell hv (by simp)
/-- An arc in memory. -/
def AE : El Ar where
  size := 3
  cells a := [.int .i64 (a.1 : Nat), .int .i64 (a.2.1 : Nat), .int .i64 (a.2.2 : Nat)]
  len _ := rfl
  one x u hu := by simp at hu; rcases hu with rfl | rfl | rfl <;> rfl
  pos := by omega
theorem kept_alloc {w : World} {b o : Nat} {v : Value} (hv : w.cell? ⟨b, o, none⟩ = some v) (ob : Obj) : (w.alloc ob).cell? ⟨b, o, none⟩ = some v := (World.cell?_alloc_lt _ _ _ (World.block_lt_of_cell? w _ hv)).trans hv
/-- The network without arcs. -/
structure Bare (W wx : World) (N sink x go gl gn : Nat) : Prop where
  net : Blk wx x 180 #[.slice none 0 0, .slice (some ⟨go, 0, none⟩) N N, .slice (some ⟨gl, 0, none⟩) N N, .slice (some ⟨gn, 0, none⟩) N N, .int .i64 (sink : Nat)]
  out : Blk wx go 22 (List.replicate N (.slice none 0 0)).toArray
  lev : AI wx gl (List.replicate N 0)
  nxt : AI wx gn (List.replicate N 0)
  bel : Below W.heap.size W wx
  low : W.heap.size ≤ go ∧ W.heap.size ≤ gl ∧ W.heap.size ≤ gn
  up : go < x ∧ gl < x ∧ gn < x
  dis : go ≠ gl ∧ go ≠ gn ∧ gl ≠ gn
theorem bare_of {W w3 : World} {N sink go gl gn : Nat} (b : Below W.heap.size W w3) (ho : Blk w3 go 22 (List.replicate N (.slice none 0 0)).toArray) (hl : AI w3 gl (List.replicate N 0)) (hn : AI w3 gn (List.replicate N 0)) (h1 : W.heap.size ≤ go) (h2 : W.heap.size ≤ gl) (h3 : W.heap.size ≤ gn) (h4 : go ≠ gl) (h5 : go ≠ gn) (h6 : gl ≠ gn) :
    Bare W (w3.alloc (.cells #[.slice none 0 0, .slice (some ⟨go, 0, none⟩) N N, .slice (some ⟨gl, 0, none⟩) N N, .slice (some ⟨gn, 0, none⟩) N N, .int .i64 (sink : Nat)] 180)) N sink w3.heap.size go gl gn :=
  ⟨Blk.new _ _ _, ho.alloc _, hl.alloc _, hn.alloc _, b.alloc b.size _, ⟨h1, h2, h3⟩, ⟨ho.lt, hl.lt, hn.lt⟩, ⟨h4, h5, h6⟩⟩
theorem below3 {W w1 w2 w3 : World} (h1 : W.drew.grownBy w1 none) (h2 : w1.grownBy w2 none) (h3 : w2.grownBy w3 none) : Below W.heap.size W w3 :=
  have b1 : Below W.heap.size W w1 := ((Below.refl W.heap.size W).drew).trans (grown_none_below h1 W.heap.size (Nat.le_refl _))
  (b1.trans (grown_none_below h2 W.heap.size b1.size)).trans (grown_none_below h3 W.heap.size (Nat.le_trans b1.size h2.size))
/-- Half an arc in memory. -/
def HE : El (Nat × Nat × Nat × Nat) where
  size := 4
  cells a := [.int .i64 (a.1 : Nat), .int .i64 (a.2.1 : Nat), .int .i64 (a.2.2.1 : Nat), .int .i64 (a.2.2.2 : Nat)]
  len _ := rfl
  one x u hu := by simp at hu; rcases hu with rfl | rfl | rfl | rfl <;> rfl
  pos := by omega
/-- The lists of the first j halves. -/
structure OutJ (N : Nat) (ac : List Ar) (j : Nat) (outs : List (List Nat)) : Prop where
  len : outs.length = N
  out_mem : ∀ u, ∀ i ∈ outs.getD u [], i < j ∧ fr ac i = u
  mem_out : ∀ i, i < j → i ∈ outs.getD (fr ac i) []
  small : ∀ u, (outs.getD u []).length ≤ j
theorem OutJ.start (N : Nat) (ac : List Ar) : OutJ N ac 0 (List.replicate N []) := by
  have h : ∀ u, (List.replicate N ([] : List Nat)).getD u [] = [] := fun u => by
    rw [List.getD_eq_getElem?_getD, List.getElem?_replicate]; split <;> rfl
  exact ⟨List.length_replicate, fun u i hi => (by rw [h u] at hi; cases hi), fun i hi => absurd hi (Nat.not_lt_zero _), fun u => by rw [h u]; exact Nat.le_refl _⟩
theorem OutJ.step {N : Nat} {ac : List Ar} {j u : Nat} {outs : List (List Nat)} (h : OutJ N ac j outs) (hu : fr ac j = u) (huN : u < N) : OutJ N ac (j + 1) (outs.set u (outs.getD u [] ++ [j])) := by
  have hg : ∀ v, (outs.set u (outs.getD u [] ++ [j])).getD v [] = if v = u then outs.getD u [] ++ [j] else outs.getD v [] := fun v => by
    rw [List.getD_eq_getElem?_getD, List.getD_eq_getElem?_getD, List.getElem?_set]
    by_cases e : u = v
    · subst e; rw [if_pos rfl, if_pos (by rw [h.len]; exact huN), if_pos rfl]; rfl
    · rw [if_neg e, if_neg (fun e' => e e'.symm), List.getD_eq_getElem?_getD]
  refine ⟨by rw [List.length_set]; exact h.len, fun v i hi => ?_, fun i hi => ?_, fun v => ?_⟩
  · rw [hg v] at hi
    split at hi
    · rename_i e
      rcases List.mem_append.1 hi with h1 | h1
      · have := h.out_mem u i h1; exact ⟨by omega, by rw [e]; exact this.2⟩
      · rw [List.mem_singleton] at h1; subst h1; exact ⟨by omega, by rw [e]; exact hu⟩
    · have := h.out_mem v i hi; exact ⟨by omega, this.2⟩
  · rw [hg]
    split
    · rename_i e
      rcases Nat.lt_or_ge i j with h1 | h1
      · have := h.mem_out i h1; rw [e] at this; exact List.mem_append.2 (.inl this)
      · obtain rfl : i = j := by omega
        exact List.mem_append.2 (.inr (List.mem_singleton.2 rfl))
    · rename_i e
      rcases Nat.lt_or_ge i j with h1 | h1
      · exact h.mem_out i h1
      · obtain rfl : i = j := by omega
        exact absurd hu e
  · rw [hg]
    split
    · rw [List.length_append, List.length_singleton]; have := h.small u; omega
    · have := h.small v; omega
/-- The network while it is made. -/
structure OM (w : World) (B x go gl gn N sink j : Nat) (Hv : Value) (hs : List (Nat × Nat × Nat × Nat)) (vs : List Value) (outs : List (List Nat)) : Prop where
  net : Blk w x 180 #[Hv, .slice (some ⟨go, 0, none⟩) N N, .slice (some ⟨gl, 0, none⟩) N N, .slice (some ⟨gn, 0, none⟩) N N, .int .i64 (sink : Nat)]
  half : OS HE 176 w B Hv hs
  out : Blk w go 22 vs.toArray
  vlen : vs.length = N
  row : ∀ (u : Nat) (v : Value), vs[u]? = some v → OI w B v (nts (outs.getD u []))
  sep : ∀ (u u' : Nat) (v v' : Value) (k : Nat), u ≠ u' → vs[u]? = some v → vs[u']? = some v' → v.ownBlock = some k → v'.ownBlock ≠ some k
  sepH : ∀ (u : Nat) (v : Value) (k : Nat), vs[u]? = some v → v.ownBlock = some k → Hv.ownBlock ≠ some k
  lev : AI w gl (List.replicate N 0)
  nxt : AI w gn (List.replicate N 0)
  lt : x < B ∧ go < B ∧ gl < B ∧ gn < B
  dis : x ≠ go ∧ x ≠ gl ∧ x ≠ gn ∧ go ≠ gl ∧ go ≠ gn ∧ gl ≠ gn
section
variable {w w' : World} {B x go gl gn N sink j : Nat} {Hv : Value} {hs : List (Nat × Nat × Nat × Nat)} {vs : List Value} {outs : List (List Nat)}
theorem OM.bel (h : OM w B x go gl gn N sink j Hv hs vs outs) (hb : Below w.heap.size w w') : OM w' B x go gl gn N sink j Hv hs vs outs :=
  ⟨h.net.below hb h.net.lt, h.half.below hb (Nat.le_refl _), h.out.below hb h.out.lt, h.vlen, fun u v hv => (h.row u v hv).below hb (Nat.le_refl _), h.sep, h.sepH, h.lev.below hb h.lev.lt, h.nxt.below hb h.nxt.lt, h.lt, h.dis⟩
theorem own_eq {v v' : Value} {b k : Nat} (h : v'.ownBlock = v.ownBlock ∨ ∃ k, v'.ownBlock = some k ∧ b ≤ k) (hk : v'.ownBlock = some k) : v.ownBlock = some k ∨ b ≤ k := by
  rcases h with h | ⟨k', h, h'⟩
  · rw [h] at hk; exact .inl hk
  · rw [h] at hk; injection hk with hk; exact .inr (by omega)
/-- A row has got one more. -/
theorem OM.rowPush (h : OM w B x go gl gn N sink j Hv hs vs outs) (hol : outs.length = N) {u i : Nat} {v v' : Value} (hv : vs[u]? = some v) (ho : OI w' B v' (nts (outs.getD u []) ++ [(i : Int)])) (hg : w.grownBy w' v.ownBlock) (hw : v'.ownBlock = v.ownBlock ∨ ∃ k, v'.ownBlock = some k ∧ w.heap.size ≤ k) :
    OM (w'.setCell ⟨go, u, none⟩ v') B x go gl gn N sink j Hv hs (vs.set u v') (outs.set u (outs.getD u [] ++ [i])) := by
  obtain ⟨l1, l2, l3, l4⟩ := h.lt
  obtain ⟨d1, d2, d3, d4, d5, d6⟩ := h.dis
  have hul : u < vs.length := (List.getElem?_eq_some_iff.1 hv).1
  have hB : ∀ k, v.ownBlock = some k → B ≤ k ∧ k < w.heap.size := (h.row u v hv).block_lt
  have ne : ∀ g, g < B → some g ≠ v.ownBlock := fun g hg' e => by have := (hB g e.symm).1; omega
  have hsz := hg.size
  have hBs : go < w'.heap.size := Nat.lt_of_lt_of_le h.out.lt hsz
  have far : ∀ {g : Nat} {t : TypeId} {cs : Array Value}, Blk w g t cs → g < B → g ≠ go → Blk (w'.setCell ⟨go, u, none⟩ v') g t cs := fun hb hgB hgo => (hb.grown hg (ne _ hgB)).far hgo _
  have nv : ∀ (u' : Nat) (y : Value), u' ≠ u → vs[u']? = some y → y.ownBlock = none ∨ y.ownBlock ≠ v.ownBlock := fun u' y hne hy => by
    cases hyo : y.ownBlock with
    | none => exact .inl rfl
    | some k => exact .inr fun e => h.sep u' u y v k hne hy hv hyo e.symm
  have gets : ∀ (u' : Nat) (y : Value), (vs.set u v')[u']? = some y → (u' = u ∧ y = v') ∨ (u' ≠ u ∧ vs[u']? = some y) := fun u' y hy => by
    rw [List.getElem?_set] at hy
    by_cases e : u = u'
    · rw [if_pos e, if_pos hul] at hy
      injection hy with hy; exact .inl ⟨e.symm, hy.symm⟩
    · rw [if_neg e] at hy; exact .inr ⟨fun e' => e e'.symm, hy⟩
  have lowk : ∀ (u' : Nat) (y : Value) (k : Nat), vs[u']? = some y → y.ownBlock = some k → k < w.heap.size := fun u' y k hy hk => ((h.row u' y hy).block_lt k hk).2
  refine ⟨far h.net l1 d1, ?_, ?_, by rw [List.length_set]; exact h.vlen, fun u' y hy => ?_, fun u1 u2 y1 y2 k hne h1 h2 hk => ?_, fun u' y k hy hk => ?_, far h.lev l3 (fun e => d4 e.symm), far h.nxt l4 (fun e => d5 e.symm), h.lt, h.dis⟩
  · refine OS.set_far (h.half.kept hg ?_) (p := ⟨go, u, none⟩) (by simpa using l2) v'
    cases hH : Hv.ownBlock with
    | none => exact .inl rfl
    | some k => exact .inr fun e => h.sepH u v k hv e.symm hH
  · have h1 := (h.out.grown hg (ne _ l2)).set u v'
    have e : vs.toArray.setIfInBounds u v' = (vs.set u v').toArray := by simp
    rw [e] at h1; exact h1
  · rcases gets u' y hy with ⟨rfl, rfl⟩ | ⟨hne, hy'⟩
    · have : (outs.set u' (outs.getD u' [] ++ [i])).getD u' [] = outs.getD u' [] ++ [i] := by
        rw [List.getD_eq_getElem?_getD, List.getElem?_set, if_pos rfl, if_pos (by rw [hol, ← h.vlen]; exact hul)]; rfl
      rw [this, nts_append]
      exact ownsRow_setCell_below ho (show (⟨go, u', none⟩ : Addr).block < B from l2) y
    · have : (outs.set u (outs.getD u [] ++ [i])).getD u' [] = outs.getD u' [] := by
        rw [List.getD_eq_getElem?_getD, List.getElem?_set, if_neg (fun e => hne e.symm), ← List.getD_eq_getElem?_getD]
      rw [this]
      exact ownsRow_setCell_below ((h.row u' y hy').kept hg (nv u' y hne hy')) (show (⟨go, u, none⟩ : Addr).block < B from l2) v'
  · rcases gets u1 y1 h1 with ⟨rfl, rfl⟩ | ⟨n1, h1'⟩
    · rcases gets u2 y2 h2 with ⟨rfl, rfl⟩ | ⟨n2, h2'⟩
      · exact absurd rfl hne
      · intro e
        rcases own_eq hw hk with h3 | h3
        · exact h.sep u1 u2 v y2 k hne hv h2' h3 e
        · have := lowk u2 y2 k h2' e; omega
    · rcases gets u2 y2 h2 with ⟨rfl, rfl⟩ | ⟨n2, h2'⟩
      · intro e
        rcases own_eq hw e with h3 | h3
        · exact h.sep u1 u2 y1 v k hne h1' hv hk h3
        · have := lowk u1 y1 k h1' hk; omega
      · exact h.sep u1 u2 y1 y2 k hne h1' h2' hk
  · rcases gets u' y hy with ⟨rfl, rfl⟩ | ⟨hne, hy'⟩
    · intro e
      rcases own_eq hw hk with h3 | h3
      · exact h.sepH u' v k hv h3 e
      · have := (h.half.block_lt k e).2; omega
    · exact h.sepH u' y k hy' hk
/-- The halves have got two more. -/
theorem OM.halfPush (h : OM w B x go gl gn N sink j Hv hs vs outs) {H' : Value} {hs' : List (Nat × Nat × Nat × Nat)} (ho : OS HE 176 w' B H' hs') (hg : w.grownBy w' Hv.ownBlock) (hw : H'.ownBlock = Hv.ownBlock ∨ ∃ k, H'.ownBlock = some k ∧ w.heap.size ≤ k) :
    OM (w'.setCell ⟨x, 0, none⟩ H') B x go gl gn N sink (j + 2) H' hs' vs outs := by
  obtain ⟨l1, l2, l3, l4⟩ := h.lt
  obtain ⟨d1, d2, d3, d4, d5, d6⟩ := h.dis
  have hB : ∀ k, Hv.ownBlock = some k → B ≤ k ∧ k < w.heap.size := h.half.block_lt
  have ne : ∀ g, g < B → some g ≠ Hv.ownBlock := fun g hg' e => by have := (hB g e.symm).1; omega
  have far : ∀ {g : Nat} {t : TypeId} {cs : Array Value}, Blk w g t cs → g < B → g ≠ x → Blk (w'.setCell ⟨x, 0, none⟩ H') g t cs := fun hb hgB hgo => (hb.grown hg (ne _ hgB)).far hgo _
  refine ⟨?_, OS.set_far ho (p := ⟨x, 0, none⟩) (by simpa using l1) H', far h.out l2 (fun e => d1 e.symm), h.vlen, fun u v hv => ?_, h.sep, fun u v k hv hk e => ?_, far h.lev l3 (fun e => d2 e.symm), far h.nxt l4 (fun e => d3 e.symm), h.lt, h.dis⟩
  · exact (h.net.grown hg (ne _ l1)).set 0 H'
  · refine ownsRow_setCell_below ((h.row u v hv).kept hg ?_) (show (⟨x, 0, none⟩ : Addr).block < B from l1) H'
    cases hvo : v.ownBlock with
    | none => exact .inl rfl
    | some k => exact .inr fun e => h.sepH u v k hv hvo e.symm
  · rcases own_eq hw e with h3 | h3
    · exact h.sepH u v k hv hk h3
    · have := ((h.row u v hv).block_lt k hk).2; omega
end
/-- append of one number, and where the row lies then. -/
theorem wpList_pushO {ops : Array Oper} {rest : List Oper} {o : Oper} {a : Act} {Q : Exit → Act → World → Prop} {w : World} {T B H : Nat} {v : Value} {ys : List Int} {y : Int}
    (hgd : o.guard = none) (s x : Operand) (ho : o.op = .call { callee := .builtin .append, args := #[s, x], argTypes := #[22, 22] })
    (hs : a.eval s = v) (hx : a.eval x = .slice (some ⟨H, 0, none⟩) 1 1) (hH : H = w.heap.size) (hown : OI w B v ys) (hn : ys.length ≤ 2199023255552) (hB : B ≤ w.heap.size)
    (h : ∀ v' w', OI w' B v' (ys ++ [y]) → w.grownBy w' v.ownBlock → (v'.ownBlock = v.ownBlock ∨ ∃ k, v'.ownBlock = some k ∧ w.heap.size ≤ k) → wpList Tryd.prog ops Q rest (a.put o.dst v') w') :
    wpList Tryd.prog ops Q (o :: rest) a (w.alloc (.cells #[.int .i64 y] T)) := by
  obtain ⟨i0, hi0, hz0, hz1, hz2⟩ := info_parts int_info
  subst hH
  refine wpList_append_any _ hgd s x _ ho B 3 i0 _ 1 8 Tryd.underlying22 hi0 hz0 hz1 hz2 rfl (by omega) v ys.length (ints ys) hs (World.ownsRow.alloc hown _) _ _ 1 1 (ints [y]) hx (RI.one y) (ints_one _) (by unfold maxLen; omega) (by omega) (by simp; omega) ?_
  intro v' w' h1 h2 h3
  refine h v' w' ?_ ?_ ?_
  · unfold OI
    rw [List.length_append, ints_append]; exact h1
  · exact ⟨h2.os, h2.tape, h2.output, Nat.le_trans (by simp) h2.size, fun k hk hne => (h2.block k (by simp; omega) hne).trans (Below.heap_alloc w _ k hk)⟩
  · rcases h3 with h3 | h3
    · exact .inl h3
    · exact .inr ⟨_, h3, by simp⟩
theorem step_pushO {ops : Array Oper} {o : Oper} {a : Act} {K : Act → World → Prop} {Q : Exit → Act → World → Prop} {E : Prop} {w : World} {T B H : Nat} {v : Value} {ys : List Int} {y : Int}
    (hgd : o.guard = none) (s x : Operand) (ho : o.op = .call { callee := .builtin .append, args := #[s, x], argTypes := #[22, 22] })
    (hs : a.eval s = v) (hx : a.eval x = .slice (some ⟨H, 0, none⟩) 1 1) (hH : H = w.heap.size) (hown : OI w B v ys) (hn : ys.length ≤ 2199023255552) (hB : B ≤ w.heap.size)
    (h : ∀ v' w', OI w' B v' (ys ++ [y]) → w.grownBy w' v.ownBlock → (v'.ownBlock = v.ownBlock ∨ ∃ k, v'.ownBlock = some k ∧ w.heap.size ≤ k) → K (a.put o.dst v') w') :
    if Region.wanted o (yielded ops a.tmps) = true then Oper.wp Tryd.prog o a (w.alloc (.cells #[.int .i64 y] T)) K Q else E := by
  obtain ⟨i0, hi0, hz0, hz1, hz2⟩ := info_parts int_info
  subst hH
  refine step_append_any _ hgd s x _ ho B 3 i0 _ 1 8 Tryd.underlying22 hi0 hz0 hz1 hz2 rfl (by omega) v ys.length (ints ys) hs (World.ownsRow.alloc hown _) _ _ 1 1 (ints [y]) hx (RI.one y) (ints_one _) (by unfold maxLen; omega) (by omega) (by simp; omega) ?_
  intro v' w' h1 h2 h3
  refine h v' w' ?_ ?_ ?_
  · unfold OI
    rw [List.length_append, ints_append]; exact h1
  · exact ⟨h2.os, h2.tape, h2.output, Nat.le_trans (by simp) h2.size, fun k hk hne => (h2.block k (by simp; omega) hne).trans (Below.heap_alloc w _ k hk)⟩
  · rcases h3 with h3 | h3
    · exact .inl h3
    · exact .inr ⟨_, h3, by simp⟩
theorem half_info : (Tryd.prog.info? 176).map (fun i => (i.zero, i.size, i.bytes)) = some (some (.agg #[.int .i64 0, .int .i64 0, .int .i64 0, .int .i64 0]), 4, 32) := by kernel_rfl
theorem grown_pre {w w' : World} {o : Obj} {row : Option Nat} (h : (w.alloc o).grownBy w' row) : w.grownBy w' row := ⟨h.os, h.tape, h.output, Nat.le_trans (by simp) h.size, fun k hk hne => (h.block k (by simp; omega) hne).trans (Below.heap_alloc w _ k hk)⟩
/-- append of two halves. -/
theorem wpList_pushH {ops : Array Oper} {rest : List Oper} {o : Oper} {a : Act} {Q : Exit → Act → World → Prop} {w : World} {T B H : Nat} {v : Value} {ys : List (Nat × Nat × Nat × Nat)} {p q : Nat × Nat × Nat × Nat} {cs : Array Value}
    (hgd : o.guard = none) (s x : Operand) (ho : o.op = .call { callee := .builtin .append, args := #[s, x], argTypes := #[177, 177] })
    (hs : a.eval s = v) (hx : a.eval x = .slice (some ⟨H, 0, none⟩) 2 2) (hH : H = w.heap.size) (hcs : cs = (HE.all [p, q]).toArray) (hown : OS HE 176 w B v ys) (hn : ys.length ≤ 1099511627776) (hB : B ≤ w.heap.size)
    (h : ∀ P n c w', OS HE 176 w' B (.slice P n c) (ys ++ [p, q]) → w.grownBy w' v.ownBlock → (Value.ownBlock (.slice P n c) = v.ownBlock ∨ ∃ k, Value.ownBlock (.slice P n c) = some k ∧ w.heap.size ≤ k) → wpList Tryd.prog ops Q rest (a.put o.dst (.slice P n c)) w') :
    wpList Tryd.prog ops Q (o :: rest) a (w.alloc (.cells cs T)) := by
  obtain ⟨i0, hi0, hz0, hz1, hz2⟩ := info_parts half_info
  subst hH
  refine wpList_append_any _ hgd s x _ ho B 176 i0 _ 4 32 Tryd.underlying177 hi0 hz0 hz1 hz2 rfl (by omega) v ys.length (HE.all ys) hs (World.ownsRow.alloc hown _) _ _ 2 2 (HE.all [p, q]) hx (RS.blk (Blk.new _ _ _) hcs rfl) (HE.all_one _) (by unfold maxLen; omega) (by omega) (by simp; omega) ?_
  intro v' w' h1 h2 h3
  obtain ⟨P, c, rfl, -, -⟩ := own_form h1
  refine h P _ c w' ?_ (grown_pre h2) ?_
  · unfold OS
    rw [List.length_append, HE.all_append]; exact h1
  · rcases h3 with h3 | h3
    · exact .inl h3
    · exact .inr ⟨_, h3, by simp⟩
theorem step_pushH {ops : Array Oper} {o : Oper} {a : Act} {K : Act → World → Prop} {Q : Exit → Act → World → Prop} {E : Prop} {w : World} {T B H : Nat} {v : Value} {ys : List (Nat × Nat × Nat × Nat)} {p q : Nat × Nat × Nat × Nat} {cs : Array Value}
    (hgd : o.guard = none) (s x : Operand) (ho : o.op = .call { callee := .builtin .append, args := #[s, x], argTypes := #[177, 177] })
    (hs : a.eval s = v) (hx : a.eval x = .slice (some ⟨H, 0, none⟩) 2 2) (hH : H = w.heap.size) (hcs : cs = (HE.all [p, q]).toArray) (hown : OS HE 176 w B v ys) (hn : ys.length ≤ 1099511627776) (hB : B ≤ w.heap.size)
    (h : ∀ P n c w', OS HE 176 w' B (.slice P n c) (ys ++ [p, q]) → w.grownBy w' v.ownBlock → (Value.ownBlock (.slice P n c) = v.ownBlock ∨ ∃ k, Value.ownBlock (.slice P n c) = some k ∧ w.heap.size ≤ k) → K (a.put o.dst (.slice P n c)) w') :
    if Region.wanted o (yielded ops a.tmps) = true then Oper.wp Tryd.prog o a (w.alloc (.cells cs T)) K Q else E := by
  obtain ⟨i0, hi0, hz0, hz1, hz2⟩ := info_parts half_info
  subst hH
  refine step_append_any _ hgd s x _ ho B 176 i0 _ 4 32 Tryd.underlying177 hi0 hz0 hz1 hz2 rfl (by omega) v ys.length (HE.all ys) hs (World.ownsRow.alloc hown _) _ _ 2 2 (HE.all [p, q]) hx (RS.blk (Blk.new _ _ _) hcs rfl) (HE.all_one _) (by unfold maxLen; omega) (by omega) (by simp; omega) ?_
  intro v' w' h1 h2 h3
  obtain ⟨P, c, rfl, -, -⟩ := own_form h1
  refine h P _ c w' ?_ (grown_pre h2) ?_
  · unfold OS
    rw [List.length_append, HE.all_append]; exact h1
  · rcases h3 with h3 | h3
    · exact .inl h3
    · exact .inr ⟨_, h3, by simp⟩
/-- The halves of the arcs. -/
def hvs (ac : List Ar) : List (Nat × Nat × Nat × Nat) := ac.flatMap fun a => [(a.1, a.2.1, a.2.2, a.2.2), (a.2.1, a.1, 0, 0)]
theorem hvs_len (ac : List Ar) : (hvs ac).length = 2 * ac.length := by
  induction ac with
  | nil => rfl
  | cons a ac ih =>
    have : hvs (a :: ac) = [(a.1, a.2.1, a.2.2, a.2.2), (a.2.1, a.1, 0, 0)] ++ hvs ac := rfl
    rw [this, List.length_append, ih, List.length_cons]
    simp; omega
/-- What lies in the first and in the second half of each arc. -/
theorem flat2 {β : Type} (f g : Ar → β) (ac : List Ar) (k : Nat) : (ac.flatMap fun a => [f a, g a])[2 * k]? = (ac[k]?).map f ∧ (ac.flatMap fun a => [f a, g a])[2 * k + 1]? = (ac[k]?).map g := by
  induction ac generalizing k with
  | nil => simp
  | cons a ac ih =>
    rw [List.flatMap_cons]
    cases k with
    | zero => simp
    | succ k =>
      have := ih k
      rw [show 2 * (k + 1) = 2 * k + 2 by omega, show 2 * k + 2 + 1 = 2 * k + 1 + 2 by omega]
      simpa using this
/-- What is left while nothing flows. -/
def lft (ac : List Ar) : List Nat := ac.flatMap fun a => [a.2.2, 0]
theorem flat2_len {β : Type} (f g : Ar → β) (ac : List Ar) : (ac.flatMap fun a => [f a, g a]).length = 2 * ac.length := by
  induction ac with
  | nil => rfl
  | cons a ac ih => rw [List.flatMap_cons, List.length_append, ih]; simp; omega
theorem lft_get (ac : List Ar) {k : Nat} (hk : k < ac.length) : (lft ac).getD (2 * k) 0 = (ac.getD k (0, 0, 0)).2.2 ∧ (lft ac).getD (2 * k + 1) 0 = 0 := by
  obtain ⟨h1, h2⟩ := flat2 (fun a : Ar => a.2.2) (fun _ => 0) ac k
  unfold lft
  rw [List.getElem?_eq_getElem hk] at h1 h2
  simp only [List.getD_eq_getElem?_getD]
  rw [h1, h2, List.getElem?_eq_getElem hk]
  exact ⟨rfl, rfl⟩
theorem lft_ok (ac : List Ar) : OkL ac (lft ac) := ⟨flat2_len _ _ ac, fun k hk => by rw [(lft_get ac hk).1, (lft_get ac hk).2]; rfl⟩
theorem nts_rep (N : Nat) : nts (List.replicate N 0) = List.replicate N (0 : Int) := by simp [nts]
theorem OM.fin {w : World} {B x go gl gn N sink : Nat} {Hv : Value} {ac : List Ar} {vs : List Value} {outs : List (List Nat)} (h : OM w B x go gl gn N sink (2 * ac.length) Hv (hvs ac) vs outs) (hj : OutJ N ac (2 * ac.length) outs) (hen : ∀ a ∈ ac, a.1 < N ∧ a.2.1 < N) :
    ∃ p : NP, p.x = x ∧ p.gl = gl ∧ p.gn = gn ∧ B ≤ p.gh ∧ Net N ac outs ∧ NetM w p N ac outs sink (lft ac) (List.replicate N 0) (List.replicate N 0) := by
  obtain ⟨l1, l2, l3, l4⟩ := h.lt
  obtain ⟨d1, d2, d3, d4, d5, d6⟩ := h.dis
  have hnet : Net N ac outs := ⟨hen, hj.len, hj.out_mem, hj.mem_out, hj.small⟩
  have hnx : AI w gn (nts (List.replicate N 0)) := by rw [nts_rep]; exact h.nxt
  have hl : (hvs ac).length = 2 * ac.length := hvs_len ac
  have sx := h.net.lt
  have sg := h.out.lt
  have sl := h.lev.lt
  have sn := h.nxt.lt
  have rows : ∀ (gh : Nat), (∀ g, Hv.ownBlock = some g → gh = g) → (Hv.ownBlock = none → w.heap.size ≤ gh) → ∀ u, u < N → ∃ (A : Option Addr) (k c : Nat), w.cell? ⟨go, u, none⟩ = some (.slice A k c) ∧ RI w A k (nts (outs.getD u [])) ∧ ∀ ad, A = some ad → 0 < k → ad.block ≠ gh ∧ ad.block ≠ gl ∧ ad.block ≠ gn ∧ ad.block < w.heap.size := by
    intro gh hg1 hg2 u hu
    have hul : u < vs.length := by rw [h.vlen]; exact hu
    have hv : vs[u]? = some vs[u] := List.getElem?_eq_getElem hul
    generalize vs[u] = v at hv
    have hr := h.row u v hv
    obtain ⟨A, k, c, rfl, hk, hkc, hcm, hri⟩ := hr.form
    refine ⟨A, k, c, ?_, hri, fun ad hA hp => ?_⟩
    · rw [Blk.cell h.out u]; simpa using hv
    · subst hA
      have h1 := hr.block_lt ad.block rfl
      have h2 := h.sepH u _ ad.block hv rfl
      refine ⟨fun e => ?_, by omega, by omega, h1.2⟩
      cases hH : Hv.ownBlock with
      | none => have := hg2 hH; omega
      | some g => exact h2 (by rw [hH, ← hg1 g hH, e])
  rcases h.half.2 with ⟨rfl, h0⟩ | ⟨g, cap, cur, rfl, h1, h2, h3, h4, h5, h6⟩
  · have h0' : ac.length = 0 := by omega
    refine ⟨⟨x, none, w.heap.size + B, 0, go, gl, gn, w.heap.size⟩, rfl, rfl, rfl, by show B ≤ w.heap.size + B; omega, hnet, ⟨?_, fun hp => absurd h0' (by omega), rows (w.heap.size + B) (fun g e => by cases e) (fun _ => Nat.le_add_right _ _), ⟨sx, fun hp => absurd h0' (by omega), sg, sl, sn, Nat.le_refl _⟩, h.lev, hnx, ?_⟩⟩
    · have := h.net
      rw [h0', Nat.mul_zero]; exact this
    · exact ⟨by show x ≠ w.heap.size + B; omega, d2, d3, by show go ≠ w.heap.size + B; omega, d4, d5, by show w.heap.size + B ≠ gl; omega, by show w.heap.size + B ≠ gn; omega, d6⟩
  · have hlt : g < w.heap.size := by
      rcases Nat.lt_or_ge g w.heap.size with hlt | hge
      · exact hlt
      · rw [Array.getElem?_eq_none hge] at h2; cases h2
    refine ⟨⟨x, some ⟨g, 0, none⟩, g, cap, go, gl, gn, w.heap.size⟩, rfl, rfl, rfl, h1, hnet, ⟨?_, fun hp => ⟨rfl, cur, h2, fun i hi => ?_⟩, rows g (fun g' e => by injection e with e) (fun e => by cases e), ⟨sx, fun _ => hlt, sg, sl, sn, Nat.le_refl _⟩, h.lev, hnx, ?_⟩⟩
    · have := h.net
      rw [hl] at this; exact this
    · have hcell : ∀ (j : Nat) (a : Nat × Nat × Nat × Nat) (u : Value), (hvs ac)[i]? = some a → (HE.cells a)[j]? = some u → cur[i * 4 + j]? = some u := fun j a u ha hu => by
        have e1 := HE.all_at ha hu
        rw [← h6, List.getElem?_take] at e1
        split at e1
        · rw [Array.getElem?_toList] at e1; exact e1
        · cases e1
      have hi' : i / 2 < ac.length := by omega
      have hak : ac[i / 2]? = some ac[i / 2] := List.getElem?_eq_getElem hi'
      have hgd : ac.getD (i / 2) (0, 0, 0) = ac[i / 2] := by rw [List.getD_eq_getElem?_getD, hak]; rfl
      generalize ac[i / 2] = a at hak hgd
      obtain ⟨f1, f2⟩ := flat2 (fun a : Ar => (a.1, a.2.1, a.2.2, a.2.2)) (fun a => (a.2.1, a.1, 0, 0)) ac (i / 2)
      obtain ⟨g1, g2⟩ := flat2 (fun a : Ar => a.2.2) (fun _ => 0) ac (i / 2)
      rw [hak] at f1 f2 g1 g2
      have hlft : (lft ac).getD i 0 = ((lft ac)[i]?).getD 0 := List.getD_eq_getElem?_getD
      obtain ⟨k, hk | hk⟩ := half_cases i
      · have e1 : 2 * (i / 2) = i := by omega
        rw [e1] at f1 g1
        have hfr : fr ac i = a.1 := by unfold fr; rw [if_pos (by omega), hgd]
        have hhd : hd ac i = a.2.1 := by unfold hd; rw [if_pos (by omega), hgd]
        have hL : (lft ac).getD i 0 = a.2.2 := by rw [hlft, show (lft ac)[i]? = some a.2.2 from g1]; rfl
        rw [hfr, hhd, hL]
        exact ⟨hcell 0 _ _ f1 rfl, hcell 1 _ _ f1 rfl, ⟨_, hcell 2 _ _ f1 rfl⟩, hcell 3 _ _ f1 rfl⟩
      · have e1 : 2 * (i / 2) + 1 = i := by omega
        rw [e1] at f2 g2
        have hfr : fr ac i = a.2.1 := by unfold fr; rw [if_neg (by omega), hgd]
        have hhd : hd ac i = a.1 := by unfold hd; rw [if_neg (by omega), hgd]
        have hL : (lft ac).getD i 0 = 0 := by rw [hlft, show (lft ac)[i]? = some 0 from g2]; rfl
        rw [hfr, hhd, hL]
        exact ⟨hcell 0 _ _ f2 rfl, hcell 1 _ _ f2 rfl, ⟨_, hcell 2 _ _ f2 rfl⟩, hcell 3 _ _ f2 rfl⟩
    · exact ⟨by show x ≠ g; omega, d2, d3, by show go ≠ g; omega, d4, d5, by show g ≠ gl; omega, by show g ≠ gn; omega, d6⟩
attribute [local irreducible] wpStill in
set_option maxRecDepth 100000 in
set_option maxHeartbeats 8000000 in
theorem open_any (N : Nat) (ac : List Ar) (src sink : Nat) (A : Option Addr) (M c : Nat) (w : World) (hA : RS AE w A M ac) (hNm : N ≤ 1048576) (hM : M ≤ 1048576) (hen : ∀ a ∈ ac, a.1 < N ∧ a.2.1 < N) :
    Calls Tryd.prog 142 #[.agg #[.int .i64 (N : Nat), .int .i64 (src : Nat), .int .i64 (sink : Nat), .slice A M c]] w fun e w' => ∃ (p : NP) (outs : List (List Nat)) (L nx : List Nat) (lev : List Int), e = .returned (.pointer (some ⟨p.x, 0, none⟩)) ∧ Net N ac outs ∧ NetM w' p N ac outs sink L lev nx ∧ lev.length = N ∧ nx.length = N ∧ OkL ac L ∧ (∀ k, k < ac.length → L.getD (2 * k + 1) 0 = 0) ∧ Below w.heap.size w w' ∧ w.heap.size ≤ p.gh ∧ w.heap.size ≤ p.gl ∧ w.heap.size ≤ p.gn := by
  obtain ⟨ih, hh0, hh1, hh2, hh3⟩ := info_parts half_info
  obtain ⟨F, hF0, hF1, hF2⟩ := make_I N (by omega)
  obtain ⟨G, hG0, hG1, hG2⟩ := make_L N (by omega)
  have b0 := Blk.new w 152 #[.int .i64 (N : Nat), .int .i64 (src : Nat), .int .i64 (sink : Nat), .slice A M c]
  have B0 : Below w.heap.size w (w.alloc (.cells #[.int .i64 (N : Nat), .int .i64 (src : Nat), .int .i64 (sink : Nat), .slice A M c] 152)) := (Below.refl _ w).alloc (Nat.le_refl _) _
  go_enter Tryd.func142, Tryd.ntmps142
  go_upto_region 1 with fail
  have hbl := b0.lt
  generalize w.alloc (.cells #[.int .i64 (N : Nat), .int .i64 (src : Nat), .int .i64 (sink : Nat), .slice A M c] 152) = W at *
  have c0 : W.drew.cell? ⟨w.heap.size, 0, none⟩ = some (.int .i64 (N : Nat)) := Blk.cell b0 0
  have c2 : W.drew.cell? ⟨w.heap.size, 2, none⟩ = some (.int .i64 (sink : Nat)) := Blk.cell b0 2
  go_cut [3] (fun v wx => ∃ x go gl gn : Nat, v = .pointer (some ⟨x, 0, none⟩) ∧ Bare W wx N sink x go gl gn)
  case first =>
    have q1 := kept_none (hF2 W.drew) c0
    have r1 := kept_none (hF2 W.drew) c2
    have q2 := kept_none (hG2 W.drew) c0
    have r2 := kept_none (hG2 W.drew) c2
    have q3 := kept_none (hF2 (F W.drew)) q1
    have r3 := kept_none (hF2 (F W.drew)) r1
    have q4 := kept_none (hG2 (F W.drew)) q1
    have r4 := kept_none (hG2 (F W.drew)) r1
    have q5 := kept_none (hF2 (G W.drew)) q2
    have r5 := kept_none (hF2 (G W.drew)) r2
    have r6 := kept_none (hG2 (F (F W.drew))) r3
    have r7 := kept_none (hF2 (G (F W.drew))) r4
    have r8 := kept_none (hF2 (F (G W.drew))) r5
    have q6 := kept_none (hG2 (F (F W.drew))) q3
    have q7 := kept_none (hF2 (G (F W.drew))) q4
    have q8 := kept_none (hF2 (F (G W.drew))) q5
    have z0 : W.drew.heap.size = W.heap.size := rfl
    have z1 := Blk.lt (hF1 W.drew)
    have z2 := Blk.lt (hG1 W.drew)
    have z3 := Blk.lt (hF1 (F W.drew))
    have z4 := Blk.lt (hG1 (F W.drew))
    have z5 := Blk.lt (hF1 (G W.drew))
    have T0 : Bare W _ N sink _ W.drew.heap.size (G W.drew).heap.size (F (G W.drew)).heap.size := bare_of (below3 (hG2 W.drew) (hF2 (G W.drew)) (hF2 (F (G W.drew)))) (Blk.grown (Blk.grown (hG1 W.drew) (hF2 (G W.drew)) (by simp)) (hF2 (F (G W.drew))) (by simp)) (Blk.grown (hF1 (G W.drew)) (hF2 (F (G W.drew))) (by simp)) (hF1 (F (G W.drew))) (by omega) (by omega) (by omega) (by omega) (by omega) (by omega)
    have T1 : Bare W _ N sink _ W.drew.heap.size (F (G W.drew)).heap.size (G W.drew).heap.size := bare_of (below3 (hG2 W.drew) (hF2 (G W.drew)) (hF2 (F (G W.drew)))) (Blk.grown (Blk.grown (hG1 W.drew) (hF2 (G W.drew)) (by simp)) (hF2 (F (G W.drew))) (by simp)) (hF1 (F (G W.drew))) (Blk.grown (hF1 (G W.drew)) (hF2 (F (G W.drew))) (by simp)) (by omega) (by omega) (by omega) (by omega) (by omega) (by omega)
    have T2 : Bare W _ N sink _ (F W.drew).heap.size W.drew.heap.size (G (F W.drew)).heap.size := bare_of (below3 (hF2 W.drew) (hG2 (F W.drew)) (hF2 (G (F W.drew)))) (Blk.grown (hG1 (F W.drew)) (hF2 (G (F W.drew))) (by simp)) (Blk.grown (Blk.grown (hF1 W.drew) (hG2 (F W.drew)) (by simp)) (hF2 (G (F W.drew))) (by simp)) (hF1 (G (F W.drew))) (by omega) (by omega) (by omega) (by omega) (by omega) (by omega)
    have T3 : Bare W _ N sink _ (F (F W.drew)).heap.size W.drew.heap.size (F W.drew).heap.size := bare_of (below3 (hF2 W.drew) (hF2 (F W.drew)) (hG2 (F (F W.drew)))) (hG1 (F (F W.drew))) (Blk.grown (Blk.grown (hF1 W.drew) (hF2 (F W.drew)) (by simp)) (hG2 (F (F W.drew))) (by simp)) (Blk.grown (hF1 (F W.drew)) (hG2 (F (F W.drew))) (by simp)) (by omega) (by omega) (by omega) (by omega) (by omega) (by omega)
    have T4 : Bare W _ N sink _ (F W.drew).heap.size (G (F W.drew)).heap.size W.drew.heap.size := bare_of (below3 (hF2 W.drew) (hG2 (F W.drew)) (hF2 (G (F W.drew)))) (Blk.grown (hG1 (F W.drew)) (hF2 (G (F W.drew))) (by simp)) (hF1 (G (F W.drew))) (Blk.grown (Blk.grown (hF1 W.drew) (hG2 (F W.drew)) (by simp)) (hF2 (G (F W.drew))) (by simp)) (by omega) (by omega) (by omega) (by omega) (by omega) (by omega)
    have T5 : Bare W _ N sink _ (F (F W.drew)).heap.size (F W.drew).heap.size W.drew.heap.size := bare_of (below3 (hF2 W.drew) (hF2 (F W.drew)) (hG2 (F (F W.drew)))) (hG1 (F (F W.drew))) (Blk.grown (hF1 (F W.drew)) (hG2 (F (F W.drew))) (by simp)) (Blk.grown (Blk.grown (hF1 W.drew) (hF2 (F W.drew)) (by simp)) (hG2 (F (F W.drew))) (by simp)) (by omega) (by omega) (by omega) (by omega) (by omega) (by omega)
    replace T0 := Lib.hid T0
    replace T1 := Lib.hid T1
    replace T2 := Lib.hid T2
    replace T3 := Lib.hid T3
    replace T4 := Lib.hid T4
    replace T5 := Lib.hid T5
    replace hF1 := Lib.hid hF1
    replace hF2 := Lib.hid hF2
    replace hG1 := Lib.hid hG1
    replace hG2 := Lib.hid hG2
    go_region_held3 (fun w' => w'.cell? ⟨w.heap.size, 0, none⟩ = some (.int .i64 (N : Nat)) ∧ w'.cell? ⟨w.heap.size, 2, none⟩ = some (.int .i64 (sink : Nat)))
      ((first | (exact ⟨c0, c2⟩) | (exact ⟨q1, r1⟩) | (exact ⟨q2, r2⟩) | (exact ⟨q3, r3⟩) | (exact ⟨q4, r4⟩) | (exact ⟨q5, r5⟩) | (exact ⟨q6, r6⟩) | (exact ⟨q7, r7⟩) | (exact ⟨q8, r8⟩) | (exact ⟨kept_alloc q6 _, kept_alloc r6 _⟩) | (exact ⟨kept_alloc q7 _, kept_alloc r7 _⟩) | (exact ⟨kept_alloc q8 _, kept_alloc r8 _⟩) | fail))
      (fail)
    all_goals go_wp2_with fail
    all_goals go_meet
    all_goals (first | exact ⟨_, _, _, _, rfl, T0.out⟩ | exact ⟨_, _, _, _, rfl, T1.out⟩ | exact ⟨_, _, _, _, rfl, T2.out⟩ | exact ⟨_, _, _, _, rfl, T3.out⟩ | exact ⟨_, _, _, _, rfl, T4.out⟩ | exact ⟨_, _, _, _, rfl, T5.out⟩)
  case rest =>
    obtain ⟨x, go, gl, gn, rfl, hBr⟩ := hcut
    obtain ⟨W1', hW1'⟩ : ∃ W1, W1 = wc := ⟨_, rfl⟩
    have hMl := hA.len
    have Bw : Below w.heap.size w wc := B0.trans (hBr.bel.mono B0.size)
    have bn := b0.below hBr.bel hbl
    have OM0 : OM wc (x + 1) x go gl gn N sink 0 (.slice none 0 0) [] (List.replicate N (.slice none 0 0)) (List.replicate N []) := by
      obtain ⟨u1, u2, u3⟩ := hBr.up
      obtain ⟨e1, e2, e3⟩ := hBr.dis
      have hrep : ∀ (u : Nat) (v : Value), (List.replicate N (Value.slice none 0 0))[u]? = some v → v = .slice none 0 0 := fun u v hv => by
        rw [List.getElem?_replicate] at hv
        split at hv
        · injection hv with hv; exact hv.symm
        · cases hv
      refine ⟨hBr.net, OS.nil_, hBr.out, List.length_replicate, fun u v hv => ?_, fun u u' v v' k _ hv _ hk => ?_, fun u v k hv hk => ?_, hBr.lev, hBr.nxt, ⟨by omega, by omega, by omega, by omega⟩, ⟨by omega, by omega, by omega, e1, e2, e3⟩⟩
      · rw [hrep u v hv]
        have : (List.replicate N ([] : List Nat)).getD u [] = [] := by
          rw [List.getD_eq_getElem?_getD, List.getElem?_replicate]; split <;> rfl
        rw [this]; exact OI.nil_
      · rw [hrep u v hv] at hk; cases hk
      · rw [hrep u v hv] at hk; cases hk
    have hlw : w.heap.size < x ∧ w.heap.size ≤ gl ∧ w.heap.size ≤ gn ∧ w.heap.size ≤ go := by
      obtain ⟨u1, u2, u3⟩ := hBr.up
      obtain ⟨e1, e2, e3⟩ := hBr.low
      omega
    replace hlw := Lib.hid hlw
    have n3 := Blk.cell bn 3
    simp at n3
    replace hMl := Lib.hid (And.intro hMl True.intro)
    clear hBr c0 c2 hW1' hF0 hF1 hF2 hG0 hG1 hG2 W1'
    replace hen := Lib.hid hen
    go_wp2_with fail
    go_loopw [22] (fun i wr => ∃ (k : Nat) (Hv : Value) (vs : List Value) (outs : List (List Nat)), k ≤ M ∧ i = .int .i64 (k : Nat) ∧ OM wr (x + 1) x go gl gn N sink (2 * k) Hv (hvs (ac.take k)) vs outs ∧ Hid (OutJ N ac (2 * k) outs) ∧ Below w.heap.size w wr) (fun i _ => M - (intOf i).toNat)
    case atStart => exact ⟨0, _, _, _, Nat.zero_le _, rfl, OM0, Lib.hid (OutJ.start N ac), Bw⟩
    case round =>
      obtain ⟨k, Hv, vs, outs, hk, rfl, hOM, hOJ, hb⟩ := hrel
      clear OM0 Bw bn n3
      by_cases hlt : k < M
      · have i0 : (k : Int) < (M : Int) := by omega
        have i1 : (0 : Int) ≤ (k : Int) := by omega
        obtain ⟨ad, a, rfl, hab, hak, hcs⟩ := (hA.below hb (Nat.le_refl _)).get hlt
        have hmem := List.mem_of_getElem? hak.out
        have heN := hen.out a hmem
        have e0 := hcs 0 _ rfl
        have e1 := hcs 1 _ rfl
        have e2 := hcs 2 _ rfl
        simp only [show AE.size = 3 from rfl, Addr.add_zero', Addr.add_succ'] at e0 e1 e2
        obtain ⟨u, v, q⟩ := a
        obtain ⟨huN, hvN⟩ := heN
        simp only at e0 e1 e2 huN hvN
        go_upto_region 5 with fail
        have bA1 := Blk.new wr 154 #[.int .i64 (u : Nat), .int .i64 (v : Nat), .int .i64 (q : Nat)]
        have OM1 := hOM.bel ((Below.refl wr.heap.size wr).alloc (Nat.le_refl _) (.cells #[.int .i64 (u : Nat), .int .i64 (v : Nat), .int .i64 (q : Nat)] 154))
        have B1 := hb.alloc hb.size (.cells #[.int .i64 (u : Nat), .int .i64 (v : Nat), .int .i64 (q : Nat)] 154)
        have hnab1 : ∀ (u' : Nat) (y : Value) (k' : Nat), vs[u']? = some y → y.ownBlock = some k' → k' ≠ wr.heap.size := fun u' y k' hy hk' e => by have := ((hOM.row u' y hy).block_lt k' hk').2; omega
        have hnaH1 : ∀ k', Hv.ownBlock = some k' → k' ≠ wr.heap.size := fun k' hk' e => by have := (hOM.half.block_lt k' hk').2; omega
        have l2 := OM1.lt.2.1
        have hsx : x < wr.heap.size := hOM.net.lt
        have hsgo : go < wr.heap.size := hOM.out.lt
        clear e0 e1 e2 hcs hOM hb
        generalize wr.alloc (.cells #[.int .i64 (u : Nat), .int .i64 (v : Nat), .int .i64 (q : Nat)] 154) = W1 at *
        generalize wr.heap.size = ab at *
        obtain ⟨vs1, hvs1⟩ : ∃ vs1, vs1 = vs := ⟨_, rfl⟩
        obtain ⟨outs1, houts1⟩ : ∃ outs1, outs1 = outs := ⟨_, rfl⟩
        subst hvs1; subst houts1
        have hOJ1 := hOJ
        clear hOJ
        obtain ⟨HA, hn, hc, hHv, hhn, -, -, -, -⟩ := OM1.half.form
        have hhl : hn = 2 * k := by rw [hhn, hvs_len, List.length_take]; have := hMl.out.1; omega
        subst hhl
        subst hHv
        obtain ⟨h2k, hh2k⟩ : ∃ h2k, h2k = 2 * k := ⟨_, rfl⟩
        rw [← hh2k] at OM1 hOJ1 hnaH1
        replace hh2k := Lib.hid (And.intro hh2k True.intro)
        clear hhn

        -- the row of u
        have hul1 : u < vs1.length := by rw [OM1.vlen]; exact huN
        obtain ⟨V1, hV1⟩ : ∃ V, vs1[u]? = some V := ⟨_, List.getElem?_eq_getElem hul1⟩
        have hrw1 := OM1.row u V1 hV1
        obtain ⟨Au1, ku1, cu1, rfl, hku1, hkc1, -, -⟩ := hrw1.form
        have hsm1 := hOJ1.out.small u
        have hol1 := hOJ1.out.len
        have x01 := Blk.cell OM1.net 0
        have x11 := Blk.cell OM1.net 1
        simp at x01 x11
        have r01 : W1.cell? ⟨go, u, none⟩ = some (.slice Au1 ku1 cu1) := by rw [Blk.cell OM1.out u]; simpa using hV1
        have f01 := Blk.frozen OM1.out u
        have a01 := Blk.cell bA1 0
        simp at a01
        have z01 := OM1.net.lt
        have z21 := OM1.out.lt
        have oB1 := hrw1.block_lt
        have nx1 : ∀ g, g < x + 1 → some g ≠ Value.ownBlock (.slice Au1 ku1 cu1) := fun g hg e => by have := (oB1 g e.symm).1; omega
        have na1 : some ab ≠ Value.ownBlock (.slice Au1 ku1 cu1) := fun e => hnab1 u _ ab hV1 e.symm rfl
        have hll1 := nts_length (outs1.getD u [])
        have hlb1 : (nts (outs1.getD u [])).length ≤ 2199023255552 := by have := hh2k.out.1; omega
        have j01 : (0 : Int) ≤ (u : Int) := by omega
        have j11 : (u : Int) < (N : Int) := by omega
        replace hV1 := Lib.hid hV1
        replace oB1 := Lib.hid oB1
        replace hku1 := Lib.hid (And.intro hku1 hll1)
        clear hul1 hkc1 hll1
        replace nx1 := Lib.hid nx1
        replace hsm1 := Lib.hid hsm1
        replace hol1 := Lib.hid (And.intro hol1 True.intro)
        replace hlb1 := Lib.hid hlb1
        replace na1 := Lib.hid na1
        replace hnab1 := Lib.hid hnab1
        replace hnaH1 := Lib.hid hnaH1
        -- R5
        obtain ⟨SS1, hSS1⟩ : ∃ SS : World → Prop, ∀ w', SS w' ↔ (w'.cell? ⟨x, 1, none⟩ = some (.slice (some ⟨go, 0, none⟩) N N) ∧ w'.cell? ⟨x, 0, none⟩ = some (.slice HA h2k hc) ∧ w'.cell? ⟨ab, 0, none⟩ = some (.int .i64 (u : Nat)) ∧ w'.cell? ⟨go, u, none⟩ = some (.slice Au1 ku1 cu1)) := ⟨fun w' => _, fun _ => Iff.rfl⟩
        replace hSS1 := Lib.hid hSS1
        refine wp_region_TS (T := fun j w' => j = 22 ∨ SS1 w') (by kernel_rfl) ?_
        intro QQ hQQ hQP
        have OMd1 := OM1.bel (Below.refl W1.heap.size W1).drew
        have rd1 : W1.drew.cell? ⟨go, u, none⟩ = some (.slice Au1 ku1 cu1) := r01
        have fd1 : W1.drew.frozen? ⟨go, u, none⟩ = false := f01
        have xd1 : W1.drew.cell? ⟨x, 1, none⟩ = some (.slice (some ⟨go, 0, none⟩) N N) := x11
        have xe1 : W1.drew.cell? ⟨x, 0, none⟩ = some (.slice HA h2k hc) := x01
        have ad1 : W1.drew.cell? ⟨ab, 0, none⟩ = some (.int .i64 (u : Nat)) := a01
        have s1 : SS1 W1.drew := (hSS1.out _).2 ⟨x11, x01, a01, r01⟩
        have bd1 : Blk W1.drew ab 154 #[.int .i64 (u : Nat), .int .i64 (v : Nat), .int .i64 (q : Nat)] := bA1
        have Bd1 := B1.drew
        have hd1 := hrw1.drew
        clear OM1 r01 f01 x01 x11 a01 bA1 B1 hrw1 z01 z21
        generalize W1.drew = X1 at *
        have z01 := OMd1.net.lt
        have z21 := OMd1.out.lt
        replace OMd1 := Lib.hid OMd1
        replace Bd1 := Lib.hid Bd1
        replace bd1 := Lib.hid bd1
        refine takeS (i := 0) (S := SS1) (m := 22) (d := some 26) (v := .pointer (some ⟨x, 0, none⟩)) rfl rfl (by kernel_rfl) (by kernel_rfl) (by kernel_rfl) hQP.out (by kernel_rfl) (Or.inl ⟨by rfl, fun w' hS => ?_⟩) s1 ?_
        · obtain ⟨y0, y1, y2, y3⟩ := (hSS1.out _).1 hS
          go_simp
        (try simp only [Act.put, List.setIfInBounds_toArray, List.set_cons_zero, List.set_cons_succ])
        refine takeS (i := 1) (S := SS1) (m := 22) (d := some 27) (v := .pointer (some ⟨x, 0, none⟩)) rfl rfl (by kernel_rfl) (by kernel_rfl) (by kernel_rfl) hQP.out (by kernel_rfl) (Or.inl ⟨by rfl, fun w' hS => ?_⟩) s1 ?_
        · obtain ⟨y0, y1, y2, y3⟩ := (hSS1.out _).1 hS
          go_simp
        (try simp only [Act.put, List.setIfInBounds_toArray, List.set_cons_zero, List.set_cons_succ])
        refine takeS (i := 2) (S := SS1) (m := 22) (d := some 28) (v := .pointer (some ⟨x, 1, none⟩)) rfl rfl (by kernel_rfl) (by kernel_rfl) (by kernel_rfl) hQP.out (by kernel_rfl) (Or.inl ⟨by rfl, fun w' hS => ?_⟩) s1 ?_
        · obtain ⟨y0, y1, y2, y3⟩ := (hSS1.out _).1 hS
          go_simp
        (try simp only [Act.put, List.setIfInBounds_toArray, List.set_cons_zero, List.set_cons_succ])
        refine takeS (i := 3) (S := SS1) (m := 22) (d := some 29) (v := .slice (some ⟨go, 0, none⟩) N N) rfl rfl (by kernel_rfl) (by kernel_rfl) (by kernel_rfl) hQP.out (by kernel_rfl) (Or.inl ⟨by rfl, fun w' hS => ?_⟩) s1 ?_
        · obtain ⟨y0, y1, y2, y3⟩ := (hSS1.out _).1 hS
          go_simp
        (try simp only [Act.put, List.setIfInBounds_toArray, List.set_cons_zero, List.set_cons_succ])
        refine takeS (i := 4) (S := SS1) (m := 22) (d := some 30) (v := .pointer (some ⟨ab, 0, none⟩)) rfl rfl (by kernel_rfl) (by kernel_rfl) (by kernel_rfl) hQP.out (by kernel_rfl) (Or.inl ⟨by rfl, fun w' hS => ?_⟩) s1 ?_
        · obtain ⟨y0, y1, y2, y3⟩ := (hSS1.out _).1 hS
          go_simp
        (try simp only [Act.put, List.setIfInBounds_toArray, List.set_cons_zero, List.set_cons_succ])
        refine takeS (i := 5) (S := SS1) (m := 22) (d := some 31) (v := .int .i64 (u : Nat)) rfl rfl (by kernel_rfl) (by kernel_rfl) (by kernel_rfl) hQP.out (by kernel_rfl) (Or.inl ⟨by rfl, fun w' hS => ?_⟩) s1 ?_
        · obtain ⟨y0, y1, y2, y3⟩ := (hSS1.out _).1 hS
          go_simp
        (try simp only [Act.put, List.setIfInBounds_toArray, List.set_cons_zero, List.set_cons_succ])
        refine takeS (i := 6) (S := SS1) (m := 22) (d := some 32) (v := .pointer (some ⟨x, 0, none⟩)) rfl rfl (by kernel_rfl) (by kernel_rfl) (by kernel_rfl) hQP.out (by kernel_rfl) (Or.inl ⟨by rfl, fun w' hS => ?_⟩) s1 ?_
        · obtain ⟨y0, y1, y2, y3⟩ := (hSS1.out _).1 hS
          go_simp
        (try simp only [Act.put, List.setIfInBounds_toArray, List.set_cons_zero, List.set_cons_succ])
        refine takeS (i := 7) (S := SS1) (m := 22) (d := some 33) (v := .pointer (some ⟨x, 0, none⟩)) rfl rfl (by kernel_rfl) (by kernel_rfl) (by kernel_rfl) hQP.out (by kernel_rfl) (Or.inl ⟨by rfl, fun w' hS => ?_⟩) s1 ?_
        · obtain ⟨y0, y1, y2, y3⟩ := (hSS1.out _).1 hS
          go_simp
        (try simp only [Act.put, List.setIfInBounds_toArray, List.set_cons_zero, List.set_cons_succ])
        refine takeS (i := 8) (S := SS1) (m := 22) (d := some 34) (v := .pointer (some ⟨x, 1, none⟩)) rfl rfl (by kernel_rfl) (by kernel_rfl) (by kernel_rfl) hQP.out (by kernel_rfl) (Or.inl ⟨by rfl, fun w' hS => ?_⟩) s1 ?_
        · obtain ⟨y0, y1, y2, y3⟩ := (hSS1.out _).1 hS
          go_simp
        (try simp only [Act.put, List.setIfInBounds_toArray, List.set_cons_zero, List.set_cons_succ])
        refine takeS (i := 9) (S := SS1) (m := 22) (d := some 35) (v := .slice (some ⟨go, 0, none⟩) N N) rfl rfl (by kernel_rfl) (by kernel_rfl) (by kernel_rfl) hQP.out (by kernel_rfl) (Or.inl ⟨by rfl, fun w' hS => ?_⟩) s1 ?_
        · obtain ⟨y0, y1, y2, y3⟩ := (hSS1.out _).1 hS
          go_simp
        (try simp only [Act.put, List.setIfInBounds_toArray, List.set_cons_zero, List.set_cons_succ])
        refine takeS (i := 10) (S := SS1) (m := 22) (d := some 36) (v := .pointer (some ⟨ab, 0, none⟩)) rfl rfl (by kernel_rfl) (by kernel_rfl) (by kernel_rfl) hQP.out (by kernel_rfl) (Or.inl ⟨by rfl, fun w' hS => ?_⟩) s1 ?_
        · obtain ⟨y0, y1, y2, y3⟩ := (hSS1.out _).1 hS
          go_simp
        (try simp only [Act.put, List.setIfInBounds_toArray, List.set_cons_zero, List.set_cons_succ])
        refine takeS (i := 11) (S := SS1) (m := 22) (d := some 37) (v := .int .i64 (u : Nat)) rfl rfl (by kernel_rfl) (by kernel_rfl) (by kernel_rfl) hQP.out (by kernel_rfl) (Or.inl ⟨by rfl, fun w' hS => ?_⟩) s1 ?_
        · obtain ⟨y0, y1, y2, y3⟩ := (hSS1.out _).1 hS
          go_simp
        (try simp only [Act.put, List.setIfInBounds_toArray, List.set_cons_zero, List.set_cons_succ])
        refine takeS (i := 12) (S := SS1) (m := 22) (d := some 38) (v := .pointer (some ⟨go, u, none⟩)) rfl rfl (by kernel_rfl) (by kernel_rfl) (by kernel_rfl) hQP.out (by kernel_rfl) (Or.inl ⟨by rfl, fun w' hS => ?_⟩) s1 ?_
        · obtain ⟨y0, y1, y2, y3⟩ := (hSS1.out _).1 hS
          go_simp
        (try simp only [Act.put, List.setIfInBounds_toArray, List.set_cons_zero, List.set_cons_succ])
        refine takeS (i := 13) (S := SS1) (m := 22) (d := some 39) (v := .slice Au1 ku1 cu1) rfl rfl (by kernel_rfl) (by kernel_rfl) (by kernel_rfl) hQP.out (by kernel_rfl) (Or.inl ⟨by rfl, fun w' hS => ?_⟩) s1 ?_
        · obtain ⟨y0, y1, y2, y3⟩ := (hSS1.out _).1 hS
          go_simp
        (try simp only [Act.put, List.setIfInBounds_toArray, List.set_cons_zero, List.set_cons_succ])
        refine takeS (i := 14) (S := SS1) (m := 22) (d := some 40) (v := .pointer (some ⟨x, 0, none⟩)) rfl rfl (by kernel_rfl) (by kernel_rfl) (by kernel_rfl) hQP.out (by kernel_rfl) (Or.inl ⟨by rfl, fun w' hS => ?_⟩) s1 ?_
        · obtain ⟨y0, y1, y2, y3⟩ := (hSS1.out _).1 hS
          go_simp
        (try simp only [Act.put, List.setIfInBounds_toArray, List.set_cons_zero, List.set_cons_succ])
        refine takeS (i := 15) (S := SS1) (m := 22) (d := some 41) (v := .pointer (some ⟨x, 0, none⟩)) rfl rfl (by kernel_rfl) (by kernel_rfl) (by kernel_rfl) hQP.out (by kernel_rfl) (Or.inl ⟨by rfl, fun w' hS => ?_⟩) s1 ?_
        · obtain ⟨y0, y1, y2, y3⟩ := (hSS1.out _).1 hS
          go_simp
        (try simp only [Act.put, List.setIfInBounds_toArray, List.set_cons_zero, List.set_cons_succ])
        refine takeS (i := 16) (S := SS1) (m := 22) (d := some 42) (v := .pointer (some ⟨x, 0, none⟩)) rfl rfl (by kernel_rfl) (by kernel_rfl) (by kernel_rfl) hQP.out (by kernel_rfl) (Or.inl ⟨by rfl, fun w' hS => ?_⟩) s1 ?_
        · obtain ⟨y0, y1, y2, y3⟩ := (hSS1.out _).1 hS
          go_simp
        (try simp only [Act.put, List.setIfInBounds_toArray, List.set_cons_zero, List.set_cons_succ])
        refine takeS (i := 17) (S := SS1) (m := 22) (d := some 43) (v := .slice HA h2k hc) rfl rfl (by kernel_rfl) (by kernel_rfl) (by kernel_rfl) hQP.out (by kernel_rfl) (Or.inl ⟨by rfl, fun w' hS => ?_⟩) s1 ?_
        · obtain ⟨y0, y1, y2, y3⟩ := (hSS1.out _).1 hS
          go_simp
        (try simp only [Act.put, List.setIfInBounds_toArray, List.set_cons_zero, List.set_cons_succ])
        refine takeS (i := 18) (S := SS1) (m := 22) (d := some 44) (v := .int .i64 (h2k : Nat)) rfl rfl (by kernel_rfl) (by kernel_rfl) (by kernel_rfl) hQP.out (by kernel_rfl) (Or.inl ⟨by rfl, fun w' hS => ?_⟩) s1 ?_
        · obtain ⟨y0, y1, y2, y3⟩ := (hSS1.out _).1 hS
          go_simp
        (try simp only [Act.put, List.setIfInBounds_toArray, List.set_cons_zero, List.set_cons_succ])
        refine wpAnyT_ready (rs := [19]) (by kernel_rfl) (by simp) ?_
        intro j hj
        rw [List.mem_singleton] at hj
        subst hj
        refine wpOpT_step (T := fun j w' => j = 22 ∨ SS1 w') (by rfl) (fun K hK => ?_)
        go_simp
        refine hK.out _ _ ?_ ?_
        · exact .inr ((hSS1.out _).2 ⟨kept_alloc xd1 _, kept_alloc xe1 _, kept_alloc ad1 _, kept_alloc rd1 _⟩)
        clear hK K
        (try simp only [Act.put, List.setIfInBounds_toArray, List.set_cons_zero, List.set_cons_succ])
        refine wpAnyT_ready (rs := [20]) (by kernel_rfl) (by simp) ?_
        intro j hj
        rw [List.mem_singleton] at hj
        subst hj
        refine wpOpT_step (T := fun j w' => j = 22 ∨ SS1 w') (by rfl) (fun K hK => ?_)
        refine step_pushO (by rfl) (.tmp 39) (.tmp 45) (by rfl) (by rfl) (by rfl) (by first | rfl | simp) hd1 hlb1.out (by omega) ?_
        intro v1' w1' O1' g1' e1'
        obtain ⟨P1, pk1, pc1, rfl, hp11, -, -, -⟩ := O1'.form
        clear hp11
        replace e1' := Lib.hid e1'
        replace O1' := Lib.hid O1'
        have f0b1 := (World.frozen?_of_block (g1'.block go z21 (nx1.out go (by omega)))).trans fd1
        have r0b1 := g1'.cell rd1 (nx1.out go (by omega))
        have xf1 := g1'.cell xd1 (nx1.out x (by omega))
        have xg1 := g1'.cell xe1 (nx1.out x (by omega))
        have af1 := g1'.cell ad1 na1.out
        replace s1 : SS1 w1' := (hSS1.out _).2 ⟨xf1, xg1, af1, r0b1⟩
        refine hK.out _ _ ?_ ?_
        · exact .inr s1
        clear hK K
        (try simp only [Act.put, List.setIfInBounds_toArray, List.set_cons_zero, List.set_cons_succ])
        refine wpAnyT_ready (rs := [21]) (by kernel_rfl) (by simp) ?_
        intro j hj
        rw [List.mem_singleton] at hj
        subst hj
        refine wpOpT_step (T := fun j w' => j = 22 ∨ SS1 w') (by rfl) (fun K hK => ?_)
        go_simp
        refine hK.out _ _ ?_ ?_
        · exact .inr s1
        clear hK K
        (try simp only [Act.put, List.setIfInBounds_toArray, List.set_cons_zero, List.set_cons_succ])
        refine wpAnyT_ready (rs := [22]) (by kernel_rfl) (by simp) ?_
        intro j hj
        rw [List.mem_singleton] at hj
        subst hj
        refine wpOpT_step (T := fun j w' => j = 22 ∨ SS1 w') (by rfl) (fun K hK => ?_)
        go_simp
        refine hK.out _ _ ?_ ?_
        · exact .inl rfl
        clear hK K
        (try simp only [Act.put, List.setIfInBounds_toArray, List.set_cons_zero, List.set_cons_succ])
        refine wpAnyT_done (by kernel_rfl) (hQQ.out _ _ ?_) _
        clear hQQ hQP QQ
        clear xd1 xe1 ad1 xf1 xg1 af1 s1 hSS1 SS1
        go_wp2_with fail
        -- E5
        have hfr1 : fr ac h2k = u := by rw [hh2k.out.1, fr_even, List.getD_eq_getElem?_getD, hak.out]; rfl
        have hfr2 : fr ac (h2k + 1) = v := by rw [hh2k.out.1, fr_odd, List.getD_eq_getElem?_getD, hak.out]; rfl
        have OM2 := OMd1.out.rowPush hol1.out.1 (i := h2k) hV1.out O1'.out g1' e1'.out
        have hOJ2 := Lib.hid (hOJ1.out.step hfr1 huN)
        have hnab2 : ∀ (u' : Nat) (y : Value) (k' : Nat), (vs1.set u (.slice P1 pk1 pc1))[u']? = some y → y.ownBlock = some k' → k' ≠ ab := fun u' y k' hy hk' e => by
          rw [List.getElem?_set] at hy
          by_cases e' : u = u'
          · rw [if_pos e'] at hy
            split at hy
            · injection hy with hy
              subst hy
              rcases own_eq e1'.out hk' with h3 | h3
              · exact hnab1.out u _ k' hV1.out h3 e
              · have := bd1.out.lt; omega
            · cases hy
          · rw [if_neg e'] at hy
            exact hnab1.out u' y k' hy hk' e
        have bA2 := (bd1.out.grown g1' na1.out).far (p := ⟨go, u, none⟩) (show ab ≠ go by omega) (.slice P1 pk1 pc1)
        have hBx := Bd1.out.size
        have hlwx := hlw.out
        have g1B : ∀ k', Value.ownBlock (.slice Au1 ku1 cu1) = some k' → w.heap.size ≤ k' := fun k' hk' => by have := (oB1.out k' hk').1; omega
        have B2 := (Bd1.out.grown g1' hBx g1B).setCell (p := ⟨go, u, none⟩) (show w.heap.size ≤ go by omega) (.slice P1 pk1 pc1)
        have hnaH2 := hnaH1
        clear OMd1 Bd1 bd1 hd1 rd1 fd1 f0b1 r0b1 O1' e1' g1' z01 z21 hnab1 hnaH1 hOJ1 hV1 oB1 hku1 hsm1 hlb1 nx1 na1 hlwx hBx g1B j01 j11
        generalize w1'.setCell ⟨go, u, none⟩ (.slice P1 pk1 pc1) = W2 at *
        obtain ⟨outs2, houts2⟩ : ∃ o, o = outs1.set u (outs1.getD u [] ++ [h2k]) := ⟨_, rfl⟩
        rw [← houts2] at OM2 hOJ2
        clear houts2 hol1
        generalize vs1.set u (.slice P1 pk1 pc1) = vs2 at *
        have hnaH2' := hnaH2.out
        replace hnaH2 := hnaH2'
        clear hnaH2'
        have hb2k : h2k ≤ 2097152 := by have := hh2k.out.1; omega

        -- the row of v
        have hul2 : v < vs2.length := by rw [OM2.vlen]; exact hvN
        obtain ⟨V2, hV2⟩ : ∃ V, vs2[v]? = some V := ⟨_, List.getElem?_eq_getElem hul2⟩
        have hrw2 := OM2.row v V2 hV2
        obtain ⟨Au2, ku2, cu2, rfl, hku2, hkc2, -, -⟩ := hrw2.form
        have hsm2 := hOJ2.out.small v
        have hol2 := hOJ2.out.len
        have x02 := Blk.cell OM2.net 0
        have x12 := Blk.cell OM2.net 1
        simp at x02 x12
        have r02 : W2.cell? ⟨go, v, none⟩ = some (.slice Au2 ku2 cu2) := by rw [Blk.cell OM2.out v]; simpa using hV2
        have f02 := Blk.frozen OM2.out v
        have a02 := Blk.cell bA2 1
        simp at a02
        have z02 := OM2.net.lt
        have z22 := OM2.out.lt
        have oB2 := hrw2.block_lt
        have nx2 : ∀ g, g < x + 1 → some g ≠ Value.ownBlock (.slice Au2 ku2 cu2) := fun g hg e => by have := (oB2 g e.symm).1; omega
        have na2 : some ab ≠ Value.ownBlock (.slice Au2 ku2 cu2) := fun e => hnab2 v _ ab hV2 e.symm rfl
        have hll2 := nts_length (outs2.getD v [])
        have hlb2 : (nts (outs2.getD v [])).length ≤ 2199023255552 := by have := hh2k.out.1; omega
        have j02 : (0 : Int) ≤ (v : Int) := by omega
        have j12 : (v : Int) < (N : Int) := by omega
        replace hV2 := Lib.hid hV2
        replace oB2 := Lib.hid oB2
        replace hku2 := Lib.hid (And.intro hku2 hll2)
        clear hul2 hkc2 hll2
        replace nx2 := Lib.hid nx2
        replace hsm2 := Lib.hid hsm2
        replace hol2 := Lib.hid (And.intro hol2 True.intro)
        replace hlb2 := Lib.hid hlb2
        replace na2 := Lib.hid na2
        replace hnab2 := Lib.hid hnab2
        replace hnaH2 := Lib.hid hnaH2
        -- R6
        obtain ⟨SS2, hSS2⟩ : ∃ SS : World → Prop, ∀ w', SS w' ↔ (w'.cell? ⟨x, 1, none⟩ = some (.slice (some ⟨go, 0, none⟩) N N) ∧ w'.cell? ⟨x, 0, none⟩ = some (.slice HA h2k hc) ∧ w'.cell? ⟨ab, 1, none⟩ = some (.int .i64 (v : Nat)) ∧ w'.cell? ⟨go, v, none⟩ = some (.slice Au2 ku2 cu2)) := ⟨fun w' => _, fun _ => Iff.rfl⟩
        replace hSS2 := Lib.hid hSS2
        refine wp_region_TS (T := fun j w' => j = 23 ∨ SS2 w') (by kernel_rfl) ?_
        intro QQ hQQ hQP
        have OMd2 := OM2.bel (Below.refl W2.heap.size W2).drew
        have rd2 : W2.drew.cell? ⟨go, v, none⟩ = some (.slice Au2 ku2 cu2) := r02
        have fd2 : W2.drew.frozen? ⟨go, v, none⟩ = false := f02
        have xd2 : W2.drew.cell? ⟨x, 1, none⟩ = some (.slice (some ⟨go, 0, none⟩) N N) := x12
        have xe2 : W2.drew.cell? ⟨x, 0, none⟩ = some (.slice HA h2k hc) := x02
        have ad2 : W2.drew.cell? ⟨ab, 1, none⟩ = some (.int .i64 (v : Nat)) := a02
        have s2 : SS2 W2.drew := (hSS2.out _).2 ⟨x12, x02, a02, r02⟩
        have bd2 : Blk W2.drew ab 154 #[.int .i64 (u : Nat), .int .i64 (v : Nat), .int .i64 (q : Nat)] := bA2
        have Bd2 := B2.drew
        have hd2 := hrw2.drew
        clear OM2 r02 f02 x02 x12 a02 bA2 B2 hrw2 z02 z22
        generalize W2.drew = X2 at *
        have z02 := OMd2.net.lt
        have z22 := OMd2.out.lt
        replace OMd2 := Lib.hid OMd2
        replace Bd2 := Lib.hid Bd2
        replace bd2 := Lib.hid bd2
        refine takeS (i := 0) (S := SS2) (m := 23) (d := some 48) (v := .pointer (some ⟨x, 0, none⟩)) rfl rfl (by kernel_rfl) (by kernel_rfl) (by kernel_rfl) hQP.out (by kernel_rfl) (Or.inl ⟨by rfl, fun w' hS => ?_⟩) s2 ?_
        · obtain ⟨y0, y1, y2, y3⟩ := (hSS2.out _).1 hS
          go_simp
        (try simp only [Act.put, List.setIfInBounds_toArray, List.set_cons_zero, List.set_cons_succ])
        refine takeS (i := 1) (S := SS2) (m := 23) (d := some 49) (v := .pointer (some ⟨x, 0, none⟩)) rfl rfl (by kernel_rfl) (by kernel_rfl) (by kernel_rfl) hQP.out (by kernel_rfl) (Or.inl ⟨by rfl, fun w' hS => ?_⟩) s2 ?_
        · obtain ⟨y0, y1, y2, y3⟩ := (hSS2.out _).1 hS
          go_simp
        (try simp only [Act.put, List.setIfInBounds_toArray, List.set_cons_zero, List.set_cons_succ])
        refine takeS (i := 2) (S := SS2) (m := 23) (d := some 50) (v := .pointer (some ⟨x, 1, none⟩)) rfl rfl (by kernel_rfl) (by kernel_rfl) (by kernel_rfl) hQP.out (by kernel_rfl) (Or.inl ⟨by rfl, fun w' hS => ?_⟩) s2 ?_
        · obtain ⟨y0, y1, y2, y3⟩ := (hSS2.out _).1 hS
          go_simp
        (try simp only [Act.put, List.setIfInBounds_toArray, List.set_cons_zero, List.set_cons_succ])
        refine takeS (i := 3) (S := SS2) (m := 23) (d := some 51) (v := .slice (some ⟨go, 0, none⟩) N N) rfl rfl (by kernel_rfl) (by kernel_rfl) (by kernel_rfl) hQP.out (by kernel_rfl) (Or.inl ⟨by rfl, fun w' hS => ?_⟩) s2 ?_
        · obtain ⟨y0, y1, y2, y3⟩ := (hSS2.out _).1 hS
          go_simp
        (try simp only [Act.put, List.setIfInBounds_toArray, List.set_cons_zero, List.set_cons_succ])
        refine takeS (i := 4) (S := SS2) (m := 23) (d := some 52) (v := .pointer (some ⟨ab, 1, none⟩)) rfl rfl (by kernel_rfl) (by kernel_rfl) (by kernel_rfl) hQP.out (by kernel_rfl) (Or.inl ⟨by rfl, fun w' hS => ?_⟩) s2 ?_
        · obtain ⟨y0, y1, y2, y3⟩ := (hSS2.out _).1 hS
          go_simp
        (try simp only [Act.put, List.setIfInBounds_toArray, List.set_cons_zero, List.set_cons_succ])
        refine takeS (i := 5) (S := SS2) (m := 23) (d := some 53) (v := .int .i64 (v : Nat)) rfl rfl (by kernel_rfl) (by kernel_rfl) (by kernel_rfl) hQP.out (by kernel_rfl) (Or.inl ⟨by rfl, fun w' hS => ?_⟩) s2 ?_
        · obtain ⟨y0, y1, y2, y3⟩ := (hSS2.out _).1 hS
          go_simp
        (try simp only [Act.put, List.setIfInBounds_toArray, List.set_cons_zero, List.set_cons_succ])
        refine takeS (i := 6) (S := SS2) (m := 23) (d := some 54) (v := .pointer (some ⟨x, 0, none⟩)) rfl rfl (by kernel_rfl) (by kernel_rfl) (by kernel_rfl) hQP.out (by kernel_rfl) (Or.inl ⟨by rfl, fun w' hS => ?_⟩) s2 ?_
        · obtain ⟨y0, y1, y2, y3⟩ := (hSS2.out _).1 hS
          go_simp
        (try simp only [Act.put, List.setIfInBounds_toArray, List.set_cons_zero, List.set_cons_succ])
        refine takeS (i := 7) (S := SS2) (m := 23) (d := some 55) (v := .pointer (some ⟨x, 0, none⟩)) rfl rfl (by kernel_rfl) (by kernel_rfl) (by kernel_rfl) hQP.out (by kernel_rfl) (Or.inl ⟨by rfl, fun w' hS => ?_⟩) s2 ?_
        · obtain ⟨y0, y1, y2, y3⟩ := (hSS2.out _).1 hS
          go_simp
        (try simp only [Act.put, List.setIfInBounds_toArray, List.set_cons_zero, List.set_cons_succ])
        refine takeS (i := 8) (S := SS2) (m := 23) (d := some 56) (v := .pointer (some ⟨x, 1, none⟩)) rfl rfl (by kernel_rfl) (by kernel_rfl) (by kernel_rfl) hQP.out (by kernel_rfl) (Or.inl ⟨by rfl, fun w' hS => ?_⟩) s2 ?_
        · obtain ⟨y0, y1, y2, y3⟩ := (hSS2.out _).1 hS
          go_simp
        (try simp only [Act.put, List.setIfInBounds_toArray, List.set_cons_zero, List.set_cons_succ])
        refine takeS (i := 9) (S := SS2) (m := 23) (d := some 57) (v := .slice (some ⟨go, 0, none⟩) N N) rfl rfl (by kernel_rfl) (by kernel_rfl) (by kernel_rfl) hQP.out (by kernel_rfl) (Or.inl ⟨by rfl, fun w' hS => ?_⟩) s2 ?_
        · obtain ⟨y0, y1, y2, y3⟩ := (hSS2.out _).1 hS
          go_simp
        (try simp only [Act.put, List.setIfInBounds_toArray, List.set_cons_zero, List.set_cons_succ])
        refine takeS (i := 10) (S := SS2) (m := 23) (d := some 58) (v := .pointer (some ⟨ab, 1, none⟩)) rfl rfl (by kernel_rfl) (by kernel_rfl) (by kernel_rfl) hQP.out (by kernel_rfl) (Or.inl ⟨by rfl, fun w' hS => ?_⟩) s2 ?_
        · obtain ⟨y0, y1, y2, y3⟩ := (hSS2.out _).1 hS
          go_simp
        (try simp only [Act.put, List.setIfInBounds_toArray, List.set_cons_zero, List.set_cons_succ])
        refine takeS (i := 11) (S := SS2) (m := 23) (d := some 59) (v := .int .i64 (v : Nat)) rfl rfl (by kernel_rfl) (by kernel_rfl) (by kernel_rfl) hQP.out (by kernel_rfl) (Or.inl ⟨by rfl, fun w' hS => ?_⟩) s2 ?_
        · obtain ⟨y0, y1, y2, y3⟩ := (hSS2.out _).1 hS
          go_simp
        (try simp only [Act.put, List.setIfInBounds_toArray, List.set_cons_zero, List.set_cons_succ])
        refine takeS (i := 12) (S := SS2) (m := 23) (d := some 60) (v := .pointer (some ⟨go, v, none⟩)) rfl rfl (by kernel_rfl) (by kernel_rfl) (by kernel_rfl) hQP.out (by kernel_rfl) (Or.inl ⟨by rfl, fun w' hS => ?_⟩) s2 ?_
        · obtain ⟨y0, y1, y2, y3⟩ := (hSS2.out _).1 hS
          go_simp
        (try simp only [Act.put, List.setIfInBounds_toArray, List.set_cons_zero, List.set_cons_succ])
        refine takeS (i := 13) (S := SS2) (m := 23) (d := some 61) (v := .slice Au2 ku2 cu2) rfl rfl (by kernel_rfl) (by kernel_rfl) (by kernel_rfl) hQP.out (by kernel_rfl) (Or.inl ⟨by rfl, fun w' hS => ?_⟩) s2 ?_
        · obtain ⟨y0, y1, y2, y3⟩ := (hSS2.out _).1 hS
          go_simp
        (try simp only [Act.put, List.setIfInBounds_toArray, List.set_cons_zero, List.set_cons_succ])
        refine takeS (i := 14) (S := SS2) (m := 23) (d := some 62) (v := .pointer (some ⟨x, 0, none⟩)) rfl rfl (by kernel_rfl) (by kernel_rfl) (by kernel_rfl) hQP.out (by kernel_rfl) (Or.inl ⟨by rfl, fun w' hS => ?_⟩) s2 ?_
        · obtain ⟨y0, y1, y2, y3⟩ := (hSS2.out _).1 hS
          go_simp
        (try simp only [Act.put, List.setIfInBounds_toArray, List.set_cons_zero, List.set_cons_succ])
        refine takeS (i := 15) (S := SS2) (m := 23) (d := some 63) (v := .pointer (some ⟨x, 0, none⟩)) rfl rfl (by kernel_rfl) (by kernel_rfl) (by kernel_rfl) hQP.out (by kernel_rfl) (Or.inl ⟨by rfl, fun w' hS => ?_⟩) s2 ?_
        · obtain ⟨y0, y1, y2, y3⟩ := (hSS2.out _).1 hS
          go_simp
        (try simp only [Act.put, List.setIfInBounds_toArray, List.set_cons_zero, List.set_cons_succ])
        refine takeS (i := 16) (S := SS2) (m := 23) (d := some 64) (v := .pointer (some ⟨x, 0, none⟩)) rfl rfl (by kernel_rfl) (by kernel_rfl) (by kernel_rfl) hQP.out (by kernel_rfl) (Or.inl ⟨by rfl, fun w' hS => ?_⟩) s2 ?_
        · obtain ⟨y0, y1, y2, y3⟩ := (hSS2.out _).1 hS
          go_simp
        (try simp only [Act.put, List.setIfInBounds_toArray, List.set_cons_zero, List.set_cons_succ])
        refine takeS (i := 17) (S := SS2) (m := 23) (d := some 65) (v := .slice HA h2k hc) rfl rfl (by kernel_rfl) (by kernel_rfl) (by kernel_rfl) hQP.out (by kernel_rfl) (Or.inl ⟨by rfl, fun w' hS => ?_⟩) s2 ?_
        · obtain ⟨y0, y1, y2, y3⟩ := (hSS2.out _).1 hS
          go_simp
        (try simp only [Act.put, List.setIfInBounds_toArray, List.set_cons_zero, List.set_cons_succ])
        refine takeS (i := 18) (S := SS2) (m := 23) (d := some 66) (v := .int .i64 (h2k : Nat)) rfl rfl (by kernel_rfl) (by kernel_rfl) (by kernel_rfl) hQP.out (by kernel_rfl) (Or.inl ⟨by rfl, fun w' hS => ?_⟩) s2 ?_
        · obtain ⟨y0, y1, y2, y3⟩ := (hSS2.out _).1 hS
          go_simp
        (try simp only [Act.put, List.setIfInBounds_toArray, List.set_cons_zero, List.set_cons_succ])
        refine takeS (i := 19) (S := SS2) (m := 23) (d := some 67) (v := .int .i64 ((h2k : Nat) + 1)) rfl rfl (by kernel_rfl) (by kernel_rfl) (by kernel_rfl) hQP.out (by kernel_rfl) (Or.inl ⟨by rfl, fun w' hS => ?_⟩) s2 ?_
        · obtain ⟨y0, y1, y2, y3⟩ := (hSS2.out _).1 hS
          go_simp
          simp [IntKind.wrap, IntKind.bits, IntKind.signed]
          omega
        (try simp only [Act.put, List.setIfInBounds_toArray, List.set_cons_zero, List.set_cons_succ])
        refine wpAnyT_ready (rs := [20]) (by kernel_rfl) (by simp) ?_
        intro j hj
        rw [List.mem_singleton] at hj
        subst hj
        refine wpOpT_step (T := fun j w' => j = 23 ∨ SS2 w') (by rfl) (fun K hK => ?_)
        go_simp
        refine hK.out _ _ ?_ ?_
        · exact .inr ((hSS2.out _).2 ⟨kept_alloc xd2 _, kept_alloc xe2 _, kept_alloc ad2 _, kept_alloc rd2 _⟩)
        clear hK K
        (try simp only [Act.put, List.setIfInBounds_toArray, List.set_cons_zero, List.set_cons_succ])
        refine wpAnyT_ready (rs := [21]) (by kernel_rfl) (by simp) ?_
        intro j hj
        rw [List.mem_singleton] at hj
        subst hj
        refine wpOpT_step (T := fun j w' => j = 23 ∨ SS2 w') (by rfl) (fun K hK => ?_)
        refine step_pushO (by rfl) (.tmp 61) (.tmp 68) (by rfl) (by rfl) (by rfl) (by first | rfl | simp) hd2 hlb2.out (by omega) ?_
        intro v2' w2' O2' g2' e2'
        obtain ⟨P2, pk2, pc2, rfl, hp12, -, -, -⟩ := O2'.form
        clear hp12
        replace e2' := Lib.hid e2'
        replace O2' := Lib.hid O2'
        have f0b2 := (World.frozen?_of_block (g2'.block go z22 (nx2.out go (by omega)))).trans fd2
        have r0b2 := g2'.cell rd2 (nx2.out go (by omega))
        have xf2 := g2'.cell xd2 (nx2.out x (by omega))
        have xg2 := g2'.cell xe2 (nx2.out x (by omega))
        have af2 := g2'.cell ad2 na2.out
        replace s2 : SS2 w2' := (hSS2.out _).2 ⟨xf2, xg2, af2, r0b2⟩
        refine hK.out _ _ ?_ ?_
        · exact .inr s2
        clear hK K
        (try simp only [Act.put, List.setIfInBounds_toArray, List.set_cons_zero, List.set_cons_succ])
        refine wpAnyT_ready (rs := [22]) (by kernel_rfl) (by simp) ?_
        intro j hj
        rw [List.mem_singleton] at hj
        subst hj
        refine wpOpT_step (T := fun j w' => j = 23 ∨ SS2 w') (by rfl) (fun K hK => ?_)
        go_simp
        refine hK.out _ _ ?_ ?_
        · exact .inr s2
        clear hK K
        (try simp only [Act.put, List.setIfInBounds_toArray, List.set_cons_zero, List.set_cons_succ])
        refine wpAnyT_ready (rs := [23]) (by kernel_rfl) (by simp) ?_
        intro j hj
        rw [List.mem_singleton] at hj
        subst hj
        refine wpOpT_step (T := fun j w' => j = 23 ∨ SS2 w') (by rfl) (fun K hK => ?_)
        go_simp
        refine hK.out _ _ ?_ ?_
        · exact .inl rfl
        clear hK K
        (try simp only [Act.put, List.setIfInBounds_toArray, List.set_cons_zero, List.set_cons_succ])
        refine wpAnyT_done (by kernel_rfl) (hQQ.out _ _ ?_) _
        clear hQQ hQP QQ
        clear xd2 xe2 ad2 xf2 xg2 af2 s2 hSS2 SS2
        go_wp2_with fail
        -- E6
        have OM3 := OMd2.out.rowPush hol2.out.1 (i := h2k + 1) hV2.out O2'.out g2' e2'.out
        have hOJ3 := Lib.hid (hOJ2.out.step hfr2 hvN)
        have bA3 := (bd2.out.grown g2' na2.out).far (p := ⟨go, v, none⟩) (show ab ≠ go by omega) (.slice P2 pk2 pc2)
        have hBx2 := Bd2.out.size
        have hlwx2 := hlw.out
        have g2B : ∀ k', Value.ownBlock (.slice Au2 ku2 cu2) = some k' → w.heap.size ≤ k' := fun k' hk' => by have := (oB2.out k' hk').1; omega
        have B3 := (Bd2.out.grown g2' hBx2 g2B).setCell (p := ⟨go, v, none⟩) (show w.heap.size ≤ go by omega) (.slice P2 pk2 pc2)
        have hnaH3 := hnaH2.out
        clear OMd2 Bd2 bd2 hd2 rd2 fd2 f0b2 r0b2 O2' e2' g2' z02 z22 hnab2 hnaH2 hOJ2 hV2 oB2 hku2 hsm2 hlb2 nx2 na2 hlwx2 hBx2 g2B j02 j12
        generalize w2'.setCell ⟨go, v, none⟩ (.slice P2 pk2 pc2) = W3 at *
        obtain ⟨outs3, houts3⟩ : ∃ o, o = outs2.set v (outs2.getD v [] ++ [h2k + 1]) := ⟨_, rfl⟩
        rw [← houts3] at OM3 hOJ3
        clear houts3 hol2
        generalize vs2.set v (.slice P2 pk2 pc2) = vs3 at *
        -- the halves
        have hhs : (hvs (ac.take k)).length = h2k := by rw [hvs_len, List.length_take, hh2k.out.1]; have := hMl.out.1; omega
        have nH : ∀ g, g < x + 1 → some g ≠ Value.ownBlock (.slice HA h2k hc) := fun g hg e => by have := (OM3.half.block_lt g e.symm).1; omega
        have oH := OM3.half.block_lt
        have OMd3 := OM3.bel (Below.refl W3.heap.size W3).drew
        have x03 := Blk.cell OM3.net 0
        have a03 := Blk.cell bA3 0
        have a13 := Blk.cell bA3 1
        have a23 := Blk.cell bA3 2
        simp at x03 a03 a13 a23
        have xd3 : W3.drew.cell? ⟨x, 0, none⟩ = some (.slice HA h2k hc) := x03
        have fd3 : W3.drew.frozen? ⟨x, 0, none⟩ = false := Blk.frozen OM3.net 0
        have Bd3 := B3.drew
        replace hnaH3 := Lib.hid hnaH3
        replace nH := Lib.hid nH
        replace oH := Lib.hid oH
        replace hhs := Lib.hid (And.intro hhs True.intro)
        have z03 := OM3.net.lt
        -- R7
        obtain ⟨SS3, hSS3⟩ : ∃ SS : World → Prop, ∀ w', SS w' ↔ (w'.cell? ⟨x, 0, none⟩ = some (.slice HA h2k hc) ∧ w'.cell? ⟨ab, 0, none⟩ = some (.int .i64 (u : Nat)) ∧ w'.cell? ⟨ab, 1, none⟩ = some (.int .i64 (v : Nat)) ∧ w'.cell? ⟨ab, 2, none⟩ = some (.int .i64 (q : Nat))) := ⟨fun w' => _, fun _ => Iff.rfl⟩
        replace hSS3 := Lib.hid hSS3
        refine wp_region_TS (T := fun j w' => j = 19 ∨ SS3 w') (by kernel_rfl) ?_
        intro QQ hQQ hQP
        have s3 : SS3 W3.drew := (hSS3.out _).2 ⟨x03, a03, a13, a23⟩
        have ae03 : W3.drew.cell? ⟨ab, 0, none⟩ = some (.int .i64 (u : Nat)) := a03
        have ae13 : W3.drew.cell? ⟨ab, 1, none⟩ = some (.int .i64 (v : Nat)) := a13
        have ae23 : W3.drew.cell? ⟨ab, 2, none⟩ = some (.int .i64 (q : Nat)) := a23
        clear OM3 x03 a03 a13 a23 bA3 B3 z03
        generalize W3.drew = X3 at *
        have z03 := OMd3.net.lt
        have hown := OMd3.half
        replace OMd3 := Lib.hid OMd3
        replace Bd3 := Lib.hid Bd3
        refine takeS (i := 0) (S := SS3) (m := 19) (d := some 71) (v := .pointer (some ⟨x, 0, none⟩)) rfl rfl (by kernel_rfl) (by kernel_rfl) (by kernel_rfl) hQP.out (by kernel_rfl) (Or.inl ⟨by rfl, fun w' hS => ?_⟩) s3 ?_
        · obtain ⟨y0, y1, y2, y3⟩ := (hSS3.out _).1 hS
          go_simp
        (try simp only [Act.put, List.setIfInBounds_toArray, List.set_cons_zero, List.set_cons_succ])
        refine takeS (i := 1) (S := SS3) (m := 19) (d := some 72) (v := .pointer (some ⟨x, 0, none⟩)) rfl rfl (by kernel_rfl) (by kernel_rfl) (by kernel_rfl) hQP.out (by kernel_rfl) (Or.inl ⟨by rfl, fun w' hS => ?_⟩) s3 ?_
        · obtain ⟨y0, y1, y2, y3⟩ := (hSS3.out _).1 hS
          go_simp
        (try simp only [Act.put, List.setIfInBounds_toArray, List.set_cons_zero, List.set_cons_succ])
        refine takeS (i := 2) (S := SS3) (m := 19) (d := some 73) (v := .pointer (some ⟨x, 0, none⟩)) rfl rfl (by kernel_rfl) (by kernel_rfl) (by kernel_rfl) hQP.out (by kernel_rfl) (Or.inl ⟨by rfl, fun w' hS => ?_⟩) s3 ?_
        · obtain ⟨y0, y1, y2, y3⟩ := (hSS3.out _).1 hS
          go_simp
        (try simp only [Act.put, List.setIfInBounds_toArray, List.set_cons_zero, List.set_cons_succ])
        refine takeS (i := 3) (S := SS3) (m := 19) (d := some 74) (v := .pointer (some ⟨x, 0, none⟩)) rfl rfl (by kernel_rfl) (by kernel_rfl) (by kernel_rfl) hQP.out (by kernel_rfl) (Or.inl ⟨by rfl, fun w' hS => ?_⟩) s3 ?_
        · obtain ⟨y0, y1, y2, y3⟩ := (hSS3.out _).1 hS
          go_simp
        (try simp only [Act.put, List.setIfInBounds_toArray, List.set_cons_zero, List.set_cons_succ])
        refine takeS (i := 4) (S := SS3) (m := 19) (d := some 75) (v := .slice HA h2k hc) rfl rfl (by kernel_rfl) (by kernel_rfl) (by kernel_rfl) hQP.out (by kernel_rfl) (Or.inl ⟨by rfl, fun w' hS => ?_⟩) s3 ?_
        · obtain ⟨y0, y1, y2, y3⟩ := (hSS3.out _).1 hS
          go_simp
        (try simp only [Act.put, List.setIfInBounds_toArray, List.set_cons_zero, List.set_cons_succ])
        refine takeS (i := 5) (S := SS3) (m := 19) (d := some 76) (v := .agg #[.int .i64 (u : Nat), .int .i64 (v : Nat), .int .i64 (q : Nat)]) rfl rfl (by kernel_rfl) (by kernel_rfl) (by kernel_rfl) hQP.out (by kernel_rfl) (Or.inl ⟨by rfl, fun w' hS => ?_⟩) s3 ?_
        · obtain ⟨y0, y1, y2, y3⟩ := (hSS3.out _).1 hS
          go_simp
        (try simp only [Act.put, List.setIfInBounds_toArray, List.set_cons_zero, List.set_cons_succ])
        refine takeS (i := 6) (S := SS3) (m := 19) (d := some 77) (v := .pointer (some ⟨ab, 2, none⟩)) rfl rfl (by kernel_rfl) (by kernel_rfl) (by kernel_rfl) hQP.out (by kernel_rfl) (Or.inl ⟨by rfl, fun w' hS => ?_⟩) s3 ?_
        · obtain ⟨y0, y1, y2, y3⟩ := (hSS3.out _).1 hS
          go_simp
        (try simp only [Act.put, List.setIfInBounds_toArray, List.set_cons_zero, List.set_cons_succ])
        refine takeS (i := 7) (S := SS3) (m := 19) (d := some 78) (v := .int .i64 (q : Nat)) rfl rfl (by kernel_rfl) (by kernel_rfl) (by kernel_rfl) hQP.out (by kernel_rfl) (Or.inl ⟨by rfl, fun w' hS => ?_⟩) s3 ?_
        · obtain ⟨y0, y1, y2, y3⟩ := (hSS3.out _).1 hS
          go_simp
        (try simp only [Act.put, List.setIfInBounds_toArray, List.set_cons_zero, List.set_cons_succ])
        refine takeS (i := 8) (S := SS3) (m := 19) (d := some 79) (v := .agg #[.int .i64 (u : Nat), .int .i64 (v : Nat), .int .i64 (q : Nat), .int .i64 (q : Nat)]) rfl rfl (by kernel_rfl) (by kernel_rfl) (by kernel_rfl) hQP.out (by kernel_rfl) (Or.inl ⟨by rfl, fun w' hS => ?_⟩) s3 ?_
        · obtain ⟨y0, y1, y2, y3⟩ := (hSS3.out _).1 hS
          go_simp
        (try simp only [Act.put, List.setIfInBounds_toArray, List.set_cons_zero, List.set_cons_succ])
        refine takeS (i := 9) (S := SS3) (m := 19) (d := some 80) (v := .pointer (some ⟨ab, 1, none⟩)) rfl rfl (by kernel_rfl) (by kernel_rfl) (by kernel_rfl) hQP.out (by kernel_rfl) (Or.inl ⟨by rfl, fun w' hS => ?_⟩) s3 ?_
        · obtain ⟨y0, y1, y2, y3⟩ := (hSS3.out _).1 hS
          go_simp
        (try simp only [Act.put, List.setIfInBounds_toArray, List.set_cons_zero, List.set_cons_succ])
        refine takeS (i := 10) (S := SS3) (m := 19) (d := some 81) (v := .int .i64 (v : Nat)) rfl rfl (by kernel_rfl) (by kernel_rfl) (by kernel_rfl) hQP.out (by kernel_rfl) (Or.inl ⟨by rfl, fun w' hS => ?_⟩) s3 ?_
        · obtain ⟨y0, y1, y2, y3⟩ := (hSS3.out _).1 hS
          go_simp
        (try simp only [Act.put, List.setIfInBounds_toArray, List.set_cons_zero, List.set_cons_succ])
        refine takeS (i := 11) (S := SS3) (m := 19) (d := some 82) (v := .pointer (some ⟨ab, 0, none⟩)) rfl rfl (by kernel_rfl) (by kernel_rfl) (by kernel_rfl) hQP.out (by kernel_rfl) (Or.inl ⟨by rfl, fun w' hS => ?_⟩) s3 ?_
        · obtain ⟨y0, y1, y2, y3⟩ := (hSS3.out _).1 hS
          go_simp
        (try simp only [Act.put, List.setIfInBounds_toArray, List.set_cons_zero, List.set_cons_succ])
        refine takeS (i := 12) (S := SS3) (m := 19) (d := some 83) (v := .int .i64 (u : Nat)) rfl rfl (by kernel_rfl) (by kernel_rfl) (by kernel_rfl) hQP.out (by kernel_rfl) (Or.inl ⟨by rfl, fun w' hS => ?_⟩) s3 ?_
        · obtain ⟨y0, y1, y2, y3⟩ := (hSS3.out _).1 hS
          go_simp
        (try simp only [Act.put, List.setIfInBounds_toArray, List.set_cons_zero, List.set_cons_succ])
        refine takeS (i := 13) (S := SS3) (m := 19) (d := some 84) (v := .agg #[.int .i64 (v : Nat), .int .i64 (u : Nat), .int .i64 0]) rfl rfl (by kernel_rfl) (by kernel_rfl) (by kernel_rfl) hQP.out (by kernel_rfl) (Or.inl ⟨by rfl, fun w' hS => ?_⟩) s3 ?_
        · obtain ⟨y0, y1, y2, y3⟩ := (hSS3.out _).1 hS
          go_simp
        (try simp only [Act.put, List.setIfInBounds_toArray, List.set_cons_zero, List.set_cons_succ])
        refine takeS (i := 14) (S := SS3) (m := 19) (d := some 85) (v := .agg #[.int .i64 (v : Nat), .int .i64 (u : Nat), .int .i64 0, .int .i64 0]) rfl rfl (by kernel_rfl) (by kernel_rfl) (by kernel_rfl) hQP.out (by kernel_rfl) (Or.inl ⟨by rfl, fun w' hS => ?_⟩) s3 ?_
        · obtain ⟨y0, y1, y2, y3⟩ := (hSS3.out _).1 hS
          go_simp
        (try simp only [Act.put, List.setIfInBounds_toArray, List.set_cons_zero, List.set_cons_succ])
        refine wpAnyT_ready (rs := [15]) (by kernel_rfl) (by simp) ?_
        intro j hj
        rw [List.mem_singleton] at hj
        subst hj
        refine wpOpT_step (T := fun j w' => j = 19 ∨ SS3 w') (by rfl) (fun K hK => ?_)
        go_simp
        refine hK.out _ _ ?_ ?_
        · exact .inr ((hSS3.out _).2 ⟨kept_alloc xd3 _, kept_alloc ae03 _, kept_alloc ae13 _, kept_alloc ae23 _⟩)
        clear hK K
        (try simp only [Act.put, List.setIfInBounds_toArray, List.set_cons_zero, List.set_cons_succ])
        refine wpAnyT_ready (rs := [16]) (by kernel_rfl) (by simp) ?_
        intro j hj
        rw [List.mem_singleton] at hj
        subst hj
        refine wpOpT_step (T := fun j w' => j = 19 ∨ SS3 w') (by rfl) (fun K hK => ?_)
        refine step_pushH (by rfl) (.tmp 75) (.tmp 86) (by rfl) (by rfl) (by rfl) (by first | rfl | simp) (p := (u, v, q, q)) (q := (v, u, 0, 0)) rfl hown (by rw [hhs.out.1]; omega) (by omega) ?_
        intro P3 pk3 pc3 w3' O3' gX3 e3'
        replace e3' := Lib.hid e3'
        replace O3' := Lib.hid O3'
        have f0b3 := (World.frozen?_of_block (gX3.block x z03 (nH.out x (by omega)))).trans fd3
        have x0b3 := gX3.cell xd3 (nH.out x (by omega))
        have nab : some ab ≠ Value.ownBlock (.slice HA h2k hc) := fun e => hnaH3.out ab e.symm rfl
        replace s3 : SS3 w3' := (hSS3.out _).2 ⟨x0b3, gX3.cell ae03 nab, gX3.cell ae13 nab, gX3.cell ae23 nab⟩
        refine hK.out _ _ ?_ ?_
        · exact .inr s3
        clear hK K
        (try simp only [Act.put, List.setIfInBounds_toArray, List.set_cons_zero, List.set_cons_succ])
        refine wpAnyT_ready (rs := [17]) (by kernel_rfl) (by simp) ?_
        intro j hj
        rw [List.mem_singleton] at hj
        subst hj
        refine wpOpT_step (T := fun j w' => j = 19 ∨ SS3 w') (by rfl) (fun K hK => ?_)
        go_simp
        refine hK.out _ _ ?_ ?_
        · exact .inr s3
        clear hK K
        (try simp only [Act.put, List.setIfInBounds_toArray, List.set_cons_zero, List.set_cons_succ])
        refine wpAnyT_ready (rs := [18]) (by kernel_rfl) (by simp) ?_
        intro j hj
        rw [List.mem_singleton] at hj
        subst hj
        refine wpOpT_step (T := fun j w' => j = 19 ∨ SS3 w') (by rfl) (fun K hK => ?_)
        go_simp
        refine hK.out _ _ ?_ ?_
        · exact .inr s3
        clear hK K
        (try simp only [Act.put, List.setIfInBounds_toArray, List.set_cons_zero, List.set_cons_succ])
        refine wpAnyT_ready (rs := [19]) (by kernel_rfl) (by simp) ?_
        intro j hj
        rw [List.mem_singleton] at hj
        subst hj
        refine wpOpT_step (T := fun j w' => j = 19 ∨ SS3 w') (by rfl) (fun K hK => ?_)
        go_simp
        refine hK.out _ _ ?_ ?_
        · exact .inl rfl
        clear hK K
        (try simp only [Act.put, List.setIfInBounds_toArray, List.set_cons_zero, List.set_cons_succ])
        refine wpAnyT_done (by kernel_rfl) (hQQ.out _ _ ?_) _
        clear hQQ hQP QQ
        clear ae03 ae13 ae23 nab s3 hSS3 SS3
        go_wp2_with fail
        -- E7
        have OM4 := OMd3.out.halfPush O3'.out gX3 e3'.out
        have htk : hvs (ac.take k) ++ [(u, v, q, q), (v, u, 0, 0)] = hvs (ac.take (k + 1)) := by
          rw [List.take_add_one, hak.out]
          unfold hvs
          rw [List.flatMap_append]; rfl
        rw [htk] at OM4
        have hBx3 := Bd3.out.size
        have hlwx3 := hlw.out
        have B4 := (Bd3.out.grown gX3 hBx3 (fun k' hk' => by have := (oH.out k' hk').1; omega)).setCell (p := ⟨x, 0, none⟩) (show w.heap.size ≤ x by omega) (.slice P3 pk3 pc3)
        have h22 : h2k + 2 = 2 * (k + 1) := by have := hh2k.out.1; omega
        have hOJ4 : OutJ N ac (h2k + 1 + 1) outs3 := hOJ3.out
        rw [show h2k + 1 + 1 = 2 * (k + 1) by omega] at hOJ4
        rw [h22] at OM4
        replace OM4 := Lib.hid OM4
        replace hOJ4 := Lib.hid hOJ4
        replace B4 := Lib.hid B4
        clear OMd3 Bd3 htk hBx3 hlwx3 h22
        go_wp2_with fail
        go_roundw
        case rel => exact ⟨k + 1, _, vs3, outs3, by omega, by go_num, OM4.out, hOJ4, B4.out⟩
        case measure => simp [intOf]; omega
      · obtain rfl : k = M := by omega
        have i0 : ¬ (k : Int) < (k : Int) := by omega
        have hac : ac.take k = ac := List.take_of_length_le (by have := hMl.out.1; omega)
        have hk2 : k = ac.length := by have := hMl.out.1; omega
        rw [hac] at hOM
        have hlwx := hlw.out
        obtain ⟨p, e1, e2, e3, e4, hnet, hnm⟩ := OM.fin (by rw [← hk2]; exact hOM) (by rw [← hk2]; exact hOJ.out) hen.out
        have hfin := Lib.hid (And.intro hnet (And.intro hnm (And.intro e1 (And.intro e2 (And.intro e3 e4)))))
        clear hOM hOJ hnet hnm hac hk2 hlwx e1 e2 e3 e4
        go_wp2_with fail
        go_ret
        obtain ⟨hnet, hnm, e1, e2, e3, e4⟩ := hfin.out
        have hlwx := hlw.out
        exact ⟨p, by rw [e1]; rfl, outs, hnet, _, _, _, hnm, List.length_replicate, List.length_replicate, lft_ok ac, fun k hk => (lft_get ac hk).2, hb, by omega, by omega, by omega⟩
end Go.Proofs.YticekkjambkifaaDoor.Fl
