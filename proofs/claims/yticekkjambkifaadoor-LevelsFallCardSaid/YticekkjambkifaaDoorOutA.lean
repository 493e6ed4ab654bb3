/- levels.outer: the problem of the nodes outside an inner set: what the parts are (plain), and what stands while it is made. -/
import Derived.Test.YticekkjambkifaaDoorLvlP
set_option linter.unusedVariables false
set_option linter.unusedSimpArgs false
namespace Go.Proofs.YticekkjambkifaaDoor.Fl
open Go.RowKit Go.Proofs.YticekkjambkifaaDoor CoBit CoRat Rt

theorem outE_snoc (l : List (Int × Int)) (e : Int × Int) (i : Nat) : outE (l ++ [e]) i = outE l i ++ (if e.1 ∈ bset i ∨ e.2 ∈ bset i then [] else [e]) := by
  unfold outE
  rw [List.filter_append]
  congr 1
  by_cases c : e.1 ∈ bset i ∨ e.2 ∈ bset i
  · rw [if_pos c, List.filter_cons_of_neg]
    · rfl
    · rw [decide_eq_true_eq]; rintro ⟨a, b⟩; exact c.elim a b
  · rw [if_neg c, List.filter_cons_of_pos]
    · rfl
    · rw [decide_eq_true_eq]; exact ⟨fun a => c (.inl a), fun b => c (.inr b)⟩
theorem cntE_snoc (l : List (Int × Int)) (e : Int × Int) (S : List Int) (v : Int) : cntE (l ++ [e]) S v = cntE l S v + oneE e S v := by
  induction l with
  | nil => rw [List.nil_append, cntE_cons]
  | cons a l ih => rw [List.cons_append, cntE_cons, cntE_cons, ih]; omega
theorem bit_mem {i u : Nat} (hu : u < 64) : (u : Int) ∈ bset i ↔ i.testBit u = true := by
  rw [mem_bset]; exact ⟨fun h => h.2, fun h => ⟨hu, h⟩⟩
theorem bsO_snoc (n i : Nat) {u v : Nat} (l : List (Int × Int)) (hu : u < 64) (hv : v < 64) :
    bsO n (l ++ [((u : Int), (v : Int))]) i = (List.range n).map fun w : Nat => if i.testBit w = true then 0 else cntE l (bset i) (w : Int) + ((if u = w ∧ i.testBit v = true then 1 else 0) + (if v = w ∧ i.testBit u = true then 1 else 0)) := by
  unfold bsO
  refine List.map_congr_left fun w _ => ?_
  by_cases h : i.testBit w = true
  · rw [if_pos h, if_pos h]
  · rw [if_neg h, if_neg h, cntE_snoc]
    unfold oneE
    simp only [bit_mem hu, bit_mem hv, Int.natCast_inj]
theorem map_range_set (n : Nat) (f : Nat → Nat) (v y : Nat) : ((List.range n).map f).set v y = (List.range n).map fun w => if w = v then y else f w := by
  refine List.ext_getElem (by simp) fun k h1 h2 => ?_
  rw [List.getElem_set]
  simp only [List.getElem_map, List.getElem_range]
  by_cases e : v = k
  · rw [if_pos e, if_pos e.symm]
  · rw [if_neg e, if_neg (fun e' => e e'.symm)]
theorem bsO_at {n i : Nat} (es : List (Int × Int)) {v : Nat} (hv : v < n) (hi : i.testBit v = false) : (bsO n es i).getD v 0 = cntE es (bset i) (v : Int) := bsO_get hv hi
theorem bsO_len (n : Nat) (es : List (Int × Int)) (i : Nat) : (bsO n es i).length = n := by unfold bsO; simp
theorem bsO_none {n i u v : Nat} (l : List (Int × Int)) (hu : u < 64) (hv : v < 64) (h : i.testBit u = i.testBit v) : bsO n (l ++ [((u : Int), (v : Int))]) i = bsO n l i := by
  rw [bsO_snoc n i l hu hv]
  unfold bsO
  refine List.map_congr_left fun w _ => ?_
  by_cases hw : i.testBit w = true
  · rw [if_pos hw, if_pos hw]
  · rw [if_neg hw, if_neg hw, if_neg, if_neg]
    · rfl
    · rintro ⟨rfl, h2⟩; exact hw (by rw [← h]; exact h2)
    · rintro ⟨rfl, h2⟩; exact hw (by rw [h]; exact h2)
theorem bsO_right {n i u v : Nat} (l : List (Int × Int)) (hu : u < 64) (hv : v < 64) (hvn : v < n) (h1 : i.testBit u = true) (h2 : i.testBit v = false) : bsO n (l ++ [((u : Int), (v : Int))]) i = (bsO n l i).set v ((bsO n l i).getD v 0 + 1) := by
  rw [bsO_snoc n i l hu hv, bsO_get hvn h2]
  unfold bsO
  rw [map_range_set]
  refine List.map_congr_left fun w _ => ?_
  by_cases e : w = v
  · subst e
    rw [if_neg (by rw [h2]; decide), if_pos rfl, if_neg (by rintro ⟨_, h⟩; rw [h2] at h; cases h), if_pos ⟨rfl, h1⟩]
  · rw [if_neg e]
    by_cases hw : i.testBit w = true
    · rw [if_pos hw, if_pos hw]
    · rw [if_neg hw, if_neg hw, if_neg (by rintro ⟨_, h⟩; rw [h2] at h; cases h), if_neg (fun h => e h.1.symm)]; rfl
theorem bsO_left {n i u v : Nat} (l : List (Int × Int)) (hu : u < 64) (hv : v < 64) (hun : u < n) (h1 : i.testBit u = false) (h2 : i.testBit v = true) : bsO n (l ++ [((u : Int), (v : Int))]) i = (bsO n l i).set u ((bsO n l i).getD u 0 + 1) := by
  rw [bsO_snoc n i l hu hv, bsO_get hun h1]
  unfold bsO
  rw [map_range_set]
  refine List.map_congr_left fun w _ => ?_
  by_cases e : w = u
  · subst e
    rw [if_neg (by rw [h1]; decide), if_pos rfl, if_pos ⟨rfl, h2⟩, if_neg (by rintro ⟨_, h⟩; rw [h1] at h; cases h)]
  · rw [if_neg e]
    by_cases hw : i.testBit w = true
    · rw [if_pos hw, if_pos hw]
    · rw [if_neg hw, if_neg hw, if_neg (fun h => e h.1.symm), if_neg (by rintro ⟨_, h⟩; rw [h1] at h; cases h)]; rfl
theorem cntE_le (es : List (Int × Int)) (S : List Int) (v : Int) : cntE es S v ≤ 2 * es.length := by
  induction es with
  | nil => exact Nat.zero_le _
  | cons e es ih =>
    rw [cntE_cons, List.length_cons]
    have : oneE e S v ≤ 2 := by unfold oneE; split <;> split <;> omega
    omega
theorem bsO_le (n : Nat) (es : List (Int × Int)) (i v : Nat) : (bsO n es i).getD v 0 ≤ 2 * es.length := by
  rw [List.getD_eq_getElem?_getD]
  unfold bsO
  rw [List.getElem?_map]
  by_cases h : v < n
  · rw [List.getElem?_range h]
    show (if i.testBit v = true then 0 else cntE es (bset i) (v : Int)) ≤ _
    split
    · omega
    · exact cntE_le _ _ _
  · rw [List.getElem?_eq_none (by simp; omega)]; exact Nat.zero_le _
theorem nts_set' (l : List Nat) (i v : Nat) : nts (l.set i v) = (nts l).set i (v : Int) := by unfold nts; rw [List.map_set]
theorem nts_getD' (l : List Nat) (i : Nat) : (nts l).getD i 0 = ((l.getD i 0 : Nat) : Int) := by
  unfold nts
  rw [List.getD_eq_getElem?_getD, List.getD_eq_getElem?_getD, List.getElem?_map]
  cases l[i]? <;> rfl
theorem bsO_nil (n i : Nat) : bsO n [] i = List.replicate n 0 := by
  unfold bsO
  rw [List.eq_replicate_iff]
  refine ⟨by simp, fun b hb => ?_⟩
  obtain ⟨v, _, rfl⟩ := List.mem_map.1 hb
  split
  · rfl
  · rfl

/-- append of edges, with its block. -/
theorem step_cateb {ops : Array Oper} {o : Oper} {a : Act} {K : Act → World → Prop} {Q : Exit → Act → World → Prop} {w : World} {B : Nat} {v : Value} {ys zs : List (Int × Int)} {A : Option Addr} {m c : Nat} {E : Prop}
    (hgd : o.guard = none) (s x : Operand) (ho : o.op = .call { callee := .builtin .append, args := #[s, x], argTypes := #[23, 23] })
    (hs : a.eval s = v) (hx : a.eval x = .slice A m c) (hown : OE w B v ys) (hr : RE w A m zs) (hn : ys.length + m ≤ 1099511627776) (hB : B ≤ w.heap.size)
    (h : ∀ v' w', OE w' B v' (ys ++ zs) → w.grownBy w' v.ownBlock → (v'.ownBlock = v.ownBlock ∨ ∃ k, v'.ownBlock = some k ∧ w.heap.size ≤ k) → K (a.put o.dst v') w') :
    if Region.wanted o (yielded ops a.tmps) = true then Oper.wp Tryd.prog o a w K Q else E := by
  obtain ⟨i0, hi0, hz0, hz1, hz2⟩ := info_parts edge_info
  refine step_append_any _ hgd s x _ ho B 73 i0 _ 2 16 Tryd.underlying23 hi0 hz0 hz1 hz2 rfl (by omega) v ys.length (edgs ys) hs hown _ _ m c (edgs zs) hx hr (edgs_one _) (by unfold maxLen; omega) (by omega) hB ?_
  intro v' w' h1 h2 h3
  refine h v' w' ?_ h2 ?_
  · unfold OE
    rw [List.length_append, edgs_append, hr.len]; exact h1
  · rcases h3 with h3 | h3
    · exact .inl h3
    · exact .inr ⟨_, h3, Nat.le_refl _⟩
/-- append of numbers, with its block. -/
theorem step_catib {ops : Array Oper} {o : Oper} {a : Act} {K : Act → World → Prop} {Q : Exit → Act → World → Prop} {w : World} {B : Nat} {v : Value} {ys zs : List Int} {A : Option Addr} {m c : Nat} {E : Prop}
    (hgd : o.guard = none) (s x : Operand) (ho : o.op = .call { callee := .builtin .append, args := #[s, x], argTypes := #[22, 22] })
    (hs : a.eval s = v) (hx : a.eval x = .slice A m c) (hown : OI w B v ys) (hr : RI w A m zs) (hn : ys.length + m ≤ 2199023255552) (hB : B ≤ w.heap.size)
    (h : ∀ v' w', OI w' B v' (ys ++ zs) → w.grownBy w' v.ownBlock → (v'.ownBlock = v.ownBlock ∨ ∃ k, v'.ownBlock = some k ∧ w.heap.size ≤ k) → K (a.put o.dst v') w') :
    if Region.wanted o (yielded ops a.tmps) = true then Oper.wp Tryd.prog o a w K Q else E := by
  obtain ⟨i0, hi0, hz0, hz1, hz2⟩ := info_parts int_info
  refine step_append_any _ hgd s x _ ho B 3 i0 _ 1 8 Tryd.underlying22 hi0 hz0 hz1 hz2 rfl (by omega) v ys.length (ints ys) hs hown _ _ m c (ints zs) hx hr (ints_one _) (by unfold maxLen; omega) (by omega) hB ?_
  intro v' w' h1 h2 h3
  refine h v' w' ?_ h2 ?_
  · unfold OI
    rw [List.length_append, ints_append, hr.len]; exact h1
  · rcases h3 with h3 | h3
    · exact .inl h3
    · exact .inr ⟨_, h3, Nat.le_refl _⟩
/-- An operation that comes ahead of all that spoil S is taken first. -/
theorem takeM {P : Program} {md : Region.Mode} {ops : Array Oper} {Q : Exit → Act → World → Prop} {S : World → Prop} {M : List Nat} {i : Nat} {oi : Oper} {d : Option Tmp} {v : Value} {fuel : Nat} {listed : Array Bool} {a : Act} {w : World} (hi : ops[i]? = some oi) (hd : oi.dst = d)
    (hs : Region.noSelect ops = true) (hf : Region.free md ops listed i = true) (hr : (Region.ready md ops listed).contains i = true)
    (hQ : ∀ c a w, Q (.panic c) a w → False) (hm : (M.all fun j => listed.getD j true || hasB md ops j i) = true) (hy : YieldsIf P ops S oi v a) (hS : S w)
    (h : wpAnyT P md ops Q (fun j w => j ∈ M ∨ S w) fuel (listed.setIfInBounds i true) (a.put d v) w) : wpAnyT P md ops Q (fun j w => j ∈ M ∨ S w) (fuel + 1) listed a w :=
  wpAnyT_take hi hs hf hr (fun c a w h => (hQ _ _ _ h).elim) (fun w h => .inr h) (fun j oj hj hji hun hno w hT => by
    rcases hT with hM | h
    · exfalso
      have h1 := List.all_eq_true.1 hm j hM
      rw [hun, Bool.false_or] at h1
      unfold hasB at h1
      rw [hj] at h1
      obtain ⟨e, he, hb⟩ := List.any_eq_true.1 h1
      rw [Bool.and_eq_true, beq_iff_eq] at hb
      exact hno e (by simpa using he) hb.1 hb.2
    · exact h) hy hS (by rw [hd]; exact h)
/-- An operation that yields the same wherever it stands is taken first. -/
theorem takeU {P : Program} {md : Region.Mode} {ops : Array Oper} {Q : Exit → Act → World → Prop} {S : World → Prop} {M : List Nat} {i : Nat} {oi : Oper} {d : Option Tmp} {v : Value} {fuel : Nat} {listed : Array Bool} {a : Act} {w : World} (hi : ops[i]? = some oi) (hd : oi.dst = d)
    (hs : Region.noSelect ops = true) (hf : Region.free md ops listed i = true) (hr : (Region.ready md ops listed).contains i = true)
    (hQ : ∀ c a w, Q (.panic c) a w → False) (hm : i ∈ M) (hy : YieldsIf P ops (fun _ => True) oi v a)
    (h : wpAnyT P md ops Q (fun j w => j ∈ M ∨ S w) fuel (listed.setIfInBounds i true) (a.put d v) w) : wpAnyT P md ops Q (fun j w => j ∈ M ∨ S w) (fuel + 1) listed a w :=
  wpAnyT_take (S := fun _ => True) hi hs hf hr (fun c a w h => (hQ _ _ _ h).elim) (fun w h => .inl hm) (fun _ _ _ _ _ _ _ _ => trivial) hy trivial (by rw [hd]; exact h)

/-- What stands while the edges are gone through: the problem's block x, the bonus in block gb; the lists vE and vW are the call's own. -/
structure OuR (W2 wr : World) (x gb n cc F : Nat) (cE cW vE vW : Value) (CA : Option Addr) (LE : List (Int × Int)) (LW L : List Int) : Prop where
  p : Blk wr x 114 #[cE, cW, .slice (some ⟨gb, 0, none⟩) n n, .slice CA n cc, .int .u64 (F : Nat), .int .u64 0]
  oe : OE wr W2.heap.size vE LE
  ow : OI wr W2.heap.size vW LW
  ai : AI wr gb L
  dis : vE.ownBlock = none ∨ vE.ownBlock ≠ vW.ownBlock
  lo : x < W2.heap.size ∧ gb < W2.heap.size ∧ x ≠ gb
  same : Same (fun q => q = x ∨ q = gb) W2 wr
section
variable {W2 wr w' : World} {x gb n cc F : Nat} {cE cW vE vW v' : Value} {CA : Option Addr} {LE zs : List (Int × Int)} {LW L ys : List Int}
theorem OuR.alloc (h : OuR W2 wr x gb n cc F cE cW vE vW CA LE LW L) (o : Obj) : OuR W2 (wr.alloc o) x gb n cc F cE cW vE vW CA LE LW L :=
  ⟨h.p.alloc o, h.oe.alloc o, h.ow.alloc o, Blk.alloc h.ai o, h.dis, h.lo, h.same.alloc o⟩
theorem OuR.drew (h : OuR W2 wr x gb n cc F cE cW vE vW CA LE LW L) : OuR W2 wr.drew x gb n cc F cE cW vE vW CA LE LW L :=
  ⟨h.p.drew, h.oe, h.ow, Blk.drew h.ai, h.dis, h.lo, h.same.drew⟩
theorem OuR.pushE (h : OuR W2 wr x gb n cc F cE cW vE vW CA LE LW L) (ho : OE w' W2.heap.size v' (LE ++ zs)) (hg : wr.grownBy w' vE.ownBlock) (hv : v'.ownBlock = vE.ownBlock ∨ ∃ k, v'.ownBlock = some k ∧ wr.heap.size ≤ k) :
    OuR W2 w' x gb n cc F cE cW v' vW CA (LE ++ zs) LW L := by
  have hb := h.oe.block_lt
  have hbw := h.ow.block_lt
  have hlo := h.lo
  refine ⟨h.p.grown hg (fun e => by have := (hb _ e.symm).1; omega), ho, OI.kept h.ow hg ?_, Blk.grown h.ai hg (fun e => by have := (hb _ e.symm).1; omega), ?_, hlo, h.same.grown hg (fun q hq hlt => by have := (hb q hq).1; omega)⟩
  · cases hw : vW.ownBlock with
    | none => exact .inl rfl
    | some k => right; intro e; rcases h.dis with d | d
                · rw [d] at e; cases e
                · exact d (by rw [hw, e])
  · rcases hv with hv | ⟨k, hv, hk⟩
    · rw [hv]; exact h.dis
    · right; rw [hv]; intro e; have := (hbw k e.symm).2; omega
theorem OuR.pushW (h : OuR W2 wr x gb n cc F cE cW vE vW CA LE LW L) (ho : OI w' W2.heap.size v' (LW ++ ys)) (hg : wr.grownBy w' vW.ownBlock) (hv : v'.ownBlock = vW.ownBlock ∨ ∃ k, v'.ownBlock = some k ∧ wr.heap.size ≤ k) :
    OuR W2 w' x gb n cc F cE cW vE v' CA LE (LW ++ ys) L := by
  have hb := h.oe.block_lt
  have hbw := h.ow.block_lt
  have hlo := h.lo
  refine ⟨h.p.grown hg (fun e => by have := (hbw _ e.symm).1; omega), OE.kept h.oe hg ?_, ho, Blk.grown h.ai hg (fun e => by have := (hbw _ e.symm).1; omega), ?_, hlo, h.same.grown hg (fun q hq hlt => by have := (hbw q hq).1; omega)⟩
  · rcases h.dis with d | d
    · exact .inl d
    · exact .inr d
  · cases hE : vE.ownBlock with
    | none => exact .inl rfl
    | some k =>
      right
      rcases hv with hv | ⟨k', hv, hk'⟩
      · rw [hv]; rcases h.dis with d | d
        · rw [hE] at d; cases d
        · rw [← hE]; exact d
      · rw [hv]; intro e; injection e with e; have := (hb k hE).2; omega
theorem OuR.store (h : OuR W2 wr x gb n cc F cE cW vE vW CA LE LW L) : OuR W2 ((wr.setCell ⟨x, 0, none⟩ vE).setCell ⟨x, 1, none⟩ vW) x gb n cc F vE vW vE vW CA LE LW L := by
  have hlo := h.lo
  refine ⟨?_, (h.oe.set_far (p := ⟨x, 0, none⟩) hlo.1 _).set_far (p := ⟨x, 1, none⟩) hlo.1 _, ownsRow_setCell_below (ownsRow_setCell_below h.ow (show (⟨x, 0, none⟩ : Addr).block < W2.heap.size from hlo.1) _) (show (⟨x, 1, none⟩ : Addr).block < W2.heap.size from hlo.1) _,
    (Blk.far (Blk.far h.ai (p := ⟨x, 0, none⟩) (fun e => hlo.2.2 e.symm) _) (p := ⟨x, 1, none⟩) (fun e => hlo.2.2 e.symm) _), h.dis, hlo,
    (h.same.trans (Same.set wr x 0 vE) (fun q _ e => .inl e)).trans (Same.set _ x 1 vW) (fun q _ e => .inl e)⟩
  have := (h.p.set 0 vE).set 1 vW
  simpa using this
theorem OuR.bump (h : OuR W2 wr x gb n cc F cE cW vE vW CA LE LW L) (i : Nat) (y : Int) : OuR W2 (wr.setCell ⟨gb, i, none⟩ (.int .i64 y)) x gb n cc F cE cW vE vW CA LE LW (L.set i y) := by
  have hlo := h.lo
  exact ⟨h.p.far (p := ⟨gb, i, none⟩) hlo.2.2 _, h.oe.set_far (p := ⟨gb, i, none⟩) hlo.2.1 _, ownsRow_setCell_below h.ow (show (⟨gb, i, none⟩ : Addr).block < W2.heap.size from hlo.2.1) _, AI.set h.ai i y, h.dis, hlo, h.same.trans (Same.set wr gb i _) (fun q _ e => .inr e)⟩
end
end Go.Proofs.YticekkjambkifaaDoor.Fl
