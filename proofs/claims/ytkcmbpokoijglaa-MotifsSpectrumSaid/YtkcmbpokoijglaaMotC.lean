/- The names of nodes: variable and add. -/
import Derived.Test.YtkcmbpokoijglaaMotB
import Derived.Test.YtkcmbpokoijglaaDek
import Derived.BigRegion
set_option linter.unusedVariables false
set_option linter.unusedSimpArgs false
namespace Go.Proofs.Ytkcmbpokoijglaa
open Go.RowKit CoMot

/-- A block that holds names: five nodes, and how many of them count. -/
def nmC (cs : List Int) (n : Nat) : Array Value := (cs.map (fun x => Value.int .i64 x) ++ [Value.int .i64 (n : Int)]).toArray
def NM (w : World) (g : Nat) (ns : List Int) : Prop := ∃ cs : List Int, cs.length = 5 ∧ Blk w g 69 (nmC cs ns.length) ∧ cs.take ns.length = ns ∧ ns.length ≤ 5
section
variable {w w' : World} {g : Nat} {ns : List Int}
theorem NM.lt (h : NM w g ns) : g < w.heap.size := by obtain ⟨_, _, h, _⟩ := h; exact h.lt
theorem NM.below {b : Nat} (h : NM w g ns) (hb : Below b w w') (hg : g < b) : NM w' g ns := by
  obtain ⟨cs, h1, h2, h3, h4⟩ := h
  exact ⟨cs, h1, h2.below hb hg, h3, h4⟩
theorem NM.drewN (h : NM w g ns) (k : Nat) : NM (w.drewN k) g ns := h
theorem NM.drew (h : NM w g ns) : NM w.drew g ns := h
theorem NM.num (h : NM w g ns) : w.cell? ⟨g, 5, none⟩ = some (.int .i64 (ns.length : Int)) := by
  obtain ⟨cs, h1, h2, h3, h4⟩ := h
  rw [Blk.cell h2 5]
  simp [nmC, h1]
theorem nm_at {cs : List Int} (h : cs.length = 5) {n i : Nat} {x : Int} (hx : cs[i]? = some x) : (nmC cs n)[i]? = some (.int .i64 x) := by
  have hi := (List.getElem?_eq_some_iff.1 hx).1
  simp only [nmC, List.getElem?_toArray]
  rw [List.getElem?_append_left (by simpa using hi), List.getElem?_map, hx]; rfl
theorem NM.ri (h : NM w g ns) : RI w (some ⟨g, 0, none⟩) ns.length ns := by
  obtain ⟨cs, h1, h2, h3, h4⟩ := h
  refine ⟨by rw [ints_length]; omega, fun hn => ⟨_, rfl, h2.lt, fun j u hu => ?_⟩⟩
  have hadd : (⟨g, 0, none⟩ : Addr).add j = ⟨g, j, none⟩ := by unfold Addr.add; split <;> simp_all
  rw [hadd, Blk.cell h2]
  unfold ints at hu
  rw [List.getElem?_map] at hu
  cases hx : ns[j]? with
  | none => rw [hx] at hu; cases hu
  | some x =>
    rw [hx] at hu
    injection hu with hu
    rw [← hu]
    refine nm_at h1 ?_
    have hj := (List.getElem?_eq_some_iff.1 hx).1
    rw [← h3, List.getElem?_take, if_pos hj] at hx
    exact hx
theorem nm_set {cs : List Int} {n i : Nat} (h : cs.length = 5) (hi : i < 5) (x : Int) : (nmC cs n).setIfInBounds i (.int .i64 x) = nmC (cs.set i x) n := by
  unfold nmC
  rw [List.setIfInBounds_toArray, List.set_append_left _ _ (by simpa [h] using hi), List.map_set]
theorem nm_setN {cs : List Int} {n m : Nat} (h : cs.length = 5) : (nmC cs n).setIfInBounds 5 (.int .i64 (m : Int)) = nmC cs m := by
  unfold nmC
  rw [List.setIfInBounds_toArray, List.set_append_right _ _ (by simp [h])]
  simp [h]
end
theorem ixI_var (ns : List Int) (v : Int) : (ixI ns v = idx ns v ∧ decide (0 ≤ ixI ns v) = true ∧ idx ns v < ns.length) ∨ (ixI ns v = -1 ∧ decide (0 ≤ ixI ns v) = false ∧ idx ns v = ns.length) := by
  unfold ixI
  by_cases h : idx ns v < ns.length
  · rw [if_pos h]; exact .inl ⟨rfl, by simp, h⟩
  · rw [if_neg h]; exact .inr ⟨rfl, by decide, Nat.le_antisymm (idx_le _ _) (by omega)⟩

set_option maxRecDepth 100000 in
set_option maxHeartbeats 4000000 in
theorem variable_any (g : Nat) (v : Int) (ns : List Int) (w : World) (h : NM w g ns) :
    Calls Try.prog 63 #[.pointer (some ⟨g, 0, none⟩), .int .i64 v] w fun e w' => e = .returned (.int .i64 (idx ns v : Nat)) ∧ Below w.heap.size w w' := by
  have c5 := h.num
  have hri := h.ri
  have h5 : ns.length ≤ 5 := by obtain ⟨_, _, _, _, h5⟩ := h; exact h5
  have kx := fun w h => index_any (some ⟨g, 0, none⟩) ns.length 5 ns v w h (by omega)
  have hgl := h.lt
  rcases ixI_var ns v with ⟨e1, q1, hlt⟩ | ⟨e1, q1, hlt⟩
  all_goals
    rw [e1] at kx q1
    replace kx := Lib.hid kx
    replace e1 := Lib.hid e1
    replace hlt := Lib.hid hlt
    generalize hN : ns.length = N at *
    replace hN := Lib.hid hN
    have i1 : (0 : Int) ≤ (N : Int) := Int.natCast_nonneg _
    have i2 : (N : Int) ≤ 5 := by omega
    have BN : Below w.heap.size w w := Below.refl _ _
    go_enter Try.func63, Try.ntmps63
    go_wp2_with fail
    go_loud (go_region_held3 (fun w' => w'.cell? ⟨g, 5, none⟩ = some (.int .i64 (N : Int)))
      ((first | (exact (BN.cell (p := ⟨g, 5, none⟩) hgl).trans c5) | (go_keep; done)))
      ((first
        | (go_at_call 71; (with_reducible refine (kx.out _ (by first | exact hri | exact hri.drew)).mono ?_); rintro e w4 ⟨rfl, hQ⟩; replace BN : Below w.heap.size w w4 := (by rw [hQ]; exact BN.drew))
        | fail)))
    all_goals
      have c5' := (BN.cell (p := ⟨g, 5, none⟩) hgl).trans c5
      clear c5
      go_wp2_with fail
      go_ret
      exact ⟨by first | rfl | (rw [hlt.out]; rfl), by first | exact BN | exact (Below.refl _ _).drew⟩

section
variable {w w0 w' : World} {g : Nat} {t : TypeId} {cs : Array Value} {o : Obj} {b : Nat}
theorem blk_nx (h : Blk w g t cs) (hb : Below (w.alloc o).heap.size (w.alloc o) w') : Blk w' g t cs := (h.alloc o).below hb (by have := h.lt; simp; omega)
theorem blk_hr (hb : Below (w.alloc (.cells cs t)).heap.size (w.alloc (.cells cs t)) w') : Blk w' w.heap.size t cs := (Blk.new w t cs).below hb (by simp)
theorem bel_nx (h : Below b w0 w) (hs : b ≤ w.heap.size) (hb : Below (w.alloc o).heap.size (w.alloc o) w') : Below b w0 w' := (h.alloc hs o).trans (hb.mono (by simp; omega))
theorem siz_nx (hb : Below (w.alloc o).heap.size (w.alloc o) w') : w.heap.size < w'.heap.size := by have := hb.size; simp at this; omega
theorem cel2 {a c : Value} (h : Blk w g t #[a, c]) : w.cell? ⟨g, 0, none⟩ = some a ∧ w.cell? ⟨g, 1, none⟩ = some c ∧ w.frozen? ⟨g, 0, none⟩ = false ∧ w.frozen? ⟨g, 1, none⟩ = false ∧ g < w.heap.size := ⟨Blk.cell h 0, Blk.cell h 1, Blk.frozen h 0, Blk.frozen h 1, h.lt⟩
theorem grown_of_below (h : Below w.heap.size w w') (row : Option Nat) : w.grownBy w' row := ⟨h.os, h.tape, h.output, h.size, fun k hk _ => h.block k hk⟩
end
section
variable {w w' : World} {g : Nat} {ns : List Int}
theorem NM.alloc (h : NM w g ns) (o : Obj) : NM (w.alloc o) g ns := h.below ((Below.refl w.heap.size w).alloc (Nat.le_refl _) o) h.lt
theorem NM.cellI (h : NM w g ns) {i : Nat} (hi : i < 5) : ∃ x : Int, w.cell? ⟨g, i, none⟩ = some (.int .i64 x) := by
  obtain ⟨cs, h1, h2, h3, h4⟩ := h
  exact ⟨cs[i]'(by omega), (Blk.cell h2 i).trans (nm_at h1 (List.getElem?_eq_getElem (by omega)))⟩
theorem NM.frozen (h : NM w g ns) (i : Nat) : w.frozen? ⟨g, i, none⟩ = false := by
  obtain ⟨cs, h1, h2, h3, h4⟩ := h
  exact Blk.frozen h2 i
/-- Two nodes are written, and the number. -/
theorem NM.put (h : NM w g ns) {i j : Nat} {a b : Int} {ns' : List Int} (hi : i < 5) (hj : j < 5) (hn : ns'.length ≤ 5) (hx : ∀ cs : List Int, cs.length = 5 → cs.take ns.length = ns → ((cs.set i a).set j b).take ns'.length = ns') :
    NM (((w.setCell ⟨g, i, none⟩ (.int .i64 a)).setCell ⟨g, j, none⟩ (.int .i64 b)).setCell ⟨g, 5, none⟩ (.int .i64 (ns'.length : Int))) g ns' := by
  obtain ⟨cs, h1, h2, h3, h4⟩ := h
  have k1 := Blk.set h2 i (.int .i64 a)
  rw [nm_set h1 hi] at k1
  have k2 := Blk.set k1 j (.int .i64 b)
  rw [nm_set (by rw [List.length_set]; exact h1) hj] at k2
  have k3 := Blk.set k2 5 (.int .i64 (ns'.length : Int))
  rw [nm_setN (by rw [List.length_set, List.length_set]; exact h1)] at k3
  exact ⟨_, by rw [List.length_set, List.length_set]; exact h1, k3, hx cs h1 h3, hn⟩

end
set_option maxHeartbeats 2000000 in
theorem step00_any (w : World) : Calls Try.prog 38 #[.agg #[.int .i64 (0 : Nat), .int .i64 (0 : Nat)], .int .i64 (0 : Nat)] w fun e w' => e = .returned (.tuple #[.int .i64 0, .bool false]) ∧ Below w.heap.size w w' := by
  go_enter Try.func38, Try.ntmps38
  go_wp2_with fail
  refine bodyPost_ret (v := .tuple #[.int .i64 0, .bool false]) (by simp [results, Try.results38, go_sem]) rfl ⟨rfl, by go_grown⟩
theorem add_some {ns : List Int} {a b : Int} (h0 : ns ≠ []) (hij : ¬ idx ns a = idx ns b) : vs ns.length ((idx ns a : Int), (idx ns b : Int)) = some (if idx ns a = ns.length ∨ idx ns b = ns.length then ns.length + 1 else ns.length) := by
  have hl : ns.length ≠ 0 := fun e => h0 (List.eq_nil_of_length_eq_zero e)
  have ha := idx_le ns a
  have hb := idx_le ns b
  unfold vs
  rw [if_neg hl, if_neg (by simp only; omega)]
  congr 1
  by_cases h : idx ns a = ns.length ∨ idx ns b = ns.length
  · rw [if_pos h, if_pos (by simp only; omega)]
  · rw [if_neg h, if_neg (by simp only; omega)]
/-- The nodes behind a step, as they lie in memory. -/
theorem add_cells {ns cs : List Int} {a b : Int} (h5 : cs.length = 5) (ht : cs.take ns.length = ns) (h4 : ns.length ≤ 4) (h0 : ns ≠ []) (hij : ¬ idx ns a = idx ns b) :
    ((cs.set (idx ns a) a).set (idx ns b) b).take (ns ++ (if idx ns a = ns.length then [a] else []) ++ (if idx ns b = ns.length then [b] else [])).length = ns ++ (if idx ns a = ns.length then [a] else []) ++ (if idx ns b = ns.length then [b] else []) := by
  have ha := idx_le ns a
  have hb := idx_le ns b
  have hsame : ∀ x : Int, idx ns x < ns.length → cs[idx ns x]? = some x := fun x hx => by
    have h1 := idx_at hx
    rw [← ht, List.getElem?_take, if_pos (by rw [ht]; exact hx)] at h1
    rw [ht] at h1; exact h1
  have hset : ∀ (l : List Int) (i : Nat) (x : Int), l[i]? = some x → l.set i x = l := fun l i x h => by
    apply List.ext_getElem?
    intro j
    rw [List.getElem?_set]
    split
    · rename_i hij; subst hij
      rw [h]
      split
      · rfl
      · rename_i hn; exact absurd (List.getElem?_eq_some_iff.1 h).1 hn
    · rfl
  have hnew : ∀ x : Int, (cs.set ns.length x).take (ns.length + 1) = ns ++ [x] := fun x => by
    rw [List.take_add_one, List.take_set, List.set_eq_of_length_le (by rw [List.length_take]; omega), ht, List.getElem?_set_self (by omega)]; rfl
  by_cases h1 : idx ns a = ns.length
  · have h2 : ¬ idx ns b = ns.length := by omega
    have hb2 : idx ns b < ns.length := by omega
    rw [if_pos h1, if_neg h2, List.append_nil, h1, hset _ _ _ (by rw [List.getElem?_set, if_neg (by omega)]; exact hsame b hb2), List.length_append]
    exact hnew a
  · have ha2 : idx ns a < ns.length := by omega
    rw [if_neg h1, List.append_nil, hset _ _ _ (hsame a ha2)]
    by_cases h2 : idx ns b = ns.length
    · rw [if_pos h2, h2, List.length_append]; exact hnew b
    · have hb2 : idx ns b < ns.length := by omega
      rw [if_neg h2, List.append_nil, hset _ _ _ (hsame b hb2)]; exact ht

set_option maxRecDepth 100000 in
set_option maxHeartbeats 8000000 in
theorem nadd_any (g : Nat) (a b : Int) (ns : List Int) (w : World) (h : NM w g ns) (hn4 : ns.length ≤ 4) :
    Calls Try.prog 39 #[.pointer (some ⟨g, 0, none⟩), .int .i64 a, .int .i64 b] w fun e w' => w.grownBy w' (some g) ∧
      ((add ns a b = none ∧ e = .returned (.tuple #[.agg #[.int .i64 0, .int .i64 0], .bool false]) ∧ NM w' g ns) ∨ ∃ ns' i j, add ns a b = some (ns', (i, j)) ∧ e = .returned (.tuple #[.agg #[.int .i64 i, .int .i64 j], .bool true]) ∧ NM w' g ns') := by
  have c5 := h.num
  have hgl := h.lt
  have hways : (ns = [] ∧ a ≠ b) ∨ (add ns a b = none ∧ idx ns a = idx ns b ∧ ((ns.length = 0 ∧ a = b) ∨ ¬ ns.length = 0)) ∨ (ns ≠ [] ∧ ¬ idx ns a = idx ns b) := by
    by_cases h0 : ns = []
    · subst h0
      by_cases hab : a = b
      · exact .inr (.inl ⟨by unfold add; rw [if_pos rfl, if_neg (by simpa using hab)], by rw [hab], .inl ⟨rfl, hab⟩⟩)
      · exact .inl ⟨rfl, hab⟩
    · by_cases hij : idx ns a = idx ns b
      · exact .inr (.inl ⟨by unfold add; rw [if_neg h0, if_pos hij], hij, .inr (fun e => h0 (List.eq_nil_of_length_eq_zero e))⟩)
      · exact .inr (.inr ⟨h0, hij⟩)
  rcases hways with ⟨rfl, hab⟩ | ⟨hadd, hij, hcase⟩ | ⟨h0, hij⟩
  · have q1 : (a != b) = true := by simp [hab]
    have hadd : Hid (add [] a b = some ([a, b], (0, 1))) := Lib.hid (by unfold add; rw [if_pos rfl, if_pos hab])
    obtain ⟨x0, c0⟩ := h.cellI (i := 0) (by omega)
    obtain ⟨x1, c1⟩ := h.cellI (i := 1) (by omega)
    have f0 := h.frozen 0
    have f1 := h.frozen 1
    have f5 := h.frozen 5
    replace hab := Lib.hid hab
    go_enter Try.func39, Try.ntmps39
    go_wp2_with fail
    go_region
    go_wp2_with fail
    have hput := h.put (i := 0) (j := 1) (a := a) (b := b) (ns' := [a, b]) (by omega) (by omega) (by simp) (fun cs h5 _ => by
      match cs, h5 with
      | [y0, y1, y2, y3, y4], _ => rfl)
    have hg3 := grown_set (grown_set (grown_set (World.grownBy.refl w (some g)) 0 (.int .i64 a)) 1 (.int .i64 b)) 5 (.int .i64 2)
    refine bodyPost_ret (v := .tuple #[.agg #[.int .i64 0, .int .i64 1], .bool true]) (by simp [results, Try.results39, go_sem]) rfl ⟨?_, .inr ⟨_, 0, 1, hadd.out, rfl, ?_⟩⟩
    · exact grown_drew (grown_below hg3 ((Below.refl w.heap.size _).alloc (by simp) _) (Nat.le_refl _))
    · exact NM.drew (hput.below ((Below.refl w.heap.size _).alloc (by simp) _) hgl)
  · have ki := fun w h => variable_any g a ns w h
    have kj := fun w h => variable_any g b ns w h
    rw [← hij] at kj
    have kst : Hid (∀ w, Calls Try.prog 38 #[.agg #[.int .i64 (idx ns a : Nat), .int .i64 (idx ns a : Nat)], .int .i64 (ns.length : Nat)] w fun e w' => e = .returned (.tuple #[.int .i64 0, .bool false]) ∧ Below w.heap.size w w') := Lib.hid fun w => by
      by_cases hn : ns.length = 0
      · obtain rfl := List.eq_nil_of_length_eq_zero hn
        exact step00_any w
      · have h1 := step_any (idx ns a : Nat) (idx ns a : Nat) ns.length w (by omega) (by omega)
        have h2 : vs ns.length (((idx ns a : Nat) : Int), ((idx ns a : Nat) : Int)) = none := by unfold vs; rw [if_neg hn, if_pos (.inl rfl)]
        rw [h2] at h1; exact h1
    replace ki := Lib.hid ki
    replace kj := Lib.hid kj
    clear hij
    generalize hN : ns.length = N at *
    replace hN := Lib.hid hN
    replace hadd := Lib.hid hadd
    have hq : (((N : Int) == 0) = true ∧ (a != b) = false) ∨ ((N : Int) == 0) = false := by
      rcases hcase with ⟨h1, h2⟩ | h1
      · exact .inl ⟨by simp [h1], by simp [h2]⟩
      · exact .inr (by simp; omega)
    clear hcase
    generalize hI : idx ns a = I at *
    replace hI := Lib.hid hI
    rcases hq with ⟨q1, q2⟩ | q1
    all_goals
      go_enter Try.func39, Try.ntmps39
      go_wp2_with fail
      (with_reducible refine (ki.out _ (h.alloc _)).mono ?_)
      rintro e w1 ⟨rfl, hb1⟩
      have N1 := (h.alloc (.cells #[.int .i64 0, .int .i64 0] 34)).below hb1 (by simp; omega)
      have T1 := blk_hr hb1
      have B1 := bel_nx (Below.refl w.heap.size w) (Nat.le_refl _) hb1
      have s1 := siz_nx hb1
      clear hb1
      go_wp2_with fail
      (with_reducible refine (kj.out _ N1).mono ?_)
      rintro e w2 ⟨rfl, hb2⟩
      have N2 := N1.below hb2 (by omega)
      have T2 := T1.below hb2 s1
      have B2 := B1.trans (hb2.mono (Nat.le_of_lt s1))
      have s2 := Nat.lt_of_lt_of_le s1 hb2.size
      clear hb2 N1 T1 B1
      go_upto_region 5 with fail
      have N3 := N2.alloc (.cells #[.int .i64 (I : Int), .int .i64 (I : Int)] 34)
      have T3 := T2.alloc (.cells #[.int .i64 (I : Int), .int .i64 (I : Int)] 34)
      have U3 := Blk.new w2 34 #[.int .i64 (I : Int), .int .i64 (I : Int)]
      have B3 := B2.alloc (Nat.le_of_lt s2) (.cells #[.int .i64 (I : Int), .int .i64 (I : Int)] 34)
      have hne : w.heap.size ≠ w2.heap.size := Nat.ne_of_lt s2
      have hgh : g ≠ w2.heap.size := by omega
      have s3 : w.heap.size < w2.heap.size + 1 := by omega
      have s3' : w2.heap.size + 1 = (w2.alloc (.cells #[.int .i64 (I : Int), .int .i64 (I : Int)] 34)).heap.size := by simp
      clear N2 T2 B2 s1
      generalize w2.alloc (.cells #[.int .i64 (I : Int), .int .i64 (I : Int)] 34) = w3 at *
      generalize w2.heap.size = gu at *
      replace s3' := Lib.hid s3'
      obtain ⟨p0, p1, p2, p3, p4⟩ := cel2 U3
      have c3 := N3.num
      rw [hN.out] at c3
      have hg3 := N3.lt
      have BN : Below w3.heap.size w3 w3 := Below.refl _ _
      go_loud (go_region_held3 (fun w' => w'.cell? ⟨gu, 0, none⟩ = some (.int .i64 (I : Int)) ∧ w'.cell? ⟨gu, 1, none⟩ = some (.int .i64 (I : Int)) ∧ w'.cell? ⟨g, 5, none⟩ = some (.int .i64 (N : Int)))
        ((first | (exact ⟨(BN.cell (p := ⟨gu, 0, none⟩) p4).trans p0, (BN.cell (p := ⟨gu, 1, none⟩) p4).trans p1, (BN.cell (p := ⟨g, 5, none⟩) hg3).trans c3⟩) | ((repeat' apply And.intro) <;> (go_keep; done))))
        ((first
          | (go_at_call 38; (with_reducible refine (kst.out _).mono ?_); rintro e w4 ⟨rfl, hb4⟩; replace BN : Below w3.heap.size w3 w4 := (by first | exact BN.trans (hb4.mono BN.size) | exact BN.drew.trans (hb4.mono BN.size)))
          | fail)))
      have N4 := N3.below BN hg3
      have T4 := T3.below BN (by have := s3'.out; omega)
      have U4 := U3.below BN p4
      have B4 := B3.trans (BN.mono (by have := s3'.out; omega))
      have s4 := BN.size
      clear N3 T3 U3 B3 BN p0 p1 p2 p3 c3
      obtain ⟨z0, z1, z2, z3, z4⟩ := cel2 T4
      go_wp2_with fail
      refine bodyPost_ret (v := .tuple #[.agg #[.int .i64 0, .int .i64 0], .bool false]) (by simp [results, Try.results39, go_sem, z0, z1]) rfl ⟨?_, .inl ⟨hadd.out, rfl, ?_⟩⟩
      · exact grown_of_below ((B4.setCell (p := ⟨w.heap.size, 0, none⟩) (Nat.le_refl _) _).setCell (p := ⟨w.heap.size, 1, none⟩) (Nat.le_refl _) _) _
      · exact N4.below (((Below.refl w.heap.size w4).setCell (p := ⟨w.heap.size, 0, none⟩) (Nat.le_refl _) _).setCell (p := ⟨w.heap.size, 1, none⟩) (Nat.le_refl _) _) hgl
  · have ki := fun w h => variable_any g a ns w h
    have kj := fun w h => variable_any g b ns w h
    have hvs := add_some h0 hij
    have hia := idx_le ns a
    have hib := idx_le ns b
    have hl0 : ns.length ≠ 0 := fun e => h0 (List.eq_nil_of_length_eq_zero e)
    have kst := fun w => step_any (idx ns a : Nat) (idx ns b : Nat) ns.length w (by omega) (by omega)
    rw [hvs] at kst
    have hadd : Hid (add ns a b = some (ns ++ (if idx ns a = ns.length then [a] else []) ++ (if idx ns b = ns.length then [b] else []), ((idx ns a : Int), (idx ns b : Int)))) := Lib.hid (by unfold add; rw [if_neg h0, if_neg hij])
    have hcel : Hid (∀ cs : List Int, cs.length = 5 → cs.take ns.length = ns → ((cs.set (idx ns a) a).set (idx ns b) b).take (ns ++ (if idx ns a = ns.length then [a] else []) ++ (if idx ns b = ns.length then [b] else [])).length = ns ++ (if idx ns a = ns.length then [a] else []) ++ (if idx ns b = ns.length then [b] else [])) := Lib.hid fun cs h5 ht => add_cells h5 ht hn4 h0 hij
    have hnl : (if idx ns a = ns.length ∨ idx ns b = ns.length then ns.length + 1 else ns.length) = (ns ++ (if idx ns a = ns.length then [a] else []) ++ (if idx ns b = ns.length then [b] else [])).length := by
      simp only [List.length_append]
      by_cases h1 : idx ns a = ns.length
      · have h2 : ¬ idx ns b = ns.length := by omega
        rw [if_pos (.inl h1), if_pos h1, if_neg h2]; rfl
      · by_cases h2 : idx ns b = ns.length
        · rw [if_pos (.inr h2), if_neg h1, if_pos h2]; rfl
        · rw [if_neg (by omega), if_neg h1, if_neg h2]; rfl
    rw [hnl] at kst
    generalize ns ++ (if idx ns a = ns.length then [a] else []) ++ (if idx ns b = ns.length then [b] else []) = ns' at *
    have hn5 : ns'.length ≤ 5 := by rw [← hnl]; split <;> omega
    clear hnl hvs
    replace ki := Lib.hid ki
    replace kj := Lib.hid kj
    replace kst := Lib.hid kst
    replace h0 := Lib.hid h0
    generalize hI : idx ns a = I at *
    generalize hJ : idx ns b = J at *
    replace hI := Lib.hid hI
    replace hJ := Lib.hid hJ
    generalize hN : ns.length = N at *
    replace hN := Lib.hid hN
    have q1 : ((N : Int) == 0) = false := by simp; omega
    have i1 : (0 : Int) ≤ (I : Int) := Int.natCast_nonneg _
    have i2 : (0 : Int) ≤ (J : Int) := Int.natCast_nonneg _
    have i3 : (I : Int) < 5 := by omega
    have i4 : (J : Int) < 5 := by omega
    go_enter Try.func39, Try.ntmps39
    go_wp2_with fail
    (with_reducible refine (ki.out _ (h.alloc _)).mono ?_)
    rintro e w1 ⟨rfl, hb1⟩
    have N1 := (h.alloc (.cells #[.int .i64 0, .int .i64 0] 34)).below hb1 (by simp; omega)
    have T1 := blk_hr hb1
    have B1 := bel_nx (Below.refl w.heap.size w) (Nat.le_refl _) hb1
    have s1 := siz_nx hb1
    clear hb1
    go_wp2_with fail
    (with_reducible refine (kj.out _ N1).mono ?_)
    rintro e w2 ⟨rfl, hb2⟩
    have N2 := N1.below hb2 (by omega)
    have T2 := T1.below hb2 s1
    have B2 := B1.trans (hb2.mono (Nat.le_of_lt s1))
    have s2 := Nat.lt_of_lt_of_le s1 hb2.size
    clear hb2 N1 T1 B1
    go_upto_region 5 with fail
    have N3 := N2.alloc (.cells #[.int .i64 (I : Int), .int .i64 (J : Int)] 34)
    have T3 := T2.alloc (.cells #[.int .i64 (I : Int), .int .i64 (J : Int)] 34)
    have U3 := Blk.new w2 34 #[.int .i64 (I : Int), .int .i64 (J : Int)]
    have B3 := B2.alloc (Nat.le_of_lt s2) (.cells #[.int .i64 (I : Int), .int .i64 (J : Int)] 34)
    have hne : w.heap.size ≠ w2.heap.size := Nat.ne_of_lt s2
    have hgh : g ≠ w2.heap.size := by omega
    have s3 : w.heap.size < w2.heap.size + 1 := by omega
    have s3' : w2.heap.size + 1 = (w2.alloc (.cells #[.int .i64 (I : Int), .int .i64 (J : Int)] 34)).heap.size := by simp
    clear N2 T2 B2 s1
    generalize w2.alloc (.cells #[.int .i64 (I : Int), .int .i64 (J : Int)] 34) = w3 at *
    generalize w2.heap.size = gu at *
    replace s3' := Lib.hid s3'
    obtain ⟨p0, p1, p2, p3, p4⟩ := cel2 U3
    have c3 := N3.num
    rw [hN.out] at c3
    have hg3 := N3.lt
    have BN : Below w3.heap.size w3 w3 := Below.refl _ _
    go_loud (go_region_held3 (fun w' => w'.cell? ⟨gu, 0, none⟩ = some (.int .i64 (I : Int)) ∧ w'.cell? ⟨gu, 1, none⟩ = some (.int .i64 (J : Int)) ∧ w'.cell? ⟨g, 5, none⟩ = some (.int .i64 (N : Int)))
      ((first | (exact ⟨(BN.cell (p := ⟨gu, 0, none⟩) p4).trans p0, (BN.cell (p := ⟨gu, 1, none⟩) p4).trans p1, (BN.cell (p := ⟨g, 5, none⟩) hg3).trans c3⟩) | ((repeat' apply And.intro) <;> (go_keep; done))))
      ((first
        | (go_at_call 38; (with_reducible refine (kst.out _).mono ?_); rintro e w4 ⟨rfl, hb4⟩; replace BN : Below w3.heap.size w3 w4 := (by first | exact BN.trans (hb4.mono BN.size) | exact BN.drew.trans (hb4.mono BN.size)))
        | fail)))
    have N4 := N3.below BN hg3
    have T4 := T3.below BN (by have := s3'.out; omega)
    have U4 := U3.below BN p4
    have B4 := B3.trans (BN.mono (by have := s3'.out; omega))
    have s4 := BN.size
    clear N3 T3 U3 B3 BN p0 p1 p2 p3 c3
    obtain ⟨z0, z1, z2, z3, z4⟩ := cel2 T4
    obtain ⟨u0, u1, u2, u3, u4⟩ := cel2 U4
    obtain ⟨x0, y0⟩ := N4.cellI (i := I) (by omega)
    obtain ⟨x1, y1⟩ := N4.cellI (i := J) (by omega)
    have y2 := N4.num
    rw [hN.out] at y2
    have v0 := N4.frozen I
    have v1 := N4.frozen J
    have v2 := N4.frozen 5
    have hgt : g ≠ w.heap.size := by omega
    have hIJ : I ≠ J := hij
    have hJI : J ≠ I := fun e => hij e.symm
    have hI5 : I ≠ 5 := by omega
    have hJ5 : J ≠ 5 := by omega
    go_wp2_with fail
    go_region
    go_wp2_with fail
    refine bodyPost_ret (v := .tuple #[.agg #[.int .i64 (I : Int), .int .i64 (J : Int)], .bool true]) (by simp [results, Try.results39, go_sem, z0, z1]) rfl ⟨?_, .inr ⟨_, _, _, hadd.out, rfl, ?_⟩⟩
    · have G3 := grown_set (grown_set (grown_set (grown_of_below B4 (some g)) I (.int .i64 a)) J (.int .i64 b)) 5 (.int .i64 (ns'.length : Int))
      exact grown_drew (grown_below G3 (((Below.refl w.heap.size _).setCell (p := ⟨w.heap.size, 0, none⟩) (Nat.le_refl _) _).setCell (p := ⟨w.heap.size, 1, none⟩) (Nat.le_refl _) _) (Nat.le_refl _))
    · have hput := N4.put (i := I) (j := J) (a := a) (b := b) (ns' := ns') (by omega) (by omega) hn5 (by rw [hN.out]; exact hcel.out)
      exact NM.drew (hput.below (((Below.refl w.heap.size _).setCell (p := ⟨w.heap.size, 0, none⟩) (Nat.le_refl _) _).setCell (p := ⟨w.heap.size, 1, none⟩) (Nat.le_refl _) _) hgl)
end Go.Proofs.Ytkcmbpokoijglaa
