/- Printed by merge.py from DbsP, DlbP, DnsC, DnsA. -/
import Derived.Test.YticekkjambkifaaDoorZaj
import Derived.Test.YticekkjambkifaaDoorZak
import Derived.Test.YticekkjambkifaaDoorZad
import Derived.BigRegion
import Derived.Test.YticekkjambkifaaDoorZag
import Derived.Deep.RegionLaw
/- Plain: what densest.Best finds, and what follows from it. -/
set_option linter.unusedVariables false
set_option linter.unusedSimpArgs false
namespace Go.Proofs.YticekkjambkifaaDoor.Fl
open Go.RowKit Go.Proofs.YticekkjambkifaaDoor CoBit CoRat Rt

theorem bl_nodup (x : Nat) : (bl x).Nodup := (bl_sorted x).imp fun h => Nat.ne_of_lt h
theorem allM_bit (n v : Nat) : (allM n).testBit v = decide (v < n) := by unfold allM; exact Nat.testBit_two_pow_sub_one n v
theorem prb_plain {n : Nat} {es : List (Int × Int)} (hz : chkG n es = 0) (hn : n ≤ 64) (hl : es.length ≤ 4096) : Prb es (List.replicate n 0) n (allM n) := by
  have h1 := chkE_lt (chkG_zero hz).2.2
  refine ⟨h1, fun e he => ?_, fun v hv => ?_, hn, List.length_replicate .., fun b hb => ?_, hl⟩
  · have := h1 e he
    rw [allM_bit, allM_bit]
    exact ⟨decide_eq_true (by omega), decide_eq_true (by omega)⟩
  · rw [allM_bit, decide_eq_true_eq] at hv; exact hv
  · rw [(List.mem_replicate.1 hb).2]; omega
theorem getD_rep (n v : Nat) : (List.replicate n 0).getD v 0 = 0 := by
  rw [List.getD_eq_getElem?_getD, List.getElem?_replicate]
  split <;> rfl
theorem bonus_rep (n x : Nat) : bonus (List.replicate n 0) x = 0 := by
  unfold bonus
  generalize bl x = l
  induction l with
  | nil => rfl
  | cons a l ih => rw [List.map_cons, List.sum_cons, getD_rep, ih]
theorem wtI_rep (es : List (Int × Int)) (n x : Nat) : wtI es (List.replicate n 0) x = insE es (bset x) := by
  unfold wtI
  rw [bonus_rep]; rfl
/-- What Best finds in a graph of n nodes: a set x, its density N / D and the parts of a split. -/
structure DB (n : Nat) (es : List (Int × Int)) (x N D : Nat) (ps : List Int) : Prop where
  sub : ∀ v, x.testBit v = true → v < n
  pos : 0 < n → 0 < pop x
  dN : (N : Int) = dseN es (bset x) (pop x)
  dD : (D : Int) = dseD es (bset x) (pop x)
  D0 : 0 < D
  lim : N ≤ 266240 ∧ D ≤ 64
  eq : D * insE es (bset x) = N * pop x
  max : ∀ y, (∀ v, y.testBit v = true → v < n) → D * insE es (bset y) ≤ N * pop y
  great : ∀ y, (∀ v, y.testBit v = true → v < n) → D * insE es (bset y) = N * pop y → ∀ v, y.testBit v = true → x.testBit v = true
  plen : ps.length = es.length
  pbd : ∀ p ∈ ps, 0 ≤ p ∧ p ≤ (D : Int)
  load : ∀ v, v < n → ldV (D : Int) es ps es.length (v : Int) ≤ N
theorem DB.of_den {n : Nat} {es : List (Int × Int)} {x P D : Nat} {L : List Nat} {S : Nat → Bool} (hz : chkG n es = 0) (hn : n ≤ 64) (hl : es.length ≤ 4096) (h : IsDen es (List.replicate n 0) n (allM n) x P D)
    (hc : MinCut (netA es (List.replicate n 0) n (allM n) D P) 0 1 L S) (hm : ∀ v, x.testBit v = ((allM n).testBit v && S (2 + v))) : DB n es x P D (partL es (List.replicate n 0) n (allM n) D P L es.length) := by
  have hp := prb_plain hz hn hl
  have hs : ∀ y : Nat, (∀ v, y.testBit v = true → v < n) → ∀ v, y.testBit v = true → (allM n).testBit v = true := fun y hy v hv => by rw [allM_bit]; exact decide_eq_true (hy v hv)
  have hv0 := h.zero
  have hz0 : D * insE es (bset x) = P * pop x := by
    unfold val at hv0
    rw [wtI_rep] at hv0
    have : ((D * insE es (bset x) : Nat) : Int) = ((P * pop x : Nat) : Int) := by rw [Int.natCast_mul, Int.natCast_mul]; omega
    omega
  have hval : ∀ y, val es (List.replicate n 0) D P y = ((D * insE es (bset y) : Nat) : Int) - ((P * pop y : Nat) : Int) := fun y => by
    unfold val
    rw [wtI_rep, Int.natCast_mul, Int.natCast_mul]
  have hpx := h.pos
  refine ⟨fun v hv => ?_, fun _ => hpx, ?_, ?_, h.lim.2.2, ⟨h.lim.1, h.lim.2.1⟩, hz0, fun y hy => ?_, fun y hy he => ?_, ?_, partL_bd hp hc hm hv0, fun v hv => load_le hp hc hm hv0 hv⟩
  · have := h.mx.sub v hv
    rw [allM_bit, decide_eq_true_eq] at this; exact this
  · unfold dseN
    rw [if_neg (by omega), h.frac.1, wtI_rep]
  · unfold dseD
    rw [if_neg (by omega), h.frac.2, wtI_rep]
  · have h1 := h.mx.max y (hs y hy)
    rw [hv0, hval] at h1
    omega
  · exact h.mx.great y (hs y hy) (by rw [hv0, hval]; omega)
  · unfold partL
    rw [List.length_map, List.length_range]
theorem DB.none_ : DB 0 [] 0 0 1 [] := by
  have h0 : bset 0 = [] := by unfold bset; rw [bl_zero]; rfl
  have hp0 : pop 0 = 0 := by rw [pop_bl, bl_zero]; rfl
  have hy0 : ∀ y : Nat, (∀ v, y.testBit v = true → v < 0) → y = 0 := fun y hy => Nat.eq_of_testBit_eq fun i => by
    rw [Nat.zero_testBit]
    cases h : y.testBit i with
    | false => rfl
    | true => exact absurd (hy i h) (Nat.not_lt_zero _)
  refine ⟨fun v hv => ?_, fun h => absurd h (Nat.lt_irrefl _), ?_, ?_, Nat.one_pos, by omega, ?_, fun y hy => ?_, fun y hy _ v hv => ?_, rfl, (fun p hp => by cases hp), fun v hv => absurd hv (Nat.not_lt_zero _)⟩
  · rw [Nat.zero_testBit] at hv; cases hv
  · unfold dseN; rw [if_pos hp0]; rfl
  · unfold dseD; rw [if_pos hp0]; rfl
  · rw [h0, hp0]; rfl
  · rw [hy0 y hy, h0, hp0]; exact Nat.le_refl _
  · exact absurd (hy v hv) (Nat.not_lt_zero _)
section
variable {n : Nat} {es : List (Int × Int)} {x N D : Nat} {ps : List Int}
theorem DB.lt (h : DB n es x N D ps) (hn : n ≤ 64) : x < 18446744073709551616 := mask_lt (Nat.le_refl 64) fun v hv => Nat.lt_of_lt_of_le (h.sub v hv) hn
/-- A set that has these properties is the only one. -/
theorem DB.unique {x' N' D' : Nat} {ps' : List Int} (h : DB n es x N D ps) (h' : DB n es x' N' D' ps') : x = x' ∧ N = N' ∧ D = D' := by
  have key : ∀ {x N D x' N' D' : Nat} {ps ps' : List Int}, DB n es x N D ps → DB n es x' N' D' ps' → N * D' ≤ N' * D := by
    intro x N D x' N' D' ps ps' h h'
    rcases Nat.eq_zero_or_pos n with h0 | h0
    · have hx : pop x = 0 := by
        have : x = 0 := Nat.eq_of_testBit_eq fun i => by
          rw [Nat.zero_testBit]
          cases hi : x.testBit i with
          | false => rfl
          | true => have := h.sub i hi; omega
        rw [this, pop_bl, bl_zero]; rfl
      have : (N : Int) = 0 := by rw [h.dN]; unfold dseN; rw [if_pos hx]
      have hN : N = 0 := by omega
      rw [hN]; omega
    · have hp := h.pos h0
      have h1 := h'.max x h.sub
      have h2 := h.eq
      refine Nat.le_of_mul_le_mul_left ?_ hp
      have e1 : pop x * (N * D') = (N * pop x) * D' := by grind
      have e2 : pop x * (N' * D) = (N' * pop x) * D := by grind
      rw [e1, e2, ← h2]
      have e3 : D * insE es (bset x) * D' = D' * insE es (bset x) * D := by grind
      rw [e3]
      exact Nat.mul_le_mul_right D h1
  have hk : N * D' = N' * D := Nat.le_antisymm (key h h') (key h' h)
  have sub : ∀ {x N D x' N' D' : Nat} {ps ps' : List Int}, DB n es x N D ps → DB n es x' N' D' ps' → N * D' = N' * D → ∀ v, x.testBit v = true → x'.testBit v = true := by
    intro x N D x' N' D' ps ps' h h' hk
    refine h'.great x h.sub (Nat.eq_of_mul_eq_mul_left h.D0 ?_)
    have e1 : D * (D' * insE es (bset x)) = D' * (D * insE es (bset x)) := by grind
    have e2 : D * (N' * pop x) = (N' * D) * pop x := by grind
    rw [e1, h.eq, e2, ← hk]; grind
  have hx : x = x' := Nat.eq_of_testBit_eq fun i => by
    have a1 := sub h h' hk i
    have a2 := sub h' h hk.symm i
    cases c1 : x.testBit i <;> cases c2 : x'.testBit i <;> simp_all
  subst hx
  have b1 := h.dN
  have b2 := h'.dN
  have b3 := h.dD
  have b4 := h'.dD
  exact ⟨rfl, by omega, by omega⟩
end
end Go.Proofs.YticekkjambkifaaDoor.Fl

/- Plain: no set is denser than the bound of a split. -/
set_option linter.unusedVariables false
set_option linter.unusedSimpArgs false
namespace Go.Proofs.YticekkjambkifaaDoor.Fl
open Go.RowKit Go.Proofs.YticekkjambkifaaDoor CoBit CoRat Rt

section
variable {n : Nat} {es : List (Int × Int)} {x N D : Nat} {ps : List Int}
theorem DB.zero0 (h : DB 0 es x N D ps) : x = 0 ∧ N = 0 ∧ D = 1 := by
  have hx : x = 0 := Nat.eq_of_testBit_eq fun i => by
    rw [Nat.zero_testBit]
    cases hi : x.testBit i with
    | false => rfl
    | true => exact absurd (h.sub i hi) (Nat.not_lt_zero _)
  have hp : pop x = 0 := by rw [hx, pop_bl, bl_zero]; rfl
  have d1 := h.dN
  have d2 := h.dD
  unfold dseN at d1
  unfold dseD at d2
  rw [if_pos hp] at d1 d2
  exact ⟨hx, by omega, by omega⟩
theorem okF_01 : okF 0 1 = true := by decide +kernel
theorem DB.ok (h : DB n es x N D ps) (hl : es.length ≤ 4096) : okF (N : Int) (D : Int) = true := by
  have h1 := insE_le es (bset x)
  have h2 := pop_le x
  rw [h.dN, h.dD]
  unfold dseN dseD
  rcases Nat.eq_zero_or_pos (pop x) with h0 | h0
  · rw [if_pos h0, if_pos h0]; exact okF_01
  · rw [if_neg (by omega), if_neg (by omega)]
    exact mk_ok _ _ h0 (by omega) (by omega)
end
theorem insE_tk {es : List (Int × Int)} {k : Nat} {e : Int × Int} (S : List Int) (h : es[k]? = some e) : insE (es.take (k + 1)) S = insE (es.take k) S + (if e.1 ∈ S ∧ e.2 ∈ S then 1 else 0) := by
  rw [show es.take (k + 1) = es.take k ++ [e] from by
    obtain ⟨hk, rfl⟩ := List.getElem?_eq_some_iff.1 h
    exact List.take_succ_eq_append_getElem hk]
  unfold insE
  rw [List.filter_append, List.length_append]
  congr 1
  by_cases hh : e.1 ∈ S ∧ e.2 ∈ S
  · rw [if_pos hh, List.filter_cons, if_pos (by simpa using hh)]; rfl
  · rw [if_neg hh, List.filter_cons, if_neg (by simpa using hh)]; rfl
/- ### loads and sets -/
theorem sumN_le {l : List Nat} {f : Nat → Int} {c : Int} (h : ∀ v ∈ l, f v ≤ c) : (l.map f).sum ≤ c * (l.length : Int) := by
  induction l with
  | nil => simp
  | cons a l ih =>
    have h1 := ih fun v hv => h v (List.mem_cons_of_mem _ hv)
    have h2 := h a (List.mem_cons_self ..)
    rw [List.map_cons, List.sum_cons, List.length_cons]
    push_cast
    rw [Int.mul_add]; omega
theorem sum_addI (l : List Nat) (f g : Nat → Int) : (l.map fun v => f v + g v).sum = (l.map f).sum + (l.map g).sum := by
  induction l with
  | nil => rfl
  | cons a l ih => simp only [List.map_cons, List.sum_cons, ih]; omega
theorem sum_indI {l : List Nat} (hl : l.Nodup) (a : Nat) (c : Int) : (l.map fun v : Nat => if (a : Int) = (v : Int) then c else 0).sum = if a ∈ l then c else 0 := by
  induction l with
  | nil => rfl
  | cons b l ih =>
    rw [List.nodup_cons] at hl
    rw [List.map_cons, List.sum_cons, ih hl.2]
    by_cases h : a = b
    · subst h
      rw [if_pos rfl, if_neg hl.1, if_pos (List.mem_cons_self ..)]; omega
    · rw [if_neg (by omega)]
      by_cases h2 : a ∈ l
      · rw [if_pos h2, if_pos (List.mem_cons_of_mem _ h2)]; omega
      · rw [if_neg h2, if_neg (fun hh => (List.mem_cons.1 hh).elim h h2)]; omega
/-- The loads of a set's nodes are at least what its edges have to give. -/
theorem load_sum {n : Nat} {es : List (Int × Int)} {ps : List Int} {den : Int} (hd : 0 ≤ den) (hlt : ∀ e ∈ es, 0 ≤ e.1 ∧ e.1 < e.2 ∧ e.2 < (n : Int)) (hn : n ≤ 64) (hp : ∀ p ∈ ps, 0 ≤ p ∧ p ≤ den) (y k : Nat) (hk : k ≤ es.length) :
    den * ((insE (es.take k) (bset y) : Nat) : Int) ≤ ((bl y).map fun v : Nat => ldV den es ps k (v : Int)).sum := by
  induction k with
  | zero =>
    have : insE (es.take 0) (bset y) = 0 := rfl
    rw [this]
    have h2 : ((bl y).map fun v : Nat => ldV den es ps 0 (v : Int)).sum = 0 := by
      generalize bl y = l
      induction l with
      | nil => rfl
      | cons a l ih => rw [List.map_cons, List.sum_cons, ih]; rfl
    rw [h2]; simp
  | succ k ih =>
    have hkl : k < es.length := by omega
    have ih' := ih (by omega)
    have hge : es[k]? = some es[k] := List.getElem?_eq_getElem hkl
    have hgd : es.getD k (0, 0) = es[k] := by rw [List.getD_eq_getElem?_getD, hge]; rfl
    rw [insE_tk _ hge]
    have hq : 0 ≤ ps.getD k 0 ∧ ps.getD k 0 ≤ den := by
      rw [List.getD_eq_getElem?_getD]
      cases h : ps[k]? with
      | none => exact ⟨Int.le_refl _, hd⟩
      | some p => exact hp p (List.mem_of_getElem? h)
    have hr := hlt es[k] (List.getElem_mem hkl)
    generalize hek : es[k] = e at *
    obtain ⟨a, b⟩ := e
    simp only at hr
    obtain ⟨a, rfl⟩ := Int.eq_ofNat_of_zero_le hr.1
    obtain ⟨b, rfl⟩ := Int.eq_ofNat_of_zero_le (show 0 ≤ b by omega)
    have e1 : (fun v : Nat => ldV den es ps (k + 1) (v : Int)) = fun v : Nat => (ldV den es ps k (v : Int) + (if (a : Int) = (v : Int) then ps.getD k 0 else 0)) + (if (b : Int) = (v : Int) then den - ps.getD k 0 else 0) := funext fun v => by
      show ldV den es ps k (v : Int) + (if (es.getD k (0, 0)).1 = (v : Int) then ps.getD k 0 else 0) + (if (es.getD k (0, 0)).2 = (v : Int) then den - ps.getD k 0 else 0) = _
      rw [hgd]
    rw [e1, sum_addI, sum_addI, sum_indI (bl_nodup y), sum_indI (bl_nodup y)]
    have m1 : ∀ c : Nat, c < n → ((c : Int) ∈ bset y ↔ c ∈ bl y) := fun c hc => by rw [mem_bset, mem_bl]
    have m2 := m1 a (by omega)
    have m3 := m1 b (by omega)
    simp only [m2, m3]
    generalize ((bl y).map fun v : Nat => ldV den es ps k (v : Int)).sum = Z at *
    generalize ps.getD k 0 = p at *
    push_cast
    rw [Int.mul_add]
    by_cases c1 : a ∈ bl y
    · by_cases c2 : b ∈ bl y
      · rw [if_pos ⟨c1, c2⟩, if_pos c1, if_pos c2]; omega
      · rw [if_neg (fun h => c2 h.2), if_pos c1, if_neg c2]; omega
    · rw [if_neg (fun h => c1 h.1), if_neg c1]
      split <;> omega
/-- No set is denser than the bound of a split. -/
theorem load_bound {n : Nat} {es : List (Int × Int)} {ps : List Int} {den : Int} (hd : 0 ≤ den) (hz : chkG n es = 0) (hn : n ≤ 64) (hp : ∀ p ∈ ps, 0 ≤ p ∧ p ≤ den) {y : Nat} (hy : ∀ v, y.testBit v = true → v < n) :
    den * ((insE es (bset y) : Nat) : Int) ≤ maxL (ldL n den es ps) * ((pop y : Nat) : Int) := by
  have h1 := load_sum hd (chkE_lt (chkG_zero hz).2.2) hn hp y es.length (Nat.le_refl _)
  rw [List.take_length] at h1
  refine Int.le_trans h1 ?_
  rw [pop_bl]
  refine sumN_le fun v hv => ?_
  refine maxL_ge ?_
  unfold ldL
  exact List.mem_map.2 ⟨v, List.mem_range.2 (hy v (mem_bl.1 hv).2), rfl⟩
theorem DB.maxload {n : Nat} {es : List (Int × Int)} {x N D : Nat} {ps : List Int} (h : DB n es x N D ps) (hz : chkG n es = 0) (hn : n ≤ 64) : maxL (ldL n (D : Int) es ps) = (N : Int) := by
  refine Int.le_antisymm (maxL_le (by omega) fun z hz2 => ?_) ?_
  · unfold ldL at hz2
    obtain ⟨v, hv, rfl⟩ := List.mem_map.1 hz2
    exact h.load v (List.mem_range.1 hv)
  · rcases Nat.eq_zero_or_pos n with h0 | h0
    · subst h0
      rw [h.zero0.2.1]
      exact maxL_nonneg _
    · have h1 := load_bound (by omega) hz hn h.pbd h.sub
      have h2 := h.pos h0
      have h3 : (D : Int) * ((insE es (bset x) : Nat) : Int) = (N : Int) * ((pop x : Nat) : Int) := by
        have := congrArg (fun z : Nat => (z : Int)) h.eq
        simpa using this
      rw [h3] at h1
      exact Int.le_of_mul_le_mul_right h1 (by omega)
theorem DB.bound {n : Nat} {es : List (Int × Int)} {x N D : Nat} {ps : List Int} (h : DB n es x N D ps) (hz : chkG n es = 0) (hn : n ≤ 64) (hl : es.length ≤ 4096) : mkN (maxL (ldL n (D : Int) es ps)) (D : Int) = (N : Int) ∧ mkD (maxL (ldL n (D : Int) es ps)) (D : Int) = (D : Int) := by
  rw [h.maxload hz hn]
  obtain ⟨a, b, h1, h2, h3, h4, h5, h6⟩ := mk_val N D h.D0 (by have := h.lim; omega) (by have := h.lim; omega)
  have hok := h.ok hl
  rw [h1, h2]
  have ho := mk_ok N D h.D0 (by have := h.lim; omega) (by have := h.lim; omega)
  rw [h1, h2] at ho
  -- two reduced fractions that are equal are the same
  have g1 := (okF_bd hok).2.2.2.2
  have g2 := (okF_bd ho).2.2.2.2
  simp only [Int.natAbs_natCast] at g1 g2
  have k1 : D ∣ b := by
    have : D ∣ N * b := ⟨a, by rw [← h6]; exact Nat.mul_comm _ _⟩
    exact (Nat.Coprime.symm g1).dvd_of_dvd_mul_left this
  have k2 : b ∣ D := by
    have : b ∣ a * D := ⟨N, by rw [h6]; exact Nat.mul_comm _ _⟩
    exact (Nat.Coprime.symm g2).dvd_of_dvd_mul_left this
  have hb : b = D := Nat.dvd_antisymm k2 k1
  subst hb
  have ha : a = N := Nat.eq_of_mul_eq_mul_right h.D0 h6
  exact ⟨by rw [ha], rfl⟩
end Go.Proofs.YticekkjambkifaaDoor.Fl

/- densest.nothing, densest.Best. -/
set_option linter.unusedVariables false
set_option linter.unusedSimpArgs false
namespace Go.Proofs.YticekkjambkifaaDoor.Fl
open Go.RowKit Go.Proofs.YticekkjambkifaaDoor CoBit CoRat Rt

set_option maxRecDepth 100000 in
set_option maxHeartbeats 1000000 in
theorem nothing_any (w : World) :
    Calls Tryd.prog 79 #[] w fun e w' => e = .returned (.agg #[.slice none 0 0, .int .i64 0, .int .i64 1, .int .i64 1, .slice none 0 0]) ∧ Below w.heap.size w w' := by
  have bR := Blk.new w 48 #[.slice none 0 0, .int .i64 0, .int .i64 0, .int .i64 0, .slice none 0 0]
  have B0 : Below w.heap.size w (w.alloc (.cells #[.slice none 0 0, .int .i64 0, .int .i64 0, .int .i64 0, .slice none 0 0] 48)) := (Below.refl _ w).alloc (Nat.le_refl _) _
  have hb : Hid (w.heap.size ≤ w.heap.size) := Lib.hid (Nat.le_refl _)
  go_enter Tryd.func79, Tryd.ntmps79
  go_upto_region 1 with fail
  generalize w.alloc (.cells #[.slice none 0 0, .int .i64 0, .int .i64 0, .int .i64 0, .slice none 0 0] 48) = W at *
  generalize hr : w.heap.size = r at bR hb ⊢
  have d0 := Blk.cell bR 0
  have d1 := Blk.cell bR 1
  have d2 := Blk.cell bR 2
  have d3 := Blk.cell bR 3
  have d4 := Blk.cell bR 4
  have f0 := Blk.frozen bR 0
  have f1 := Blk.frozen bR 1
  have f2 := Blk.frozen bR 2
  have f3 := Blk.frozen bR 3
  have f4 := Blk.frozen bR 4
  simp at d0 d1 d2 d3 d4
  have RB := (Blk.set (Blk.set (Blk.set (Blk.set (Blk.set bR 0 (.slice none 0 0)) 1 (.int .i64 0)) 2 (.int .i64 1)) 3 (.int .i64 1)) 4 (.slice none 0 0))
  simp at RB
  have g0 := Blk.cell RB 0
  have g1 := Blk.cell RB 1
  have g2 := Blk.cell RB 2
  have g3 := Blk.cell RB 3
  have g4 := Blk.cell RB 4
  simp at g0 g1 g2 g3 g4
  have hbz := Lib.hid (((((B0.setCell (p := ⟨r, 0, none⟩) (by rw [hr]; exact Nat.le_refl _) (.slice none 0 0)).setCell (p := ⟨r, 1, none⟩) (by rw [hr]; exact Nat.le_refl _) (.int .i64 0)).setCell (p := ⟨r, 2, none⟩) (by rw [hr]; exact Nat.le_refl _) (.int .i64 1)).setCell (p := ⟨r, 3, none⟩) (by rw [hr]; exact Nat.le_refl _) (.int .i64 1)).setCell (p := ⟨r, 4, none⟩) (by rw [hr]; exact Nat.le_refl _) (.slice none 0 0))
  replace hr := Lib.hid hr
  replace g0 := Lib.hid g0
  replace g1 := Lib.hid g1
  replace g2 := Lib.hid g2
  replace g3 := Lib.hid g3
  replace g4 := Lib.hid g4
  clear bR RB B0 hb
  go_wp2_with fail
  have g0' := g0.out
  have g1' := g1.out
  have g2' := g2.out
  have g3' := g3.out
  have g4' := g4.out
  refine bodyPost_ret (v := .agg #[.slice none 0 0, .int .i64 0, .int .i64 1, .int .i64 1, .slice none 0 0]) (by simp [results, Tryd.results79, go_sem, g0', g1', g2', g3', g4']) rfl ?_
  exact ⟨rfl, hbz.out⟩
/-- What Best returns for a graph. -/
def RetBe (w : World) (n : Nat) (es : List (Int × Int)) (e : Ending) (w' : World) : Prop := ∃ (x N D : Nat) (ps : List Int) (AS : Option Addr) (ns cs : Nat) (AP : Option Addr) (np cp : Nat), e = .returned (.tuple #[.agg #[.slice AS ns cs, .int .i64 (N : Nat), .int .i64 (D : Nat), .int .i64 (D : Nat), .slice AP np cp], .int .i64 0]) ∧ DB n es x N D ps ∧ ns ≤ cs ∧ np ≤ cp ∧ RI w' AS ns (bset x) ∧ RI w' AP np ps ∧ Below w.heap.size w w'
def RetBeF (w : World) (n : Nat) (es : List (Int × Int)) (e : Ending) (w' : World) : Prop := ∃ (x N D : Nat) (ps : List Int) (AS : Option Addr) (ns cs : Nat) (AP : Option Addr) (np cp : Nat), e = .returned (.tuple #[.agg #[.slice AS ns cs, .int .i64 (N : Nat), .int .i64 (D : Nat), .int .i64 (D : Nat), .slice AP np cp], .int .i64 0]) ∧ DB n es x N D ps ∧ ns ≤ cs ∧ np ≤ cp ∧ RI w' AS ns (bset x) ∧ RI w' AP np ps ∧ Below w.heap.size w w' ∧ Fr w.heap.size AS ∧ Fr w.heap.size AP
theorem no_edges' {es : List (Int × Int)} (hc : chkG (0 : Nat) es = 0) : es = [] := by
  cases es with
  | nil => rfl
  | cons e es => have := chkE_lt (chkG_zero hc).2.2 e (List.mem_cons_self ..); omega
set_option maxRecDepth 100000 in
set_option maxHeartbeats 8000000 in
theorem best_anyF (A : Option Addr) (m c n : Nat) (es : List (Int × Int)) (w : World) (h : RE w A m es) (hT : Tab w) (hm : m ≤ 4096) (hz : chkG n es = 0) (hn : n ≤ 64) :
    Calls Tryd.prog 40 #[.agg #[.int .i64 (n : Nat), .slice A m c]] w (RetBeF w n es) := by
  have hel : es.length ≤ 4096 := by rw [h.len]; exact hm
  have kc := fun w h => gcheck_any A m c n es w h (by omega)
  rw [hz] at kc
  replace kc := Lib.hid kc
  have kp := Lib.hid (fun w => plain_any A m c n hn (by omega) w)
  have hzh := Lib.hid hz
  obtain ⟨W, hW0⟩ : ∃ W, W = (w.alloc (.cells #[.int .i64 (n : Nat), .slice A m c] 25)).alloc (.cells #[.slice none 0 0, .int .i64 0, .int .i64 0, .int .i64 0, .slice none 0 0] 48) := ⟨_, rfl⟩
  have G0 : Blk W w.heap.size 25 #[.int .i64 (n : Nat), .slice A m c] := by rw [hW0]; exact (Blk.new' _ _ _ rfl).alloc _
  have R0 : Blk W (w.heap.size + 1) 48 #[.slice none 0 0, .int .i64 0, .int .i64 0, .int .i64 0, .slice none 0 0] := by rw [hW0]; exact Blk.new' _ _ _ (by simp)
  have B0 : Below w.heap.size w W := by rw [hW0]; exact ((Below.refl _ w).alloc (Nat.le_refl _) _).alloc (by simp) _
  have hE0 : RE W A m es := by rw [hW0]; exact (h.alloc _).alloc _
  have hT0 := hT.keep B0
  replace hW0 := Lib.hid hW0
  clear h hT hz
  go_enter Tryd.func40, Tryd.ntmps40
  go_upto_region 1 with fail
  rw [← hW0.out]
  clear hW0
  obtain ⟨d0, d1⟩ := blkG G0
  go_upto_region 2 with (first | (go_at_call 52; (with_reducible refine (kc.out _ hE0).mono ?_); rintro e w1 ⟨rfl, hb1⟩) | fail)
  have G1 := G0.below hb1 G0.lt
  have R1 := R0.below hb1 R0.lt
  have B1 := B0.trans (hb1.mono B0.size)
  have hE1 := hE0.below hb1 (Nat.le_refl _)
  have hT1 := hT0.keep hb1
  have hr1 : Hid (w.heap.size ≤ w.heap.size + 1) := Lib.hid (by omega)
  clear G0 R0 B0 hE0 hT0 hb1 kc d0 d1
  obtain ⟨d0, d1⟩ := blkG G1
  have sg := G1.lt
  have sr := R1.lt
  generalize hr : w.heap.size + 1 = r at *
  replace hr := Lib.hid hr
  by_cases h0 : n = 0
  · subst h0
    have q0 : ((((0 : Nat) : Int)) == 0) = true := rfl
    have hes := no_edges' hzh.out
    subst hes
    have kn := Lib.hid nothing_any
    go_wp2_with fail
    refine (kn.out _).mono ?_
    rintro e w2 ⟨rfl, hb2⟩
    have R2 := R1.below hb2 sr
    have B2 := B1.trans (hb2.mono B1.size)
    clear d0 d1 G1 R1 B1 hb2 sg
    have d0 := Blk.cell R2 0
    have d1 := Blk.cell R2 1
    have d2 := Blk.cell R2 2
    have d3 := Blk.cell R2 3
    have d4 := Blk.cell R2 4
    have f0 := Blk.frozen R2 0
    have f1 := Blk.frozen R2 1
    have f2 := Blk.frozen R2 2
    have f3 := Blk.frozen R2 3
    have f4 := Blk.frozen R2 4
    simp at d0 d1 d2 d3 d4
    have RB := (Blk.set (Blk.set (Blk.set (Blk.set (Blk.set R2 0 (.slice none 0 0)) 1 (.int .i64 0)) 2 (.int .i64 1)) 3 (.int .i64 1)) 4 (.slice none 0 0))
    simp at RB
    have g0 := Lib.hid (Blk.cell RB 0)
    have g1 := Lib.hid (Blk.cell RB 1)
    have g2 := Lib.hid (Blk.cell RB 2)
    have g3 := Lib.hid (Blk.cell RB 3)
    have g4 := Lib.hid (Blk.cell RB 4)
    have hbz := Lib.hid (((((B2.setCell (p := ⟨r, 0, none⟩) hr1.out (.slice none 0 0)).setCell (p := ⟨r, 1, none⟩) hr1.out (.int .i64 0)).setCell (p := ⟨r, 2, none⟩) hr1.out (.int .i64 1)).setCell (p := ⟨r, 3, none⟩) hr1.out (.int .i64 1)).setCell (p := ⟨r, 4, none⟩) hr1.out (.slice none 0 0))
    clear R2 RB B2
    go_wp2_with fail
    have g0' := g0.out
    have g1' := g1.out
    have g2' := g2.out
    have g3' := g3.out
    have g4' := g4.out
    simp at g0' g1' g2' g3' g4'
    refine bodyPost_ret (v := .tuple #[.agg #[.slice none 0 0, .int .i64 0, .int .i64 1, .int .i64 1, .slice none 0 0], .int .i64 0]) (by simp [results, Tryd.results40, go_sem, g0', g1', g2', g3', g4']) rfl ?_
    exact ⟨0, 0, 1, [], none, 0, 0, none, 0, 0, rfl, DB.none_, Nat.le_refl _, Nat.le_refl _, by rw [show bset 0 = [] from by unfold bset; rw [bl_zero]; rfl]; exact RI.none_, RI.none_, hbz.out, Fr.none_, Fr.none_⟩
  · have q0 : (((n : Nat) : Int) == 0) = false := by rw [beq_eq_false_iff_ne]; omega
    have hpr := Lib.hid (prb_plain hzh.out hn hel)
    have hpp : Hid (0 < pop (allM n)) := Lib.hid (by
      rw [pop_bl]
      refine List.length_pos_of_mem (a := 0) (mem_bl.2 ⟨by omega, ?_⟩)
      rw [allM_bit]; exact decide_eq_true (by omega))
    replace h0 := Lib.hid h0
    go_upto_region 6 with fail
    go_upto_region 7 with (first
      | (go_at_call 80; (with_reducible refine (kp.out _).mono ?_); intro e w2 hq; obtain ⟨WA, BA, CA, wc, bc, cc, rfl, hw2, hb2, hc2, hB2⟩ := hq
         have B2 := B1.trans (hB2.mono B1.size)
         have hM2 : PM w2 A WA BA CA m n es (List.replicate n 0) := ⟨hE1.below hB2 (Nat.le_refl _), hw2, hb2, hc2, hT1.keep hB2⟩
         have R2 := R1.below hB2 sr
         have kd := Lib.hid (densest_any A WA BA CA c wc bc cc m n (allM n) es (List.replicate n 0) hpr.out w2 hM2 hpp.out)
         clear kp hw2 hb2 hc2 hM2)
      | (go_at_call 81; (with_reducible refine kd.out.mono ?_); intro e w3 hq; obtain ⟨x, P, D, AP, np, cp, L, S, rfl, hden, hmin, hmk, hri, hnc, hfr, hB3⟩ := hq)
      | fail)
    have hDB := Lib.hid (DB.of_den hzh.out hn hel hden hmin hmk)
    have hx64 := hDB.out.lt hn
    generalize partL es (List.replicate n 0) n (allM n) D P L es.length = ps at *
    have R3 := R2.below hB3 (Nat.lt_of_lt_of_le sr hB2.size)
    have hfP : Hid (Fr w.heap.size AP) := Lib.hid (hfr.mono (Nat.le_trans B1.size hB2.size))
    have hAPr : Hid (∀ k, AP = some k → k.block ≠ r) := Lib.hid (fun k hk e => by have h1 := hfr k hk; have h2 := hB2.size; omega)
    have B3 := B2.trans (hB3.mono B2.size)
    have hT3 := hT1.keep (hB2.trans (hB3.mono hB2.size))
    clear kd hden hmin hmk hfr hB3 hB2 R2 B2 R1 B1 G1 hE1 hT1 sg hpr hpp d0 d1
    obtain ⟨Wx, hWx⟩ : ∃ Wx, Wx = (w3.alloc (.cells #[.int .u64 (x : Nat), .slice AP np cp] 111)).alloc (.cells #[.int .i64 (P : Nat), .int .i64 (D : Nat)] 36) := ⟨_, rfl⟩
    rw [← hWx]
    have T5 : Blk Wx w3.heap.size 111 #[.int .u64 (x : Nat), .slice AP np cp] := by rw [hWx]; exact (Blk.new _ _ _).alloc _
    have T6 : Blk Wx (w3.heap.size + 1) 36 #[.int .i64 (P : Nat), .int .i64 (D : Nat)] := by rw [hWx]; exact Blk.new' _ _ _ (by simp)
    have RW : Blk Wx r 48 #[.slice none 0 0, .int .i64 0, .int .i64 0, .int .i64 0, .slice none 0 0] := by rw [hWx]; exact (R3.alloc _).alloc _
    have BW : Below w.heap.size w Wx := by rw [hWx]; exact (B3.alloc B3.size _).alloc (by have := B3.size; simp; omega) _
    have hTW : Tab Wx := by rw [hWx]; exact (hT3.alloc _).alloc _
    have hriW : RI Wx AP np ps := by rw [hWx]; exact (hri.alloc _).alloc _
    have hrlt : Hid (r ≠ w3.heap.size ∧ r ≠ w3.heap.size + 1) := Lib.hid (by have := R3.lt; omega)
    replace hWx := Lib.hid hWx
    clear hri hT3 B3 R3 hWx
    generalize w3.heap.size + 1 = tf at *
    generalize w3.heap.size = tb at *
    have p0 : Wx.drew.cell? ⟨tb, 0, none⟩ = some (.int .u64 (x : Nat)) := by have := Blk.cell T5 0; simpa using this
    have p1 : Wx.drew.cell? ⟨tb, 1, none⟩ = some (.slice AP np cp) := by have := Blk.cell T5 1; simpa using this
    have p2 : Wx.drew.cell? ⟨tf, 0, none⟩ = some (.int .i64 (P : Nat)) := by have := Blk.cell T6 0; simpa using this
    have p3 : Wx.drew.cell? ⟨tf, 1, none⟩ = some (.int .i64 (D : Nat)) := by have := Blk.cell T6 1; simpa using this
    have tbl := T5.lt
    have tfl := T6.lt
    have rl := RW.lt
    have kl := Lib.hid (list_any x hx64 Wx.drew (show Tab Wx.drew from hTW))
    have hne : Hid (∀ i j : Nat, (⟨r, i, none⟩ : Addr) ≠ ⟨tb, j, none⟩) := Lib.hid (fun i j e => by injection e with e; exact hrlt.out.1 e)
    have hne2 : Hid (∀ i j : Nat, (⟨r, i, none⟩ : Addr) ≠ ⟨tf, j, none⟩) := Lib.hid (fun i j e => by injection e with e; exact hrlt.out.2 e)
    have far : ∀ (wq : World) (i : Nat) (u : Value) (o : Nat) (v : Value), wq.cell? ⟨tb, o, none⟩ = some v → (wq.setCell ⟨r, i, none⟩ u).cell? ⟨tb, o, none⟩ = some v := fun wq i u o v hv => (World.cell?_setCell_other wq ⟨r, i, none⟩ ⟨tb, o, none⟩ u (fun e => hne.out _ _ e)).trans hv
    have far2 : ∀ (wq : World) (i : Nat) (u : Value) (o : Nat) (v : Value), wq.cell? ⟨tf, o, none⟩ = some v → (wq.setCell ⟨r, i, none⟩ u).cell? ⟨tf, o, none⟩ = some v := fun wq i u o v hv => (World.cell?_setCell_other wq ⟨r, i, none⟩ ⟨tf, o, none⟩ u (fun e => hne2.out _ _ e)).trans hv
    clear T5 T6
    go_region_held3 (fun w' => w'.cell? ⟨tb, 0, none⟩ = some (.int .u64 (x : Nat)) ∧ w'.cell? ⟨tb, 1, none⟩ = some (.slice AP np cp) ∧ w'.cell? ⟨tf, 0, none⟩ = some (.int .i64 (P : Nat)) ∧ w'.cell? ⟨tf, 1, none⟩ = some (.int .i64 (D : Nat)))
      ((first | (with_reducible exact ⟨p0, p1, p2, p3⟩) | (with_reducible exact ⟨z0, z1, z2, z3⟩) | (with_reducible exact ⟨far _ _ _ _ _ (far _ _ _ _ _ (far _ _ _ _ _ (far _ _ _ _ _ (far _ _ _ _ _ z0)))), far _ _ _ _ _ (far _ _ _ _ _ (far _ _ _ _ _ (far _ _ _ _ _ (far _ _ _ _ _ z1)))), far2 _ _ _ _ _ (far2 _ _ _ _ _ (far2 _ _ _ _ _ (far2 _ _ _ _ _ (far2 _ _ _ _ _ z2)))), far2 _ _ _ _ _ (far2 _ _ _ _ _ (far2 _ _ _ _ _ (far2 _ _ _ _ _ (far2 _ _ _ _ _ z3))))⟩) | fail))
      ((first
        | (go_at_call 82; (with_reducible refine kl.out.mono ?_); rintro e w4 ⟨AS, ns, cs, rfl, hns, hrs, hb4, hf4⟩
           have z0 := (hb4.cell (p := ⟨tb, 0, none⟩) tbl).trans p0
           have z1 := (hb4.cell (p := ⟨tb, 1, none⟩) tbl).trans p1
           have z2 := (hb4.cell (p := ⟨tf, 0, none⟩) tfl).trans p2
           have z3 := (hb4.cell (p := ⟨tf, 1, none⟩) tfl).trans p3
           have R4 := Blk.below RW.drew hb4 rl
           have d0 := Blk.cell R4 0
           have d1 := Blk.cell R4 1
           have d2 := Blk.cell R4 2
           have d3 := Blk.cell R4 3
           have d4 := Blk.cell R4 4
           have f0 := Blk.frozen R4 0
           have f1 := Blk.frozen R4 1
           have f2 := Blk.frozen R4 2
           have f3 := Blk.frozen R4 3
           have f4 := Blk.frozen R4 4
           simp at d0 d1 d2 d3 d4)
        | fail))
    have B4 := BW.drew.trans (hb4.mono BW.size)
    have RB := (Blk.set (Blk.set (Blk.set (Blk.set (Blk.set R4 0 (.slice AS ns cs)) 1 (.int .i64 (P : Nat))) 2 (.int .i64 (D : Nat))) 3 (.int .i64 (D : Nat))) 4 (.slice AP np cp))
    simp at RB
    have g0 := Lib.hid (Blk.cell RB 0)
    have g1 := Lib.hid (Blk.cell RB 1)
    have g2 := Lib.hid (Blk.cell RB 2)
    have g3 := Lib.hid (Blk.cell RB 3)
    have g4 := Lib.hid (Blk.cell RB 4)
    have hrS : RI w4 AS ns (bset x) := hrs
    have hrP : RI w4 AP np ps := RI.below (show RI Wx.drew AP np ps from hriW) hb4 (Nat.le_refl _)
    have hfS : Hid (Fr w.heap.size AS) := Lib.hid (hf4.mono BW.size)
    have hfx : ∀ k, AS = some k → k.block ≠ r := fun k hk e => by
      have h1 := hf4 k hk
      have h2 : Wx.drew.heap.size = Wx.heap.size := rfl
      omega
    have h1 := Lib.hid (RI.farF (RI.farF (RI.farF (RI.farF (RI.farF hrS 0 (g := r) hfx (.slice AS ns cs)) 1 (g := r) hfx (.int .i64 (P : Nat))) 2 (g := r) hfx (.int .i64 (D : Nat))) 3 (g := r) hfx (.int .i64 (D : Nat))) 4 (g := r) hfx (.slice AP np cp))
    have h2 := Lib.hid (RI.farF (RI.farF (RI.farF (RI.farF (RI.farF hrP 0 (g := r) hAPr.out (.slice AS ns cs)) 1 (g := r) hAPr.out (.int .i64 (P : Nat))) 2 (g := r) hAPr.out (.int .i64 (D : Nat))) 3 (g := r) hAPr.out (.int .i64 (D : Nat))) 4 (g := r) hAPr.out (.slice AP np cp))
    have h3 := Lib.hid (((((B4.setCell (p := ⟨r, 0, none⟩) hr1.out (.slice AS ns cs)).setCell (p := ⟨r, 1, none⟩) hr1.out (.int .i64 (P : Nat))).setCell (p := ⟨r, 2, none⟩) hr1.out (.int .i64 (D : Nat))).setCell (p := ⟨r, 3, none⟩) hr1.out (.int .i64 (D : Nat))).setCell (p := ⟨r, 4, none⟩) hr1.out (.slice AP np cp))
    clear RB R4 B4 hrS hrP hrs z0 z1 z2 z3 p0 p1 p2 p3 RW BW hriW
    go_wp2_with fail
    have g0' := g0.out
    have g1' := g1.out
    have g2' := g2.out
    have g3' := g3.out
    have g4' := g4.out
    simp at g0' g1' g2' g3' g4'
    refine bodyPost_ret (v := .tuple #[.agg #[.slice AS ns cs, .int .i64 (P : Nat), .int .i64 (D : Nat), .int .i64 (D : Nat), .slice AP np cp], .int .i64 0]) (by simp [results, Tryd.results40, go_sem, g0', g1', g2', g3', g4']) rfl ?_
    exact ⟨x, P, D, ps, AS, ns, cs, AP, np, cp, rfl, hDB.out, hns, hnc, h1.out, h2.out, h3.out, hfS.out, hfP.out⟩
theorem best_any (A : Option Addr) (m c n : Nat) (es : List (Int × Int)) (w : World) (h : RE w A m es) (hT : Tab w) (hm : m ≤ 4096) (hz : chkG n es = 0) (hn : n ≤ 64) :
    Calls Tryd.prog 40 #[.agg #[.int .i64 (n : Nat), .slice A m c]] w (RetBe w n es) := by
  refine (best_anyF A m c n es w h hT hm hz hn).mono ?_
  rintro e w' ⟨x, N, D, ps, AS, ns, cs, AP, np, cp, he, h1, h2, h3, h4, h5, h6, -, -⟩
  exact ⟨x, N, D, ps, AS, ns, cs, AP, np, cp, he, h1, h2, h3, h4, h5, h6⟩
end Go.Proofs.YticekkjambkifaaDoor.Fl

/- masks.Of; graph.within, Inside, Density. -/
set_option linter.unusedVariables false
set_option linter.unusedSimpArgs false
namespace Go.Proofs.YticekkjambkifaaDoor.Fl
open Go.RowKit Go.Proofs.YticekkjambkifaaDoor CoBit CoRat Rt

set_option maxHeartbeats 1000000 in
theorem bit_out (v : Int) (hv : v < 0 ∨ 64 ≤ v) (w : World) :
    Calls Tryd.prog 97 #[.int .i64 v] w fun e w' => e = .returned (.int .u64 0) ∧ w = w' := by
  rcases hv with hv | hv
  · go_enter Tryd.func97, Tryd.ntmps97
    go_wp2
    go_ret
    exact ⟨rfl, rfl⟩
  · have h0 : ¬ v < 0 := by omega
    go_enter Tryd.func97, Tryd.ntmps97
    go_wp2
    go_ret
    exact ⟨rfl, rfl⟩
/-- A mask has exactly the nodes of a list. -/
def MOf (l : List Int) (x : Nat) : Prop := x < 18446744073709551616 ∧ ∀ v : Nat, x.testBit v = decide (v < 64 ∧ (v : Int) ∈ l)
theorem MOf.nil_ : MOf [] 0 := ⟨by omega, fun v => by rw [Nat.zero_testBit]; exact (decide_eq_false (by simp)).symm⟩
theorem take_snoc {l : List Int} {k : Nat} {y : Int} (hy : l[k]? = some y) : l.take (k + 1) = l.take k ++ [y] := by
  obtain ⟨hk, rfl⟩ := List.getElem?_eq_some_iff.1 hy
  exact List.take_succ_eq_append_getElem hk
theorem MOf.no {l : List Int} {x k : Nat} {y : Int} (h : MOf (l.take k) x) (hy : l[k]? = some y) (ho : y < 0 ∨ 64 ≤ y) : MOf (l.take (k + 1)) x := ⟨h.1, fun v => by
  rw [h.2, take_snoc hy]
  refine decide_eq_decide.2 ⟨fun ⟨a, b⟩ => ⟨a, List.mem_append_left _ b⟩, fun ⟨a, b⟩ => ⟨a, ?_⟩⟩
  rcases List.mem_append.1 b with b | b
  · exact b
  · rw [List.mem_singleton] at b; omega⟩
theorem MOf.yes {l : List Int} {x k u : Nat} (h : MOf (l.take k) x) (hy : l[k]? = some (u : Int)) (hu : u < 64) : MOf (l.take (k + 1)) (x ||| 2 ^ u) := by
  refine ⟨Nat.or_lt_two_pow (n := 64) h.1 (Nat.pow_lt_pow_right (by omega) hu), fun v => ?_⟩
  rw [Nat.testBit_or, h.2, Nat.testBit_two_pow, take_snoc hy, ← Bool.decide_or]
  refine decide_eq_decide.2 ⟨?_, ?_⟩
  · rintro (⟨a, b⟩ | rfl)
    · exact ⟨a, List.mem_append_left _ b⟩
    · exact ⟨hu, List.mem_append_right _ (List.mem_singleton.2 rfl)⟩
  · rintro ⟨a, b⟩
    rcases List.mem_append.1 b with b | b
    · exact .inl ⟨a, b⟩
    · rw [List.mem_singleton] at b; right; omega
set_option maxRecDepth 100000 in
set_option maxHeartbeats 2000000 in
theorem mof_any (A : Option Addr) (n c : Nat) (xs : List Int) (w : World) (h : RI w A n xs) (hn : n ≤ 4611686018427387904) :
    Calls Tryd.prog 61 #[.slice A n c] w fun e w' => ∃ x : Nat, e = .returned (.int .u64 (x : Nat)) ∧ MOf xs x ∧ w = w' := by
  have hl := Lib.hid h.len
  go_enter Tryd.func61, Tryd.ntmps61
  go_wp2_with fail
  go_loop [3, 8] (fun s i => ∃ k x : Nat, k ≤ n ∧ i = .int .i64 k ∧ s = .int .u64 (x : Nat) ∧ Hid (MOf (xs.take k) x)) (fun _ i => n - (intOf i).toNat)
  case atStart => exact ⟨0, 0, Nat.zero_le _, rfl, rfl, Lib.hid MOf.nil_⟩
  case round =>
    obtain ⟨k, x, hk, rfl, rfl, hx⟩ := hrel
    by_cases hlt : k < n
    · have i0 : (k : Int) < (n : Int) := by omega
      obtain ⟨ad, y, rfl, hy, hc⟩ := h.get hlt
      have hx64 := hx.out.1
      by_cases ho : y < 0 ∨ 64 ≤ y
      · have hs := Lib.hid (hx.out.no hy.out ho)
        have a0 : bits .or .u64 (x : Int) 0 = (x : Int) := by
          have := bits_or_u64_nat x 0 hx64 (by omega)
          simpa using this
        have kb := Lib.hid (fun w => bit_out y ho w)
        clear hy hx ho
        go_wp2_with (first | (go_at_call 97; (with_reducible refine (kb.out _).mono ?_); rintro e wq ⟨rfl, hq⟩; obtain rfl := hq) | fail)
        go_round
        case rel => exact ⟨k + 1, x, by omega, by go_num, rfl, hs⟩
        case measure => simp [intOf]; omega
      · obtain ⟨u, rfl⟩ := Int.eq_ofNat_of_zero_le (show 0 ≤ y by omega)
        have hu : u < 64 := by omega
        have hs := Lib.hid (hx.out.yes hy.out hu)
        have a0 := u64_orB hx64 hu
        have kb := Lib.hid (fun w => bit_any u hu w)
        generalize bitN u = bu at *
        generalize x ||| 2 ^ u = z at *
        clear hy hx ho
        go_wp2_with (first | (go_at_call 97; (with_reducible refine (kb.out _).mono ?_); rintro e wq ⟨rfl, hq⟩; obtain rfl := hq) | fail)
        go_round
        case rel => exact ⟨k + 1, z, by omega, by go_num, rfl, hs⟩
        case measure => simp [intOf]; omega
    · have hf : MOf xs x := by
        have := hx.out
        rwa [List.take_of_length_le (by rw [hl.out]; omega)] at this
      replace hf := Lib.hid hf
      have i0 : ¬ (k : Int) < (n : Int) := by omega
      clear hx
      go_wp2_with fail
      go_ret
      exact ⟨x, rfl, hf.out, rfl⟩
/-- The mask of a set has its nodes. -/
theorem vld_mask {l : List Int} {n x : Nat} (hn : n ≤ 64) (hv : Vld l n) (hx : MOf l x) : bset x = l := by
  refine sorted_ext (bset_sorted x) hv.2 fun y => ⟨fun hy => ?_, fun hy => ?_⟩
  · have hy' := hy
    unfold bset nts at hy'
    obtain ⟨k, hk, rfl⟩ := List.mem_map.1 hy'
    have h1 := (mem_bl.1 hk).2
    rw [hx.2] at h1
    exact (of_decide_eq_true h1).2
  · have h1 := hv.1 y hy
    obtain ⟨k, rfl⟩ := Int.eq_ofNat_of_zero_le h1.1
    refine mem_bset.2 ⟨by omega, ?_⟩
    rw [hx.2]
    exact decide_eq_true ⟨by omega, hy⟩
theorem mof_ex (l : List Int) : ∃ x, MOf l x := by
  have key : ∀ k, k ≤ l.length → ∃ x, MOf (l.take k) x := fun k => by
    induction k with
    | zero => intro _; exact ⟨0, MOf.nil_⟩
    | succ k ih =>
      intro hk
      obtain ⟨x, hx⟩ := ih (by omega)
      have hg : l[k]? = some l[k] := List.getElem?_eq_getElem (by omega)
      by_cases ho : l[k] < 0 ∨ 64 ≤ l[k]
      · exact ⟨x, hx.no hg ho⟩
      · obtain ⟨u, hu⟩ := Int.eq_ofNat_of_zero_le (show 0 ≤ l[k] by omega)
        exact ⟨_, hx.yes (u := u) (by rw [hg, hu]) (by omega)⟩
  obtain ⟨x, hx⟩ := key l.length (Nat.le_refl _)
  rw [List.take_length] at hx
  exact ⟨x, hx⟩
theorem MOf.uniq {l : List Int} {x y : Nat} (h : MOf l x) (h' : MOf l y) : x = y := Nat.eq_of_testBit_eq fun i => by rw [h.2, h'.2]
theorem mof_at (A : Option Addr) (n c : Nat) (xs : List Int) (x : Nat) (hx : MOf xs x) (w : World) (h : RI w A n xs) (hn : n ≤ 4611686018427387904) :
    Calls Tryd.prog 61 #[.slice A n c] w fun e w' => e = .returned (.int .u64 (x : Nat)) ∧ w = w' :=
  (mof_any A n c xs w h hn).mono fun e w' ⟨y, he, hy, hw⟩ => ⟨by rw [he, hx.uniq hy], hw⟩
set_option maxRecDepth 100000 in
set_option maxHeartbeats 4000000 in
theorem within_any (A : Option Addr) (m c : Nat) (n : Int) (es : List (Int × Int)) (AL : Option Addr) (mL cL : Nat) (l : List Int) (w : World) (h : RE w A m es) (hm : m ≤ 68719476736) (hlt : ∀ e ∈ es, 0 ≤ e.1 ∧ e.1 < e.2 ∧ e.2 < 64) (hl : RI w AL mL l) (hmL : mL ≤ 1099511627776) :
    Calls Tryd.prog 102 #[.agg #[.int .i64 n, .slice A m c], .slice AL mL cL] w fun e w' => ∃ A1 c1, e = .returned (.slice A1 (insE es l) c1) ∧ Below w.heap.size w w' := by
  have hml := Lib.hid h.len
  have hst := Lib.hid (fun k x (hx : es[k]? = some x) => indL_take (l := l) hx)
  replace hlt := Lib.hid hlt
  have B0 : Below w.heap.size w (w.alloc (.cells #[.int .i64 n, .slice A m c] 25)) := (Below.refl _ w).alloc (Nat.le_refl _) _
  have G0 := Blk.new w 25 #[.int .i64 n, .slice A m c]
  have hE := h.alloc (.cells #[.int .i64 n, .slice A m c] 25)
  have hL := hl.alloc (.cells #[.int .i64 n, .slice A m c] 25)
  go_enter Tryd.func102, Tryd.ntmps102
  go_upto_region 1 with fail
  generalize w.alloc (.cells #[.int .i64 n, .slice A m c] 25) = W at *
  obtain ⟨d0, d1⟩ := blkG G0
  have sW := B0.size
  clear G0 h hl
  go_upto_region 2 with (first | (go_at_call 61; (with_reducible refine (mof_any AL mL cL l _ hL (by omega)).mono ?_); rintro e w1 ⟨x, rfl, hx, hw⟩; obtain rfl := hw) | fail)
  have hx64 := hx.1
  have hxb := Lib.hid hx.2
  clear hx hL
  go_wp2_with fail
  go_loopw [6, 14] (fun v i wr => ∃ k : Nat, k ≤ m ∧ i = .int .i64 (k : Nat) ∧ OE wr W.heap.size v (indL (es.take k) l) ∧ Below W.heap.size W wr) (fun _ i _ => m - (intOf i).toNat)
  case atStart => exact ⟨0, Nat.zero_le _, rfl, OE.nil_, Below.refl _ _⟩
  case round =>
    obtain ⟨k, hk, rfl, ho, hb⟩ := hrel
    by_cases hlk : k < m
    · have i0 : (k : Int) < (m : Int) := by omega
      have i1 : (0 : Int) ≤ (k : Int) := by omega
      obtain ⟨ad, a, b, rfl, hab, he, e0, e1⟩ := (RE.below hE hb (Nat.le_refl _)).get hlk
      have hr := hlt.out _ (List.mem_of_getElem? he.out)
      simp only at hr
      obtain ⟨u, rfl⟩ := Int.eq_ofNat_of_zero_le (show 0 ≤ a by omega)
      obtain ⟨v, rfl⟩ := Int.eq_ofNat_of_zero_le (show 0 ≤ b by omega)
      have hu : u < 64 := by omega
      have hv : v < 64 := by omega
      have hstk := hst.out k _ he.out
      simp only at hstk
      have hmu : ((u : Int) ∈ l) = (x.testBit u = true) := by rw [hxb.out, decide_eq_true_eq]; exact propext ⟨fun h => ⟨hu, h⟩, fun h => h.2⟩
      have hmv : ((v : Int) ∈ l) = (x.testBit v = true) := by rw [hxb.out, decide_eq_true_eq]; exact propext ⟨fun h => ⟨hv, h⟩, fun h => h.2⟩
      simp only [hmu, hmv] at hstk
      have hlen := indL_len (es.take k) l
      have hlen2 : (indL (es.take k) l).length ≤ 68719476736 := by rw [List.length_take] at hlen; omega
      have a1 := u64_bit hx64 hu
      have a2 := u64_bit hx64 hv
      have k1 := Lib.hid (fun w => bit_any u hu w)
      have k2 := Lib.hid (fun w => bit_any v hv w)
      have p1 : (0 : Nat) < 2 ^ u := Nat.two_pow_pos u
      have p2 : (0 : Nat) < 2 ^ v := Nat.two_pow_pos v
      generalize bitN u = bu at *
      generalize bitN v = bv at *
      generalize (2 : Nat) ^ u = pu at *
      generalize (2 : Nat) ^ v = pv at *
      generalize indL (es.take k) l = L at *
      have hs := hb.size
      have ho2 := ho.alloc (.cells #[.int .i64 (u : Nat), .int .i64 (v : Nat)] 73)
      have B2 := hb.alloc hb.size (.cells #[.int .i64 (u : Nat), .int .i64 (v : Nat)] 73)
      have hN : Blk (wr.alloc (.cells #[.int .i64 (u : Nat), .int .i64 (v : Nat)] 73)) wr.heap.size 73 #[.int .i64 (u : Nat), .int .i64 (v : Nat)] := Blk.new _ _ _
      clear he hab hmu hmv hlen
      cases tu : x.testBit u
      · rw [tu] at a1 hstk
        rw [if_neg (by simp)] at hstk a1
        replace hstk := Lib.hid hstk
        clear tu a2 k2 hb ho
        go_wp2_with (first | (go_at_call 97; (with_reducible refine (k1.out _).mono ?_); rintro e wx ⟨rfl, hq⟩; obtain rfl := hq) | fail)
        go_roundw
        case rel => exact ⟨k + 1, by omega, by go_num, by rw [hstk.out]; exact ho2, B2⟩
        case measure => simp [intOf]; omega
      · have q1 : ((pu : Int) != 0) = true := by simp; omega
        cases tv : x.testBit v
        · rw [tu, tv] at hstk
          rw [tu] at a1
          rw [tv] at a2
          rw [if_neg (by simp)] at hstk a2
          rw [if_pos rfl] at a1
          replace hstk := Lib.hid hstk
          clear tu tv hb ho
          go_wp2_with (first | (go_at_call 97; (with_reducible refine (k1.out _).mono ?_); rintro e wx ⟨rfl, hq⟩; obtain rfl := hq) | (go_at_call 97; (with_reducible refine (k2.out _).mono ?_); rintro e wx ⟨rfl, hq⟩; obtain rfl := hq) | fail)
          go_roundw
          case rel => exact ⟨k + 1, by omega, by go_num, by rw [hstk.out]; exact ho2, B2⟩
          case measure => simp [intOf]; omega
        · rw [tu, tv] at hstk
          rw [tu] at a1
          rw [tv] at a2
          rw [if_pos ⟨rfl, rfl⟩] at hstk
          rw [if_pos rfl] at a1 a2
          replace hstk := Lib.hid hstk
          have q2 : ((pv : Int) != 0) = true := by simp; omega
          clear tu tv hb ho
          go_upto_region 7 with (first | (go_at_call 97; (with_reducible refine (k1.out _).mono ?_); rintro e wx ⟨rfl, hq⟩; obtain rfl := hq) | (go_at_call 97; (with_reducible refine (k2.out _).mono ?_); rintro e wx ⟨rfl, hq⟩; obtain rfl := hq) | fail)
          generalize wr.alloc (.cells #[.int .i64 (u : Nat), .int .i64 (v : Nat)] 73) = W2 at *
          have n0 := Blk.cell hN 0
          have n1 := Blk.cell hN 1
          simp at n0 n1
          have s2 := B2.size
          clear e0 e1 hN
          go_wp2_with (at_builtin; refine wpList_pushE rfl _ _ rfl rfl rfl (by simp) ho2 (by omega) (by omega) ?_; intro v' w10 ho' hb' hg4; have hB4 := below_own B2 hg4 s2 (fun k hk => (ho2.block_lt k hk).1); clear ho2 B2 hb' hg4)
          go_roundw
          case rel => exact ⟨k + 1, by omega, by go_num, by rw [hstk.out]; exact ho', hB4⟩
          case measure => simp [intOf]; omega
    · obtain rfl : k = m := by omega
      have i0 : ¬ (k : Int) < (k : Int) := by omega
      have hall : indL (es.take k) l = indL es l := by rw [List.take_of_length_le (by rw [hml.out]; exact Nat.le_refl _)]
      rw [hall] at ho
      obtain ⟨A4, n4, m4, rfl, hn4, hm4, hc4, hr4, hf4⟩ := ho.form
      replace hn4 := Lib.hid hn4
      clear ho hr4 hf4 hall
      go_wp2_with fail
      go_ret
      exact ⟨⟨A4, m4, by rw [hn4.out, indL_insE]; rfl⟩, B0.trans (hb.mono B0.size)⟩
set_option maxRecDepth 100000 in
set_option maxHeartbeats 1000000 in
theorem pinside_any (A : Option Addr) (m c : Nat) (n : Int) (es : List (Int × Int)) (AL : Option Addr) (mL cL : Nat) (l : List Int) (w : World) (h : RE w A m es) (hm : m ≤ 68719476736) (hz : chkG n es = 0) (hl : RI w AL mL l) (hmL : mL ≤ 1099511627776) :
    Calls Tryd.prog 63 #[.agg #[.int .i64 n, .slice A m c], .slice AL mL cL] w fun e w' => e = .returned (.int .i64 (insE es l : Nat)) ∧ Below w.heap.size w w' := by
  have k1 := fun w h => gcheck_any A m c n es w h (by omega)
  rw [hz] at k1
  replace k1 := Lib.hid k1
  have hlt : ∀ e ∈ es, 0 ≤ e.1 ∧ e.1 < e.2 ∧ e.2 < 64 := fun e he => by
    obtain ⟨z0, z1, z2⟩ := chkG_zero hz
    have := chkE_lt z2 e he; omega
  have k2 := Lib.hid (fun w h hl => within_any A m c n es AL mL cL l w h hm hlt hl hmL)
  have B0 : Below w.heap.size w (w.alloc (.cells #[.int .i64 n, .slice A m c] 25)) := (Below.refl _ w).alloc (Nat.le_refl _) _
  clear hz hlt
  go_enter Tryd.func63, Tryd.ntmps63
  go_wp2_with fail
  refine (k1.out _ (h.alloc _)).mono ?_
  rintro e w1 ⟨rfl, hb1⟩
  have G1 := (Blk.new w 25 #[.int .i64 n, .slice A m c]).below hb1 (by simp)
  have B1 := B0.trans (hb1.mono B0.size)
  have hE1 := h.below B1 (Nat.le_refl _)
  have hL1 := hl.below B1 (Nat.le_refl _)
  obtain ⟨d0, d1⟩ := blkG G1
  clear hb1 k1 B0 h hl
  go_wp2_with fail
  refine (k2.out _ hE1 hL1).mono ?_
  intro e w2 hq
  obtain ⟨A2, c2, rfl, hb2⟩ := hq
  have B2 := B1.trans (hb2.mono B1.size)
  clear hb2 B1 G1 d0 d1 hE1 hL1 k2
  go_wp2_with fail
  go_ret
  exact ⟨rfl, B2⟩
attribute [local irreducible] wpStill wpQuiet in
set_option maxRecDepth 100000 in
set_option maxHeartbeats 4000000 in
/-- The density of a set. -/
theorem pdensity_any (A : Option Addr) (m c : Nat) (n : Nat) (es : List (Int × Int)) (AL : Option Addr) (mL cL : Nat) (l : List Int) (w : World) (h : RE w A m es) (hm : m ≤ 68719476736) (hz : chkG n es = 0) (hn : n ≤ 64) (hl : RI w AL mL l) (hmL : mL ≤ 1099511627776) (hv : Vld l n) :
    Calls Tryd.prog 87 #[.agg #[.int .i64 n, .slice A m c], .slice AL mL cL] w fun e w' => e = .returned (.tuple #[.agg #[.int .i64 (dseN es l l.length), .int .i64 (dseD es l l.length)], .int .i64 0]) ∧ Below w.heap.size w w' := by
  have k1 := fun w h => gcheck_any A m c n es w h (by omega)
  rw [hz] at k1
  replace k1 := Lib.hid k1
  have k2 := Lib.hid (fun w h hl => pinside_any A m c n es AL mL cL l w h hm hz hl hmL)
  obtain ⟨x, hx⟩ := mof_ex l
  have k3 := Lib.hid (fun w hl => mof_at AL mL cL l x hx w hl (by omega))
  have k4 := Lib.hid (fun w => all_any n hn w)
  have hI : insE es l ≤ 68719476736 := Nat.le_trans (insE_le _ _) (by rw [h.len]; exact hm)
  have hx64 := hx.1
  have he : bset x = l := vld_mask hn hv hx
  have hpop : pop x = l.length := by rw [← he]; unfold bset; rw [nts_length, pop_bl]
  have hand : bits .and .u64 (x : Int) ((2 ^ n - 1 : Nat) : Int) = (x : Int) := by
    have hp64 : 2 ^ n - 1 < 18446744073709551616 := by
      have := Nat.pow_le_pow_right (n := 2) (by omega) hn
      rw [show (2 : Nat) ^ 64 = 18446744073709551616 by decide +kernel] at this
      have := Nat.two_pow_pos n
      omega
    have hxx : x &&& (2 ^ n - 1) = x := by
      refine Nat.eq_of_testBit_eq fun i => ?_
      rw [Nat.testBit_and, Nat.testBit_two_pow_sub_one]
      cases hb : x.testBit i with
      | false => rfl
      | true =>
        have := hx.2 i
        rw [hb] at this
        have := of_decide_eq_true this.symm
        have h2 := hv.1 _ this.2
        rw [Bool.true_and]; exact decide_eq_true (by omega)
    rw [bits_and_u64_nat x (2 ^ n - 1) hx64 hp64, hxx]
  have k5 := fun w => count_any x hx64 w
  rw [hpop] at k5
  replace k5 := Lib.hid k5
  have hll := hl.len
  have hN0 : l.length = 0 → dseN es l l.length = 0 ∧ dseD es l l.length = 1 := fun h0 => ⟨if_pos h0, if_pos h0⟩
  have hN1 : ¬ l.length = 0 → dseN es l l.length = mkN (insE es l : Nat) l.length ∧ dseD es l l.length = mkD (insE es l : Nat) l.length := fun h0 => ⟨if_neg h0, if_neg h0⟩
  have hE0 : l.length = 0 → insE es l = 0 := fun h0 => by
    rw [List.eq_nil_of_length_eq_zero h0]
    unfold insE
    rw [List.filter_eq_nil_iff.2 (fun e _ => by simp)]; rfl
  generalize dseN es l l.length = dN at *
  generalize dseD es l l.length = dD at *
  rw [hll] at k5 hN0 hN1 hE0
  generalize insE es l = I at *
  generalize 2 ^ n - 1 = al at *
  clear hz hv hx he hpop hll
  have B0 : Below w.heap.size w ((w.alloc (.cells #[.int .i64 n, .slice A m c] 25)).alloc (.cells #[.int .i64 0, .int .i64 0] 36)) := ((Below.refl _ w).alloc (Nat.le_refl _) _).alloc (by simp) _
  have G0 := (Blk.new w 25 #[.int .i64 n, .slice A m c]).alloc (.cells #[.int .i64 0, .int .i64 0] 36)
  have F0 : Blk ((w.alloc (.cells #[.int .i64 n, .slice A m c] 25)).alloc (.cells #[.int .i64 0, .int .i64 0] 36)) (w.heap.size + 1) 36 #[.int .i64 0, .int .i64 0] := Blk.new' _ _ _ (by simp)
  go_enter Tryd.func87, Tryd.ntmps87
  go_wp2_with fail
  refine (k1.out _ ((h.alloc _).alloc _)).mono ?_
  rintro e w1 ⟨rfl, hb1⟩
  have G1 := G0.below hb1 G0.lt
  have F1 := F0.below hb1 F0.lt
  have B1 := B0.trans (hb1.mono B0.size)
  have hE1 := h.below B1 (Nat.le_refl _)
  have hL1 := hl.below B1 (Nat.le_refl _)
  obtain ⟨d0, d1⟩ := blkG G1
  clear hb1 k1 B0 h hl G0 F0
  go_upto_region 4 with fail
  go_quiet (first
    | (go_at_call 61; exact Calls.quiet_of_same ((k3.out _ (hL1.drewN _)).mono (fun _ _ ⟨h1, h2⟩ => ⟨h1, h2.symm⟩)))
    | (go_at_call 94; exact Calls.quiet_of_same ((k4.out _).mono (fun _ _ ⟨h1, h2⟩ => ⟨h1, h2.symm⟩)))
    | (go_at_call 112; exact Calls.quiet_of_same ((k5.out _).mono (fun _ _ ⟨h1, h2⟩ => ⟨h1, h2.symm⟩)))
    | fail)
  have G2 := G1.drewN nq
  have F2 := F1.drewN nq
  have B2 := below_drewN B1 nq
  have hE2 := hE1.drewN nq
  have hL2 := hL1.drewN nq
  clear G1 F1 B1 hE1 hL1 d0 d1 k3 k4 k5
  generalize w1.drewN nq = w2 at *
  obtain ⟨d0, d1⟩ := blkG G2
  have z0 := F2.lt
  by_cases h0 : mL = 0
  · subst h0
    obtain ⟨rfl, rfl⟩ := hN0 rfl
    have hI0 := hE0 rfl
    subst hI0
    have kmk := fun w => make_any 0 1 w (by omega) (by omega) (by omega) (by omega)
    rw [show mkN 0 1 = 0 by decide +kernel, show mkD 0 1 = 1 by decide +kernel, show mkE 0 1 = 0 by decide +kernel] at kmk
    replace kmk := Lib.hid kmk
    clear hN0 hN1 hE0
    have q0 : (0 : Int) < 1 := by omega
    go_wp2_with (first
      | (go_at_call 63; (with_reducible refine (k2.out _ hE2 hL2).mono ?_); rintro e w3 ⟨rfl, hb3⟩
         have F3 := F2.below hb3 F2.lt
         have B3 := B2.trans (hb3.mono B2.size))
      | (go_at_call 62; (with_reducible refine (kmk.out _).mono ?_); rintro e w4 ⟨rfl, hb4⟩
         have F4 := F3.below hb4 F3.lt
         have B4 := B3.trans (hb4.mono B3.size)
         have y0 := Blk.cell F4 0
         have y1 := Blk.cell F4 1
         have f0 := Blk.frozen F4 0
         have f1 := Blk.frozen F4 1
         simp at y0 y1)
      | fail)
    have hzz := Blk.set (Blk.set F4 0 (.int .i64 (0))) 1 (.int .i64 (1))
    have e0 := Blk.cell hzz 0
    have e1 := Blk.cell hzz 1
    simp at e0 e1
    have hbz := (B4.setCell (p := ⟨w.heap.size + 1, 0, none⟩) (by simp) (.int .i64 (0))).setCell (p := ⟨w.heap.size + 1, 1, none⟩) (by simp) (.int .i64 (1))
    refine bodyPost_ret (v := .tuple #[.agg #[.int .i64 (0), .int .i64 (1)], .int .i64 0]) (by simp [results, Tryd.results87, go_sem, e0, e1]) rfl ?_
    exact ⟨rfl, hbz⟩
  · obtain ⟨hd1, hd2⟩ := hN1 h0
    have hmk := (mk_small (a := I) (b := mL) (by omega) (by unfold M; omega) (by unfold M; omega)).2.2
    have kmk := fun w => make_any (I : Int) (mL : Int) w (by omega) (by omega) (by omega) (by omega)
    rw [hmk, ← hd1, ← hd2] at kmk
    replace kmk := Lib.hid kmk
    have q0 : ¬ (mL : Int) < 1 := by omega
    have q1 : (1 : Int) ≤ (mL : Int) := by omega
    clear hN0 hN1 hE0 hmk hd1 hd2
    go_wp2_with (first
      | (go_at_call 63; (with_reducible refine (k2.out _ hE2 hL2).mono ?_); rintro e w3 ⟨rfl, hb3⟩
         have F3 := F2.below hb3 F2.lt
         have B3 := B2.trans (hb3.mono B2.size))
      | (go_at_call 62; (with_reducible refine (kmk.out _).mono ?_); rintro e w4 ⟨rfl, hb4⟩
         have F4 := F3.below hb4 F3.lt
         have B4 := B3.trans (hb4.mono B3.size)
         have y0 := Blk.cell F4 0
         have y1 := Blk.cell F4 1
         have f0 := Blk.frozen F4 0
         have f1 := Blk.frozen F4 1
         simp at y0 y1)
      | fail)
    have hzz := Blk.set (Blk.set F4 0 (.int .i64 (dN))) 1 (.int .i64 (dD))
    have e0 := Blk.cell hzz 0
    have e1 := Blk.cell hzz 1
    simp at e0 e1
    have hbz := (B4.setCell (p := ⟨w.heap.size + 1, 0, none⟩) (by simp) (.int .i64 (dN))).setCell (p := ⟨w.heap.size + 1, 1, none⟩) (by simp) (.int .i64 (dD))
    refine bodyPost_ret (v := .tuple #[.agg #[.int .i64 (dN), .int .i64 (dD)], .int .i64 0]) (by simp [results, Tryd.results87, go_sem, e0, e1]) rfl ?_
    exact ⟨rfl, hbz⟩
end Go.Proofs.YticekkjambkifaaDoor.Fl
