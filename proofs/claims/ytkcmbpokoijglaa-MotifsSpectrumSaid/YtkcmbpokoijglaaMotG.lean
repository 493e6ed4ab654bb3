/- motifs.each: its inner function. -/
import Derived.Test.YtkcmbpokoijglaaMotF
import Derived.Test.YtkcmbpokoijglaaWpt
import Derived.Laws.EntriesVeiled
import Derived.Deep.QuietTactic
import Derived.BigQuiet
import Derived.Deep.RegionHeld3
import Derived.Deep.DeepCutAuto
set_option linter.unusedVariables false
set_option linter.unusedSimpArgs false
namespace Go.Proofs.Ytkcmbpokoijglaa
open Go.RowKit CoMot

section
variable {e : EC} {fit : List Step → Bool} {J Jx : List (List Nat × List Step) → World → (Nat → Prop) → Prop}
set_option maxRecDepth 100000 in
set_option maxHeartbeats 8000000 in
theorem inner_leaf (hk : TK e fit J Jx) (at' : List Nat) (m : List Step) (cs : List Int) (n : Nat) (s : ES) (pre : List (List Nat × List Step)) (hK : at'.length = e.K) (h5 : cs.length = 5) (hI : Inv e at' m s) (hsm : Stp m ∧ m.length = at'.length) (hJ : J pre s.W s.ow) :
    Calls Try.prog 64 #[.agg (nmC cs n), .pointer (some ⟨e.b + 5, 0, none⟩), .pointer (some ⟨e.b + 1, 0, none⟩), .pointer (some ⟨e.b + 4, 0, none⟩), .pointer (some ⟨e.b + 6, 0, none⟩), .pointer (some ⟨e.b, 0, none⟩), .pointer (some ⟨e.b + 2, 0, none⟩), .pointer (some ⟨e.b + 3, 0, none⟩), .pointer (some ⟨e.b + 7, 0, none⟩)] s.W (IPost e J Jx at' m s pre [(at', m)]) := by
  obtain ⟨ow, av, mv, W⟩ := s
  match cs, h5 with
  | [c0, c1, c2, c3, c4], _ =>
  show Calls Try.prog 64 #[.agg #[.int .i64 c0, .int .i64 c1, .int .i64 c2, .int .i64 c3, .int .i64 c4, .int .i64 (n : Int)], _, _, _, _, _, _, _, _] _ _
  have hbA := (Below.refl W.heap.size W).alloc (Nat.le_refl _) (.cells #[.int .i64 c0, .int .i64 c1, .int .i64 c2, .int .i64 c3, .int .i64 c4, .int .i64 (n : Int)] 69)
  obtain ⟨hI1, hT1⟩ := hI.below hbA (Nat.le_refl _)
  have hJ1 := hk.keep _ _ _ _ hJ (Same.of_below hbA (Nat.le_refl _) _)
  have hc := Lib.hid (hk.call at' m _ pre hI1 hK hsm hJ1)
  obtain ⟨A1, n1, c1', rfl, hn1, hc1, _, hr1, hf1⟩ := hI.oa.form
  obtain ⟨A2, n2, c2', rfl, hn2, hc2, _, hr2, hf2⟩ := hI.om.form
  have ba := Blk.cell hI.ba 0
  have bs := Blk.cell hI.bs 0
  have bt := Blk.cell hI.bt 0
  have bm := Blk.cell hI.bm 0
  have l1 := hI.ba.lt
  have l2 := hI.bs.lt
  have l3 := hI.bt.lt
  have l4 := hI.bm.lt
  simp at ba bs bt bm l1 l2 l3 l4
  have q1 : ((n1 : Int) == (e.K : Int)) = true := by simp; omega
  replace hn1 := Lib.hid hn1
  replace hn2 := Lib.hid hn2
  replace hK := Lib.hid hK
  have hen := hk.enterT
  go_enter Try.func64, Try.ntmps64
  go_wp2_with fail
  (with_reducible refine (hc.out).mono ?_)
  rintro r W2 ⟨ow', hs, ho, hl, hr⟩
  obtain ⟨hI2, hT2⟩ := hI1.took hs ho hl
  have hT := hT1.trans hT2
  rcases hr with ⟨rfl, hJ2⟩ | ⟨rfl, hJ2⟩
  · go_wp2_with fail
    go_ret
    exact ⟨ow', _, _, hI2, hT, .inl ⟨rfl, hJ2⟩⟩
  · go_wp2_with fail
    go_ret
    exact ⟨ow', _, _, hI2, hT, .inr ⟨rfl, _, [], (List.append_nil _).symm, hJ2⟩⟩
/-- The least index that may come next, and the time behind which it must lie. -/
def frst (at' : List Nat) : Nat := match at'.getLast? with | none => 0 | some b => b + 1
def aftr (l : List Tick) (at' : List Nat) : Int := match at'.getLast? with | none => -1 | some b => tim l b
def aged (l : List Tick) (w : Int) (at' : List Nat) (t : Int) : Bool := match at'.head? with | none => true | some a => decide (t - tim l a ≤ w)
theorem nextB_eq (l : List Tick) (w : Int) (at' : List Nat) (x : Tick) (i : Nat) (hx : 0 ≤ x.t) : nextB l w at' x i = (decide (frst at' ≤ i) && aged l w at' x.t && decide (aftr l at' < x.t)) := by
  unfold nextB frst aged aftr
  cases h1 : at'.head? with
  | none =>
    rw [List.head?_eq_none_iff] at h1
    subst h1
    simp only [List.getLast?_nil, Nat.zero_le, decide_true, Bool.true_and]
    first | rfl | exact decide_eq_decide.2 Iff.rfl
  | some a =>
    cases h2 : at'.getLast? with
    | none =>
      rw [List.getLast?_eq_none_iff] at h2
      subst h2; cases h1
    | some b => rfl
theorem TK.rd {at' : List Nat} {m : List Step} {s : ES} (hk : TK e fit J Jx) (hI : Inv e at' m s) : RS TE s.W e.A e.n e.l := by
  refine ⟨hk.tick.1, fun hn => ?_⟩
  obtain ⟨ad, he, hb, hc⟩ := hk.tick.2 hn
  have hlt : ad.block < e.W0.heap.size := hb
  refine ⟨ad, he, Nat.lt_of_lt_of_le hb hI.kp.size, fun j u hu => ?_⟩
  exact (World.cell?_of_block (hI.kp.block (ad.add j).block (by rw [block_of_add]; exact hlt) (by rw [block_of_add]; exact hk.far ad he hn))).trans (hc j u hu)
theorem OS.blk_ne {α : Type} {E : El α} {t t' : TypeId} {W : World} {B g : Nat} {v : Value} {xs : List α} {cs : Array Value} (h : OS E t W B v xs) (hb : Blk W g t' cs) (hne : t ≠ t') : v.ownBlock ≠ some g := by
  rcases h.2 with ⟨rfl, h0⟩ | ⟨g', cap, cur, rfl, h1, h2, h3⟩
  · intro e; cases e
  · intro e
    have e' : g' = g := Option.some.inj e
    subst e'
    have hb' : W.heap[g']? = some (.cells cs t' (0, 0)) := hb
    rw [h2] at hb'
    injection hb' with hb'
    injection hb' with _ hb' _
    exact hne hb'
theorem own_cut (A : Option Addr) (n n' c : Nat) : (Value.slice A n c).ownBlock = (Value.slice A n' c).ownBlock := by cases A <;> rfl
theorem Blk.ne_box {W : World} {g h : Nat} {t t' : TypeId} {cs cs' : Array Value} (hb : Blk W g t cs) (hb' : Blk W h t' cs') (hne : t ≠ t') : g ≠ h := fun e => by
  subst e
  have h1 : W.heap[g]? = some (.cells cs t (0, 0)) := hb
  have h2 : W.heap[g]? = some (.cells cs' t' (0, 0)) := hb'
  rw [h1] at h2
  injection h2 with h2
  injection h2 with _ h2 _
  exact hne h2
theorem NM.same {W W' : World} {g : Nat} {ns : List Int} {ex : Nat → Prop} (h : NM W g ns) (hs : Same ex W W') (hx : ¬ ex g) : NM W' g ns := by
  obtain ⟨cs, h1, h2, h3, h4⟩ := h
  exact ⟨cs, h1, hs.blk h2 hx, h3, h4⟩
theorem keepA {w w' : World} {o : Obj} {g : Nat} (BN : Below g w w') (hz : g < w'.heap.size) {p : Addr} (hp : p.block < g) {v : Value} (h : w.cell? p = some v) : (w'.alloc o).cell? p = some v := (World.cell?_alloc_lt w' o p (Nat.lt_trans hp hz)).trans ((BN.cell (p := p) hp).trans h)
theorem keepS {w w' : World} {g H : Nat} (BN : Below g w w') (hz : g ≤ H) {p : Addr} (hp : p.block < g) {v : Value} (h : w.cell? p = some v) (i j : Nat) (a b : Value) : ((w'.setCell ⟨H, i, none⟩ a).setCell ⟨H, j, none⟩ b).cell? p = some v := by
  have hne : ∀ i : Nat, (⟨H, i, none⟩ : Addr) ≠ p := fun i e => by rw [← e] at hp; exact absurd hp (by show ¬ H < g; omega)
  exact (World.cell?_setCell_other _ _ _ _ (hne j)).trans ((World.cell?_setCell_other _ _ _ _ (hne i)).trans ((BN.cell (p := p) hp).trans h))
theorem one_no {l : List Tick} {w : Int} {k : Nat} {at' : List Nat} {m : List Step} {ns : List Int} {i : Nat} (hx : ∀ x ∈ l, 0 ≤ x.t) (h : ∀ x, l[i]? = some x → decide (frst at' ≤ i) = false ∨ aged l w at' x.t = false ∨ decide (aftr l at' < x.t) = false) : one l w fit k at' m ns i = [] := by
  unfold one
  cases hi : l[i]? with
  | none => rfl
  | some x =>
    have h0 := hx x (List.mem_of_getElem? hi)
    have : nextB l w at' x i = false := by
      rw [nextB_eq l w at' x i h0]
      rcases h x hi with h | h | h
      · rw [h]; rfl
      · rw [h, Bool.and_false]; rfl
      · rw [h, Bool.and_false]
    simp only [this, Bool.false_eq_true, if_false]
theorem flat_less {f : Nat → List (List Nat × List Step)} {a b : Nat} (hab : a ≤ b) (h : ∀ j, a ≤ j → j < b → f j = []) : (List.range b).flatMap f = (List.range a).flatMap f := by
  obtain ⟨d, rfl⟩ := Nat.exists_eq_add_of_le hab
  induction d with
  | zero => rfl
  | succ d ih =>
    rw [← Nat.add_assoc, List.range_succ, List.flatMap_append, ih (by omega) (fun j h1 h2 => h j h1 (by omega))]
    simp [h (a + d) (by omega) (by omega)]
theorem flat_rest (f : Nat → List (List Nat × List Step)) {a b : Nat} (hab : a ≤ b) : ∃ R, (List.range b).flatMap f = (List.range a).flatMap f ++ R := by
  obtain ⟨d, rfl⟩ := Nat.exists_eq_add_of_le hab
  rw [List.range_add, List.flatMap_append]
  exact ⟨_, rfl⟩
theorem flat_next (f : Nat → List (List Nat × List Step)) (a : Nat) : (List.range (a + 1)).flatMap f = (List.range a).flatMap f ++ f a := by
  rw [List.range_succ, List.flatMap_append]; simp
/-- May the loop go on at index i? -/
def goB (e : EC) (at' : List Nat) (i : Nat) : Bool := match e.l[i]? with | none => false | some x => aged e.l e.wd at' x.t
theorem go_on {at' : List Nat} {m : List Step} {ns : List Int} {k : Nat} (hk : TK e fit J Jx) {i : Nat} (h : goB e at' i = false) : ∀ j, i ≤ j → j < e.n → one e.l e.wd fit k at' m ns j = [] := by
  intro j hij hj
  refine one_no (fun x hx => (hk.time x hx).1) (fun y hy => .inr (.inl ?_))
  have hl := hk.tick.len
  have hi : e.l[i]? = some (e.l[i]'(by omega)) := List.getElem?_eq_getElem (by omega)
  unfold goB at h
  rw [hi] at h
  simp only at h
  unfold aged at h ⊢
  cases h1 : at'.head? with
  | none => rw [h1] at h; cases h
  | some a =>
    rw [h1] at h
    simp only [decide_eq_false_iff_not] at h ⊢
    have h2 := hk.asc i j hij hj
    have e1 : tim e.l i = (e.l[i]'(by omega)).t := by unfold tim; rw [hi]; rfl
    have e2 : tim e.l j = y.t := by unfold tim; rw [hy]; rfl
    omega
set_option maxRecDepth 100000 in
set_option maxHeartbeats 16000000 in
theorem inner_step (hk : TK e fit J Jx) (k : Nat) (at' : List Nat) (m : List Step) (cs : List Int) (ns : List Int) (s : ES) (pre : List (List Nat × List Step)) (hK : at'.length + (k + 1) = e.K) (hm : m.length = at'.length) (h5 : cs.length = 5) (ht : cs.take ns.length = ns) (hn5 : ns.length ≤ at'.length + 1) (hat : ∀ i ∈ at', i < e.n) (hsm : Stp m) (hI : Inv e at' m s) (hJ : J pre s.W s.ow)
    (ih : ∀ (at' : List Nat) (m : List Step) (cs : List Int) (ns : List Int) (s : ES) (pre : List (List Nat × List Step)), at'.length + k = e.K → m.length = at'.length → cs.length = 5 → cs.take ns.length = ns → ns.length ≤ at'.length + 1 → (∀ i ∈ at', i < e.n) → Stp m → Inv e at' m s → J pre s.W s.ow →
      Calls Try.prog 64 #[.agg (nmC cs ns.length), .pointer (some ⟨e.b + 5, 0, none⟩), .pointer (some ⟨e.b + 1, 0, none⟩), .pointer (some ⟨e.b + 4, 0, none⟩), .pointer (some ⟨e.b + 6, 0, none⟩), .pointer (some ⟨e.b, 0, none⟩), .pointer (some ⟨e.b + 2, 0, none⟩), .pointer (some ⟨e.b + 3, 0, none⟩), .pointer (some ⟨e.b + 7, 0, none⟩)] s.W (IPost e J Jx at' m s pre (sub e.l e.wd fit k at' m ns))) :
    Calls Try.prog 64 #[.agg (nmC cs ns.length), .pointer (some ⟨e.b + 5, 0, none⟩), .pointer (some ⟨e.b + 1, 0, none⟩), .pointer (some ⟨e.b + 4, 0, none⟩), .pointer (some ⟨e.b + 6, 0, none⟩), .pointer (some ⟨e.b, 0, none⟩), .pointer (some ⟨e.b + 2, 0, none⟩), .pointer (some ⟨e.b + 3, 0, none⟩), .pointer (some ⟨e.b + 7, 0, none⟩)] s.W (IPost e J Jx at' m s pre (sub e.l e.wd fit (k + 1) at' m ns)) := by
  replace ih := Lib.hid ih
  replace hsm := Lib.hid hsm
  obtain ⟨ow, av, mv, W⟩ := s
  match cs, h5 with
  | [c0, c1, c2, c3, c4], _ =>
  show Calls Try.prog 64 #[.agg #[.int .i64 c0, .int .i64 c1, .int .i64 c2, .int .i64 c3, .int .i64 c4, .int .i64 (ns.length : Int)], _, _, _, _, _, _, _, _] _ _
  generalize hN : ns.length = N at *
  replace hN := Lib.hid hN
  have hbA := (Below.refl W.heap.size W).alloc (Nat.le_refl _) (.cells #[.int .i64 c0, .int .i64 c1, .int .i64 c2, .int .i64 c3, .int .i64 c4, .int .i64 (N : Int)] 69)
  obtain ⟨hI1, hT1⟩ := hI.below hbA (Nat.le_refl _)
  have hJ1 := hk.keep _ _ _ _ hJ (Same.of_below hbA (Nat.le_refl _) _)
  have hX1 := Blk.new W 69 #[.int .i64 c0, .int .i64 c1, .int .i64 c2, .int .i64 c3, .int .i64 c4, .int .i64 (N : Int)]
  have hrd := hk.rd hI1
  obtain ⟨A1, n1, c1', rfl, hn1, hc1, -, -, -⟩ := hI.oa.form
  obtain ⟨_, _, _, e1, -, -, -, hr1, -⟩ := hI1.oa.form
  have ba := Blk.cell hI.ba 0
  have bs := Blk.cell hI.bs 0
  have bl := Blk.cell hI.bl 0
  have l1 := hI.ba.lt
  have l2 := hI.bs.lt
  have l3 := hI.bl.lt
  simp at ba bs bl l1 l2 l3
  simp only [Value.slice.injEq] at e1
  obtain ⟨rfl, rfl, rfl⟩ := e1
  have q1 : ((n1 : Int) == (e.K : Int)) = false := by simp; omega
  have hn14 : n1 ≤ 4 := by have := hk.four; omega
  replace hn1 := Lib.hid hn1
  go_enter Try.func64, Try.ntmps64
  go_upto_if 28 with fail
  have hgxo : Hid (¬ ow W.heap.size) := Lib.hid fun h => Nat.lt_irrefl _ (hI.lt _ h).1
  clear ba bs bl l1 l2 l3 hI hJ hbA
  generalize W.alloc (.cells #[.int .i64 c0, .int .i64 c1, .int .i64 c2, .int .i64 c3, .int .i64 c4, .int .i64 (N : Int)] 69) = W1 at *
  generalize W.heap.size = gx at *
  have ba := Blk.cell hI1.ba 0
  have bs := Blk.cell hI1.bs 0
  have bl := Blk.cell hI1.bl 0
  simp at ba bs bl
  have hlim := hk.lim
  have hcap := hk.cap
  have hnl := Lib.hid hrd.len
  go_cut [11, 12] (fun p q wx => p = .int .i64 (frst at' : Nat) ∧ q = .int .i64 (aftr e.l at') ∧ Same (fun _ => False) W1 wx)
  case first =>
    -- B1
    cases hgl : at'.getLast? with
    | none =>
      have h0 : at' = [] := List.getLast?_eq_none_iff.1 hgl
      have hz : n1 = 0 := by rw [hn1.out, h0]; rfl
      have hq : ¬ 0 < n1 := by omega
      have hqi : decide (0 < (n1 : Int)) = false := by simp; omega
      have e1 : Hid (frst at' = 0 ∧ aftr e.l at' = -1) := Lib.hid (by unfold frst aftr; rw [hgl]; exact ⟨rfl, rfl⟩)
      replace hz := Lib.hid hz
      clear hgl h0
      go_wp2_with fail
      go_meet
      case rel => exact ⟨by rw [e1.out.1]; rfl, by rw [e1.out.2], Same.refl _ _⟩
    | some b0 =>
      have hne : at' ≠ [] := by intro h; rw [h] at hgl; cases hgl
      have hb0 : b0 ∈ at' := List.mem_of_getLast? hgl
      have hb0n := hat b0 hb0
      obtain ⟨n0, hn0⟩ : ∃ n0, n1 = n0 + 1 := ⟨n1 - 1, by have := List.length_pos_iff.2 hne; have := hn1.out; omega⟩
      subst hn0
      obtain ⟨ad, y, rfl, hy, hcl⟩ := (NE_ri hr1).get (k := n0) (by omega)
      obtain ⟨adl, u, v, t, hal, _, hyl, _, d0, d1, d2⟩ := hrd.tk' hb0n
      have hyb : y = (b0 : Int) := by
        have h1 := hy.out
        rw [List.getElem?_map] at h1
        have hgl2 := hgl
        rw [List.getLast?_eq_getElem?, show at'.length - 1 = n0 by have := hn1.out; omega] at hgl2
        rw [hgl2] at h1
        injection h1 with h1; exact h1.symm
      subst hyb
      have hq : 0 < n0 + 1 := by omega
      have hqi : decide (0 < ((n0 + 1 : Nat) : Int)) = true := by simp <;> omega
      have e1 : Hid (frst at' = b0 + 1 ∧ aftr e.l at' = t) := Lib.hid (by unfold frst aftr; rw [hgl]; exact ⟨rfl, by show tim e.l b0 = t; unfold tim; rw [hyl]; rfl⟩)
      have i1 : (0 : Int) ≤ (n0 : Int) := Int.natCast_nonneg _
      have i2 : (n0 : Int) < ((n0 + 1 : Nat) : Int) := by omega
      have i3 : (0 : Int) ≤ (b0 : Int) := Int.natCast_nonneg _
      have i4 : (b0 : Int) < (e.n : Int) := by omega
      have i5 : IntKind.i64.wrap (((n0 + 1 : Nat) : Int) - 1) = (n0 : Int) := by rw [IntKind.wrap_i64]; omega
      have i6 : IntKind.i64.wrap ((b0 : Int) + 1) = (b0 : Int) + 1 := by rw [IntKind.wrap_i64]; omega
      rw [hal] at bl
      clear hgl hne hyl
      go_wp2_with fail
      go_quiet (fail)
      go_wp2_with fail
      go_meet
      case rel => exact ⟨by rw [e1.out.1]; first | rfl | go_num, by rw [e1.out.2], (Same.refl _ _).drewN _⟩
    -- E1
  case rest =>
    obtain ⟨rfl, rfl, hsc⟩ := hcut
    obtain ⟨hI2, hT2⟩ := hI1.below (hsc.below (Nat.le_refl _) (fun _ _ h => h)) (Nat.le_refl _)
    have hT12 := hT1.trans hT2
    have hJ2 := hk.keep _ _ _ _ hJ1 (hsc.mono (fun _ _ h => h.elim))
    have hX2 := hsc.blk hX1 (fun h => h)
    have hfn : frst at' ≤ e.n := by
      unfold frst
      cases hgl : at'.getLast? with
      | none => exact Nat.zero_le _
      | some b => exact hat b (List.mem_of_getLast? hgl)
    have hz : (List.range (frst at')).flatMap (one e.l e.wd fit k at' m ns) = [] := by
      have := flat_less (f := one e.l e.wd fit k at' m ns) (Nat.zero_le (frst at')) (fun j _ hj => one_no (fun x hx => (hk.time x hx).1) (fun x _ => .inl (by simp; omega)))
      rw [this]; rfl
    have hpos := hX1.lt
    clear hsc hI1 hT1 hJ1 hX1 hT2 hr1 hrd ba bs bl
    go_wp2_with fail
    go_loopw [13] (fun i wr => ∃ (ii : Nat) (ow' : Nat → Prop) (av' mv' : Value), i = .int .i64 ii ∧ frst at' ≤ ii ∧ ii ≤ e.n ∧ Inv e at' m ⟨ow', av', mv', wr⟩ ∧ Tr e ⟨ow, .slice A1 n1 c1', mv, W⟩ ⟨ow', av', mv', wr⟩ ∧ J (pre ++ (List.range ii).flatMap (one e.l e.wd fit k at' m ns)) wr ow' ∧ Blk wr gx 69 #[.int .i64 c0, .int .i64 c1, .int .i64 c2, .int .i64 c3, .int .i64 c4, .int .i64 (N : Int)] ∧ Hid (¬ ow' gx)) (fun i _ => e.n - (intOf i).toNat)
    case atStart => exact ⟨frst at', ow, _, mv, rfl, Nat.le_refl _, hfn, hI2, hT12, by rw [hz, List.append_nil]; exact hJ2, hX2, hgxo⟩
    case round =>
      clear hI2 hT12 hJ2 hX2 hz hfn
      obtain ⟨ii, ow', av', mv', rfl, hfi, hin, hIr, hTr, hJr, hXr, hgxo'⟩ := hrel
      have hrd := hk.rd hIr
      obtain ⟨A2, n2, c2', rfl, hn2, hc2, -, hr2, -⟩ := hIr.oa.form
      have hn21 : n2 = n1 := hn2.trans hn1.out.symm
      clear hn2
      subst hn21
      have ba := Blk.cell hIr.ba 0
      have bw := Blk.cell hIr.bw 0
      have bl := Blk.cell hIr.bl 0
      simp at ba bw bl
      have i1 : (0 : Int) ≤ (ii : Int) := Int.natCast_nonneg _
      go_upto_region 7 with fail
      go_cut [72] (fun p wx => p = .bool (goB e at' ii) ∧ Same (fun _ => False) wr wx)
      case first =>
        -- B2
        by_cases hlt : ii < e.n
        · obtain ⟨adl, u, v, t, hal, _, hyl, _, d0, d1, d2⟩ := hrd.tk' hlt
          have q2 : decide ((ii : Int) < (e.n : Int)) = true := by simp; omega
          have i3 : (ii : Int) < (e.n : Int) := by omega
          rw [hal] at bl
          cases h0 : at'.head? with
          | none =>
            have hz : n2 = 0 := by rw [hn1.out, List.head?_eq_none_iff.1 h0]; rfl
            have q3 : ((n2 : Int) == 0) = true := by simp; omega
            have hg : Hid (goB e at' ii = true) := Lib.hid (by unfold goB aged; rw [hyl]; simp only [h0])
            replace hz := Lib.hid hz
            clear hyl h0
            go_quiet (fail)
            go_wp2_with fail
            go_meet
            case rel => exact ⟨by rw [hg.out], (Same.refl _ _).drewN _⟩
          | some a0 =>
            have hne : at' ≠ [] := by intro h; rw [h] at h0; cases h0
            have ha0 := hat a0 (List.mem_of_head? h0)
            have hp : 0 < n2 := by have := List.length_pos_iff.2 hne; have := hn1.out; omega
            have q3 : ((n2 : Int) == 0) = false := by simp; omega
            obtain ⟨ad, y, rfl, hy, hcl⟩ := (NE_ri hr2).get (k := 0) hp
            have hya : y = (a0 : Int) := by
              have h1 := hy.out
              rw [List.getElem?_map, ← List.head?_eq_getElem?, h0] at h1
              injection h1 with h1; exact h1.symm
            subst hya
            rw [addr_add_zero] at hcl
            obtain ⟨adl', u', v', t', hal', _, hyl', _, f0, f1, f2⟩ := hrd.tk' ha0
            rw [hal] at hal'
            injection hal' with hal'
            subst hal'
            have i4 : (0 : Int) ≤ (a0 : Int) := Int.natCast_nonneg _
            have i5 : (a0 : Int) < (e.n : Int) := by omega
            have i6 : (0 : Int) < (n2 : Int) := by omega
            have k1 := hk.time _ (List.mem_of_getElem? hyl)
            have k2 := hk.time _ (List.mem_of_getElem? hyl')
            simp only at k1 k2
            have i7 : IntKind.i64.wrap (t - t') = t - t' := by rw [IntKind.wrap_i64]; omega
            have hg : Hid (goB e at' ii = decide (t - t' ≤ e.wd)) := Lib.hid (by
              unfold goB aged tim
              simp only [hyl, h0, hyl', Option.map_some, Option.getD_some])
            clear hyl hyl' h0 hy k1 k2 hne
            cases hq : decide (t - t' ≤ e.wd) with
            | true =>
              rw [hq] at hg
              go_quiet (fail)
              go_wp2_with fail
              go_meet
              case rel => exact ⟨by rw [hg.out], (Same.refl _ _).drewN _⟩
            | false =>
              rw [hq] at hg
              go_quiet (fail)
              go_wp2_with fail
              go_meet
              case rel => exact ⟨by rw [hg.out], (Same.refl _ _).drewN _⟩
        · have q2 : decide ((ii : Int) < (e.n : Int)) = false := by simp; omega
          have hg : Hid (goB e at' ii = false) := Lib.hid (by unfold goB; rw [List.getElem?_eq_none (by have := hnl.out; omega)])
          go_quiet (fail)
          go_wp2_with fail
          go_meet
          case rel => exact ⟨by rw [hg.out], (Same.refl _ _).drewN _⟩
        -- E2
      case rest =>
        obtain ⟨rfl, hsc⟩ := hcut
        obtain ⟨wd, rfl⟩ : ∃ wd, wd = wc := ⟨wc, rfl⟩
        obtain ⟨hI3, hT3⟩ := hIr.below (hsc.below (Nat.le_refl _) (fun _ _ h => h)) (Nat.le_refl _)
        replace hI3 : Inv e at' m ⟨ow', .slice A2 n2 c2', mv', wd⟩ := hI3
        have hT13 : Tr e ⟨ow, .slice A1 n2 c1', mv, W⟩ ⟨ow', .slice A2 n2 c2', mv', wd⟩ := hTr.trans hT3
        have hJ3 := hk.keep _ _ _ _ hJr (hsc.mono (fun _ _ h => h.elim))
        have hX3 := hsc.blk hXr (fun h => h)
        clear hrd hr2 ba bw bl hIr hTr hJr hXr hT3 hsc
        cases hgo : goB e at' ii with
        | false =>
          -- B3
          have hL : Hid (sub e.l e.wd fit (k + 1) at' m ns = (List.range ii).flatMap (one e.l e.wd fit k at' m ns)) := Lib.hid (by
            rw [sub_succ, hnl.out]
            exact flat_less hin (go_on hk hgo))
          clear hgo
          go_wp2_with fail
          go_ret
          exact ⟨ow', _, _, hI3, hT13, .inl ⟨rfl, by rw [hL.out]; exact hJ3⟩⟩
          -- E3
        | true =>
          have hlt : ii < e.n := by
            rcases Nat.lt_or_ge ii e.n with h | h
            · exact h
            · unfold goB at hgo
              rw [List.getElem?_eq_none (by have := hnl.out; omega)] at hgo; cases hgo
          have hrd := hk.rd hI3
          obtain ⟨adl, u, v, t, hal, hlb, hyl, _, d0, d1, d2⟩ := hrd.tk' hlt
          have ht0 := hk.time _ (List.mem_of_getElem? hyl)
          simp only at ht0
          have hone : one e.l e.wd fit k at' m ns ii = if decide (aftr e.l at' < t) = true then (match add ns u v with
              | none => []
              | some (ns', s) => if fit (m ++ [s]) = true then sub e.l e.wd fit k (at' ++ [ii]) (m ++ [s]) ns' else []) else [] := by
            unfold one
            rw [hyl]
            simp only
            rw [nextB_eq _ _ _ _ _ ht0.1, decide_eq_true hfi]
            have : aged e.l e.wd at' t = true := by unfold goB at hgo; rw [hyl] at hgo; exact hgo
            simp only [this, Bool.true_and]
            rfl
          replace hone := Lib.hid hone
          have x0 := Blk.cell hX3 0
          have x1 := Blk.cell hX3 1
          have x2 := Blk.cell hX3 2
          have x3 := Blk.cell hX3 3
          have x4 := Blk.cell hX3 4
          have x5 := Blk.cell hX3 5
          simp at x0 x1 x2 x3 x4 x5
          have hgx := hX3.lt
          have bl := Blk.cell hI3.bl 0
          simp at bl
          rw [hal] at bl
          have hbl : e.b < wd.heap.size := hI3.bl.lt
          replace hlb : adl.block < wd.heap.size := hlb
          have i2 : (0 : Int) ≤ (ii : Int) := Int.natCast_nonneg _
          have i3 : (ii : Int) < (e.n : Int) := by omega
          have hbA := (Below.refl wd.heap.size wd).alloc (Nat.le_refl _) (.cells #[.int .i64 c0, .int .i64 c1, .int .i64 c2, .int .i64 c3, .int .i64 c4, .int .i64 (N : Int)] 69)
          have hYb := Blk.new wd 69 #[.int .i64 c0, .int .i64 c1, .int .i64 c2, .int .i64 c3, .int .i64 c4, .int .i64 (N : Int)]
          have hYn : NM (wd.alloc (.cells #[.int .i64 c0, .int .i64 c1, .int .i64 c2, .int .i64 c3, .int .i64 c4, .int .i64 (N : Int)] 69)) wd.heap.size ns := ⟨[c0, c1, c2, c3, c4], rfl, by rw [hN.out]; exact hYb, by rw [hN.out]; exact ht, by have := hk.four; have := hN.out; omega⟩
          have hns4 : ns.length ≤ 4 := by have := hk.four; have := hN.out; omega
          have hwd8 : Hid (e.b + 8 ≤ wd.heap.size) := Lib.hid hI3.big
          have hI3a : Hid (∀ k, (Value.slice A2 n2 c2').ownBlock = some k → k < wd.heap.size) := Lib.hid fun k h => (hI3.alt (k := k) h).2
          have hI3m : Hid (∀ k, mv'.ownBlock = some k → k < wd.heap.size) := Lib.hid fun k h => (hI3.mlt (k := k) h).2
          clear hgo hrd hyl
          go_upto_region 10 with fail
          have bl' := (hbA.cell (p := ⟨e.b, 0, none⟩) hbl).trans bl
          have d0' := (hbA.cell (p := adl.add (ii * 3)) (by rw [block_of_add]; exact hlb)).trans d0
          have d1' := (hbA.cell (p := ⟨(adl.add (ii * 3)).block, (adl.add (ii * 3)).off + 1, none⟩) (by show (adl.add (ii * 3)).block < _; rw [block_of_add]; exact hlb)).trans d1
          clear x0 x1 x2 x3 x4 x5 hYb
          generalize wd.alloc (.cells #[.int .i64 c0, .int .i64 c1, .int .i64 c2, .int .i64 c3, .int .i64 c4, .int .i64 (N : Int)] 69) = wy at *
          generalize hgy : wd.heap.size = gy at *
          replace hgy := Lib.hid hgy
          have hlby : (adl.add (ii * 3)).block < gy := by rw [block_of_add]; exact hlb
          have BN : Below gy wy wy := Below.refl _ _
          have hgyl := hYn.lt
          have ka := Lib.hid fun w h => nadd_any gy u v ns w h hns4
          have hkb : ∃ (ok : Bool) (s1 s2 : Int) (ns2 : List Int), (∀ w, NM w gy ns → Calls Try.prog 39 #[.pointer (some ⟨gy, 0, none⟩), .int .i64 u, .int .i64 v] w fun r w' => w.grownBy w' (some gy) ∧ r = .returned (.tuple #[.agg #[.int .i64 s1, .int .i64 s2], .bool ok]) ∧ NM w' gy ns2) ∧
              ((ok = false ∧ add ns u v = none) ∨ (ok = true ∧ add ns u v = some (ns2, (s1, s2)))) := by
            cases hadd : add ns u v with
            | none =>
              refine ⟨false, 0, 0, ns, fun w h => (ka.out w h).mono fun r w' hr => ?_, .inl ⟨rfl, rfl⟩⟩
              obtain ⟨hg, h1 | ⟨n2, j1, j2, h1, h2, h3⟩⟩ := hr
              · exact ⟨hg, h1.2.1, h1.2.2⟩
              · rw [hadd] at h1; cases h1
            | some q =>
              obtain ⟨ns', s1, s2⟩ := q
              refine ⟨true, s1, s2, ns', fun w h => (ka.out w h).mono fun r w' hr => ?_, .inr ⟨rfl, rfl⟩⟩
              obtain ⟨hg, h1 | ⟨n2, j1, j2, h1, h2, h3⟩⟩ := hr
              · rw [hadd] at h1; cases h1.1
              · rw [hadd] at h1
                injection h1 with h1; injection h1 with h1 h1'; injection h1' with h1' h1''
                subst h1; subst h1'; subst h1''
                exact ⟨hg, h2, h3⟩
          obtain ⟨ok, s1, s2, ns2, kb, hcase⟩ := hkb
          replace kb := Lib.hid kb
          replace hcase := Lib.hid hcase
          clear ka
          go_cut [15, 16] (fun p q wx => ∃ gs : Nat, p = .pointer (some ⟨gs, 0, none⟩) ∧ q = .bool ok ∧ Blk wx gs 34 #[.int .i64 s1, .int .i64 s2] ∧ NM wx gy ns2 ∧ Below gy wy wx ∧ wy.heap.size ≤ gs)
          case first =>
            -- B4
            have hnb := Blk.new wy 34 #[.int .i64 0, .int .i64 0]
            go_loud (go_region_held3 (fun w' => w'.cell? ⟨e.b, 0, none⟩ = some (.slice (some adl) e.n e.c) ∧ w'.cell? (adl.add (ii * 3)) = some (.int .i64 u) ∧ w'.cell? ⟨(adl.add (ii * 3)).block, (adl.add (ii * 3)).off + 1, none⟩ = some (.int .i64 v))
              ((first | (exact ⟨(BN.cell (p := ⟨e.b, 0, none⟩) hbl).trans bl', (BN.cell (p := adl.add (ii * 3)) hlby).trans d0', (BN.cell (p := ⟨(adl.add (ii * 3)).block, (adl.add (ii * 3)).off + 1, none⟩) hlby).trans d1'⟩) | (exact ⟨keepA BN hgyl (p := ⟨e.b, 0, none⟩) hbl bl', keepA BN hgyl (p := adl.add (ii * 3)) hlby d0', keepA BN hgyl (p := ⟨(adl.add (ii * 3)).block, (adl.add (ii * 3)).off + 1, none⟩) hlby d1'⟩) | (exact ⟨keepA BN hz4 (p := ⟨e.b, 0, none⟩) hbl bl', keepA BN hz4 (p := adl.add (ii * 3)) hlby d0', keepA BN hz4 (p := ⟨(adl.add (ii * 3)).block, (adl.add (ii * 3)).off + 1, none⟩) hlby d1'⟩) | (exact ⟨keepS BN (Nat.le_of_lt hgyl) (p := ⟨e.b, 0, none⟩) hbl bl' _ _ _ _, keepS BN (Nat.le_of_lt hgyl) (p := adl.add (ii * 3)) hlby d0' _ _ _ _, keepS BN (Nat.le_of_lt hgyl) (p := ⟨(adl.add (ii * 3)).block, (adl.add (ii * 3)).off + 1, none⟩) hlby d1' _ _ _ _⟩) | ((repeat' apply And.intro) <;> (go_keep; done))))
              ((first
                | (go_at_call 39; (with_reducible refine (kb.out _ (by first | exact hYn.drew | exact hYn)).mono ?_); rintro r w4 ⟨hg4, rfl, hY4⟩; replace BN : Below gy wy w4 := (by exact BN.drew.trans (grown_is_below hg4 (Nat.le_refl _) (Nat.le_of_lt hgyl))); have hz4 : gy < w4.heap.size := Nat.lt_of_lt_of_le hgyl BN.size; have hs4 : wy.heap.size ≤ w4.heap.size := BN.size)
                | (go_at_call 39; (with_reducible refine (kb.out _ ((hYn.alloc _).drew)).mono ?_); rintro r w4 ⟨hg4, rfl, hY4⟩; replace BN : Below gy wy w4 := (by exact (BN.alloc (Nat.le_of_lt hgyl) _).drew.trans (grown_is_below hg4 (Nat.le_refl _) (by simp; omega))); have hz4 : gy < w4.heap.size := Nat.lt_of_lt_of_le hgyl BN.size; have hnb4 : Blk w4 wy.heap.size 34 #[.int .i64 0, .int .i64 0] := (by exact (Same.of_grown hg4).blk hnb.drew (fun h => by injection h with h; omega)); obtain ⟨z0, z1, z2, z3, z4⟩ := cel2 hnb4)
                | fail)))
            all_goals
              go_wp2_with fail
              go_meet
              case rel =>
                first
                  | exact ⟨_, rfl, rfl, Blk.new _ _ _, hY4.alloc _, BN.alloc (Nat.le_of_lt hz4) _, hs4⟩
                  | exact ⟨_, rfl, rfl, Blk.set (Blk.set hnb4 0 (.int .i64 s1)) 1 (.int .i64 s2), hY4.below (((Below.refl (gy + 1) w4).setCell (p := ⟨wy.heap.size, 0, none⟩) hgyl _).setCell (p := ⟨wy.heap.size, 1, none⟩) hgyl _) (Nat.lt_succ_self _), (BN.setCell (p := ⟨wy.heap.size, 0, none⟩) (Nat.le_of_lt hgyl) _).setCell (p := ⟨wy.heap.size, 1, none⟩) (Nat.le_of_lt hgyl) _, Nat.le_refl _⟩
            -- E4
          case rest =>
            obtain ⟨gs, rfl, rfl, hZ, hY5, BY, hgs⟩ := hcut
            have BD := hbA.trans BY
            obtain ⟨hI5, hT5⟩ := hI3.below BD (Nat.le_of_eq hgy.out)
            replace hI5 : Inv e at' m ⟨ow', .slice A2 n2 c2', mv', wc⟩ := hI5
            have hT15 : Tr e ⟨ow, .slice A1 n2 c1', mv, W⟩ ⟨ow', .slice A2 n2 c2', mv', wc⟩ := hT13.trans hT5
            have hJ5 := hk.keep _ _ _ _ hJ3 (Same.of_below BD (Nat.le_of_eq hgy.out) _)
            have hX5 := hX3.below BD hgx
            have d25 := (BD.cell (p := ⟨(adl.add (ii * 3)).block, (adl.add (ii * 3)).off + 2, none⟩) hlby).trans d2
            have hsd := BD.size
            have hgyc := hY5.lt
            have hgsc := hZ.lt
            clear hI3 hT13 hT5 hJ3 hX3 d0 d1 d2 d0' d1' bl bl' BY BN hbA hYn
            obtain ⟨A3, n3, k3, rfl, hn3, hc3, -, -, -⟩ := hI5.om.form
            replace hn3 := Lib.hid hn3
            have hmlt := fun k h => hI5.mlt (k := k) h
            have hmy : ∀ k, (Value.slice A3 n3 k3).ownBlock = some k → k < gy := fun k h => by have := hI3m.out k h; omega
            have hadb : adl.block < e.b := by
              obtain ⟨ad', he', hb'⟩ := hk.tick.block_lt (by omega)
              rw [hal] at he'; injection he' with he'; subst he'
              have := hI5.eb; omega
            have hw5 := hI5.big
            have bl := Blk.cell hI5.bl 0
            have bf := Blk.cell hI5.bf 0
            have bm := Blk.cell hI5.bm 0
            simp at bl bf bm
            rw [hal] at bl
            obtain ⟨z0, z1, z2, z3, z4⟩ := cel2 hZ
            replace hw5 : e.b + 8 ≤ wc.heap.size := hw5
            have htb : (⟨(adl.add (ii * 3)).block, (adl.add (ii * 3)).off + 2, none⟩ : Addr).block < e.b := by show (adl.add (ii * 3)).block < e.b; rw [block_of_add]; exact hadb
            have hKS : Hid (∀ W', Same (fun k => (Value.slice A3 n3 k3).ownBlock = some k) wc W' → W'.cell? ⟨e.b, 0, none⟩ = some (.slice (some adl) e.n e.c) ∧ W'.cell? ⟨(adl.add (ii * 3)).block, (adl.add (ii * 3)).off + 2, none⟩ = some (.int .i64 t) ∧ W'.cell? ⟨e.b + 3, 0, none⟩ = some (.func (.func e.F) #[] e.cF) ∧ W'.cell? ⟨e.b + 6, 0, none⟩ = some (.slice A3 n3 k3) ∧ W'.cell? ⟨gs, 0, none⟩ = some (.int .i64 s1) ∧ W'.cell? ⟨gs, 1, none⟩ = some (.int .i64 s2)) := Lib.hid fun W' h =>
              ⟨h.cell (p := ⟨e.b, 0, none⟩) (by show e.b < _; omega) (fun he => by have := hmlt _ he; simp only at this; omega) bl, h.cell (p := ⟨(adl.add (ii * 3)).block, (adl.add (ii * 3)).off + 2, none⟩) (by omega) (fun he => by have := hmlt _ he; omega) d25,
               h.cell (p := ⟨e.b + 3, 0, none⟩) (by show e.b + 3 < _; omega) (fun he => by have := hmlt _ he; simp only at this; omega) bf, h.cell (p := ⟨e.b + 6, 0, none⟩) (by show e.b + 6 < _; omega) (fun he => by have := hmlt _ he; simp only at this; omega) bm,
               h.cell (p := ⟨gs, 0, none⟩) hgsc (fun he => by have := hmy _ he; simp only at this; omega) z0, h.cell (p := ⟨gs, 1, none⟩) hgsc (fun he => by have := hmy _ he; simp only at this; omega) z1⟩
            have hGo : Hid (∀ W', Same (fun k => (Value.slice A3 n3 k3).ownBlock = some k) wc W' → OS SE 34 W' (e.b + 8) (.slice A3 n3 k3) m → Inv e at' m ⟨ow', .slice A2 n2 c2', .slice A3 n3 k3, W'⟩ ∧ Tr e ⟨ow, .slice A1 n2 c1', mv, W⟩ ⟨ow', .slice A2 n2 c2', .slice A3 n3 k3, W'⟩ ∧ J (pre ++ (List.range ii).flatMap (one e.l e.wd fit k at' m ns)) W' ow' ∧
              Blk W' gx 69 #[.int .i64 c0, .int .i64 c1, .int .i64 c2, .int .i64 c3, .int .i64 c4, .int .i64 (N : Int)] ∧ Blk W' gs 34 #[.int .i64 s1, .int .i64 s2] ∧ NM W' gy ns2) := Lib.hid fun W' hs hom => by
              obtain ⟨j1, j2⟩ := hI5.go hs hom
              refine ⟨j1, hT15.trans j2, hk.keep _ _ _ _ hJ5 (hs.mono (fun k _ h1 => hI5.nm k h1)), hs.blk hX5 (fun h => (hI5.om.blk_ne hX5 (by decide)) h), hs.blk hZ (fun h => by have := hmy _ h; omega), hY5.same hs (fun h => by have := hmy _ h; omega)⟩
            have hom5 : OS SE 34 wc (e.b + 8) (.slice A3 n3 k3) m := hI5.om
            have hmK : m.length + 1 ≤ e.K := by omega
            have hK4 := hk.four
            replace hmlt := Lib.hid hmlt
            replace hmy := Lib.hid hmy
            clear hI5 hT15 hJ5 hX5 hY5
            go_upto_region 11 with fail
            go_cut [109] (fun p wx => p = .bool (!(decide (aftr e.l at' < t) && ok && fit (m ++ [(s1, s2)]))) ∧ Inv e at' m ⟨ow', .slice A2 n2 c2', .slice A3 n3 k3, wx⟩ ∧ Tr e ⟨ow, .slice A1 n2 c1', mv, W⟩ ⟨ow', .slice A2 n2 c2', .slice A3 n3 k3, wx⟩ ∧ J (pre ++ (List.range ii).flatMap (one e.l e.wd fit k at' m ns)) wx ow' ∧
              Blk wx gx 69 #[.int .i64 c0, .int .i64 c1, .int .i64 c2, .int .i64 c3, .int .i64 c4, .int .i64 (N : Int)] ∧ Blk wx gs 34 #[.int .i64 s1, .int .i64 s2] ∧ NM wx gy ns2)
            case first =>
              -- B5
              obtain ⟨q1, q2, q3, q4, q5, q6⟩ := hKS.out wc (Same.refl _ _)
              clear bl bf bm z0 z1 d25
              by_cases hta : t ≤ aftr e.l at'
              · have q7 : decide (t ≤ aftr e.l at') = true := by simp [hta]
                have hv : Hid ((!(decide (aftr e.l at' < t) && ok && fit (m ++ [(s1, s2)]))) = true) := Lib.hid (by rw [decide_eq_false (by omega)]; rfl)
                go_quiet (fail)
                go_wp2_with fail
                go_meet
                case rel => exact ⟨by rw [hv.out], hGo.out _ ((Same.refl _ _).drewN _) (hom5.drewN _)⟩
              · have q7 : decide (t ≤ aftr e.l at') = false := by simp; omega
                cases ok with
                | false =>
                  have hv : Hid ((!(decide (aftr e.l at' < t) && false && fit (m ++ [(s1, s2)]))) = true) := Lib.hid (by rw [Bool.and_false]; rfl)
                  go_quiet (fail)
                  go_wp2_with fail
                  go_meet
                  case rel => exact ⟨by rw [hv.out], hGo.out _ ((Same.refl _ _).drewN _) (hom5.drewN _)⟩
                | true =>
                  have hv : Hid ((!(decide (aftr e.l at' < t) && true && fit (m ++ [(s1, s2)]))) = !fit (m ++ [(s1, s2)])) := Lib.hid (by rw [decide_eq_true (by omega)]; rfl)
                  have BX : Same (fun k => (Value.slice A3 n3 k3).ownBlock = some k) wc wc := Same.refl _ _
                  have hen := hk.enterF
                  go_region_held3 (fun W' => W'.cell? ⟨e.b, 0, none⟩ = some (.slice (some adl) e.n e.c) ∧ W'.cell? ⟨(adl.add (ii * 3)).block, (adl.add (ii * 3)).off + 2, none⟩ = some (.int .i64 t) ∧ W'.cell? ⟨e.b + 3, 0, none⟩ = some (.func (.func e.F) #[] e.cF) ∧ W'.cell? ⟨e.b + 6, 0, none⟩ = some (.slice A3 n3 k3) ∧ W'.cell? ⟨gs, 0, none⟩ = some (.int .i64 s1) ∧ W'.cell? ⟨gs, 1, none⟩ = some (.int .i64 s2))
                    ((first | exact hKS.out _ BX | exact hKS.out _ BX.drew | exact hKS.out _ (BX.drew.alloc _) | exact hKS.out _ (BX.alloc _).drew | exact hKS.out _ (BX.drew.alloc _).drew))
                    ((first
                      | (refine step_push_keep tyS (by rfl) (.tmp 103) (.tmp 105) (by rfl) (by rfl) (by rfl) (hom5.alloc _).drew (RS.blk (xs := [(s1, s2)]) (Blk.new _ _ _).drew rfl rfl) (by unfold maxLen; omega) (by omega) (by simp; omega) ?_; intro v7 w7 ho7 hm7 hg7 hat7; replace BX : Same (fun k => (Value.slice A3 n3 k3).ownBlock = some k) wc w7 := ((BX.alloc _).drew.trans (Same.of_grown hg7) (fun k _ h => h)); obtain ⟨A7, n7, c7, rfl, hn7, hc7, -, hr7, -⟩ := ho7.form; have hn7K : n7 ≤ e.K := (by rw [List.length_append, List.length_singleton] at hn7; omega); have hf7 := hk.fits at' m ⟨ow', .slice A2 n2 c2', .slice A3 n3 k3, w7⟩ A7 n7 c7 (m ++ [(s1, s2)]) (hGo.out w7 BX hm7).1 hr7 hc7 hn7K; replace hn7 := Lib.hid hn7; replace hf7 := Lib.hid hf7)
                      | ((with_reducible refine (hf7.out).mono ?_); rintro r w8 ⟨rfl, hb8⟩; replace BX : Same (fun k => (Value.slice A3 n3 k3).ownBlock = some k) wc w8 := (BX.trans (Same.of_below hb8 (Nat.le_refl _) (fun _ => False)) (fun _ _ h => h.elim)); have hm8 := hm7.below hb8 (Nat.le_refl _))
                      | fail))
                  all_goals
                    go_wp2_with fail
                    go_meet
                    case rel => exact ⟨by rw [hv.out], hGo.out _ BX hm8⟩
              -- E5
            case rest =>
              obtain ⟨rfl, hI6, hT6, hJ6, hX6, hZ6, hY6⟩ := hcut
              have hmyk := Lib.hid hmy
              have hay : Hid (∀ k, (Value.slice A2 n2 c2').ownBlock = some k → k < gy) := Lib.hid fun k h => by have := hI3a.out k h; have := hgy.out; omega
              clear hGo hKS hom5 hmlt hmy bl bf bm z0 z1 z2 z3 z4 hZ d25 htb BD
              cases hg : (decide (aftr e.l at' < t) && ok && fit (m ++ [(s1, s2)])) with
              | false =>
                -- B6
                have h1 : one e.l e.wd fit k at' m ns ii = [] := by
                  rw [hone.out]
                  rcases hcase.out with ⟨c1, c2⟩ | ⟨c1, c2⟩
                  · rw [c2]; split <;> rfl
                  · rw [c2]
                    rw [c1, Bool.and_true] at hg
                    simp only
                    by_cases h2 : decide (aftr e.l at' < t) = true
                    · rw [if_pos h2]
                      rw [h2, Bool.true_and] at hg
                      rw [if_neg (by rw [hg]; simp)]
                    · rw [if_neg h2]
                have h2 : pre ++ (List.range (ii + 1)).flatMap (one e.l e.wd fit k at' m ns) = pre ++ (List.range ii).flatMap (one e.l e.wd fit k at' m ns) := by rw [flat_next, h1, List.append_nil]
                replace h2 := Lib.hid h2
                clear h1 hg hone hcase
                go_wp2_with fail
                go_roundw
                case rel =>
                  have hfin : ∃ (jj : Nat) (ow' : Nat → Prop) (av' mv' : Value), Value.int .i64 ((ii : Int) + 1) = .int .i64 jj ∧ frst at' ≤ jj ∧ jj ≤ e.n ∧ Inv e at' m ⟨ow', av', mv', wc⟩ ∧ Tr e ⟨ow, .slice A1 n2 c1', mv, W⟩ ⟨ow', av', mv', wc⟩ ∧ J (pre ++ (List.range jj).flatMap (one e.l e.wd fit k at' m ns)) wc ow' ∧ Blk wc gx 69 #[.int .i64 c0, .int .i64 c1, .int .i64 c2, .int .i64 c3, .int .i64 c4, .int .i64 (N : Int)] ∧ Hid (¬ ow' gx) :=
                    ⟨ii + 1, ow', _, _, by go_num, by omega, by omega, hI6, hT6, by rw [h2.out]; exact hJ6, hX6, hgxo'⟩
                  first
                    | exact hfin
                    | exact ⟨_, hfin, rfl⟩
                    | (trace_state; exact (0 : Nat))
                case measure => simp [intOf]; omega
                -- E6
              | true =>
                rw [Bool.and_eq_true, Bool.and_eq_true] at hg
                obtain ⟨⟨g1, g2⟩, g3⟩ := hg
                have hadd : add ns u v = some (ns2, (s1, s2)) := by
                  rcases hcase.out with ⟨c1, c2⟩ | ⟨c1, c2⟩
                  · rw [c1] at g2; cases g2
                  · exact c2
                have hone2 : one e.l e.wd fit k at' m ns ii = sub e.l e.wd fit k (at' ++ [ii]) (m ++ [(s1, s2)]) ns2 := by
                  rw [hone.out, if_pos g1, hadd]
                  simp only
                  rw [if_pos g3]
                have hns2 : ns2.length ≤ at'.length + 2 := by
                  have h1 := add_vs hadd
                  have h2 := vs_pos h1
                  unfold vs at h1
                  have hN' := hN.out
                  split at h1
                  · split at h1
                    · injection h1 with h1; omega
                    · cases h1
                  · split at h1
                    · cases h1
                    · injection h1 with h1
                      split at h1 <;> omega
                have hsm2 := Lib.hid (hsm.out.push hadd (by omega))
                replace hone2 := Lib.hid hone2
                clear g1 g2 g3 hone hcase hadd
                have ba := Blk.cell hI6.ba 0
                have bm := Blk.cell hI6.bm 0
                have fa := Blk.frozen hI6.ba 0
                have fm := Blk.frozen hI6.bm 0
                simp at ba bm fa fm
                obtain ⟨z0, z1, z2, z3, z4⟩ := cel2 hZ6
                go_upto_region 12 with fail
                go_cut [] (fun wx => ∃ va vm : Value, Inv e (at' ++ [ii]) (m ++ [(s1, s2)]) ⟨ow', va, vm, wx⟩ ∧ Tr e ⟨ow, .slice A1 n2 c1', mv, W⟩ ⟨ow', va, vm, wx⟩ ∧ J (pre ++ (List.range ii).flatMap (one e.l e.wd fit k at' m ns)) wx ow' ∧
                  Blk wx gx 69 #[.int .i64 c0, .int .i64 c1, .int .i64 c2, .int .i64 c3, .int .i64 c4, .int .i64 (N : Int)] ∧ NM wx gy ns2)
                case first =>
                  -- B7
                  have hC : ∀ W', Same (fun k => (Value.slice A2 n2 c2').ownBlock = some k ∨ (Value.slice A3 n3 k3).ownBlock = some k) wc W' → W'.cell? ⟨e.b + 5, 0, none⟩ = some (.slice A2 n2 c2') ∧ W'.cell? ⟨e.b + 6, 0, none⟩ = some (.slice A3 n3 k3) ∧ W'.cell? ⟨gs, 0, none⟩ = some (.int .i64 s1) ∧ W'.cell? ⟨gs, 1, none⟩ = some (.int .i64 s2) ∧ W'.frozen? ⟨e.b + 5, 0, none⟩ = false ∧ W'.frozen? ⟨e.b + 6, 0, none⟩ = false := fun W' h => by
                    have x5 : ¬ ((Value.slice A2 n2 c2').ownBlock = some (e.b + 5) ∨ (Value.slice A3 n3 k3).ownBlock = some (e.b + 5)) := fun he => by
                      rcases he with he | he
                      · have := hI6.alt he; simp only at this; omega
                      · have := hI6.mlt he; simp only at this; omega
                    have x6 : ¬ ((Value.slice A2 n2 c2').ownBlock = some (e.b + 6) ∨ (Value.slice A3 n3 k3).ownBlock = some (e.b + 6)) := fun he => by
                      rcases he with he | he
                      · have := hI6.alt he; simp only at this; omega
                      · have := hI6.mlt he; simp only at this; omega
                    have xs : ¬ ((Value.slice A2 n2 c2').ownBlock = some gs ∨ (Value.slice A3 n3 k3).ownBlock = some gs) := fun he => by
                      rcases he with he | he
                      · have := hay.out _ he; omega
                      · have := hmyk.out _ he; omega
                    have b5 := h.blk hI6.ba x5
                    have b6 := h.blk hI6.bm x6
                    have bs := h.blk hZ6 xs
                    exact ⟨Blk.cell b5 0, Blk.cell b6 0, Blk.cell bs 0, Blk.cell bs 1, Blk.frozen b5 0, Blk.frozen b6 0⟩
                  have hTC : ∀ (j : Nat) (w' : World), Same (fun k => (Value.slice A2 n2 c2').ownBlock = some k ∨ (Value.slice A3 n3 k3).ownBlock = some k) wc w' → (j = 9 ∨ (w'.cell? ⟨e.b + 6, 0, none⟩ = some (.slice A3 n3 k3) ∧ w'.cell? ⟨gs, 0, none⟩ = some (.int .i64 s1) ∧ w'.cell? ⟨gs, 1, none⟩ = some (.int .i64 s2))) ∧ (j = 9 ∨ j = 8 ∨ j = 4 ∨ j = 5 ∨ w'.cell? ⟨e.b + 5, 0, none⟩ = some (.slice A2 n2 c2')) := fun j w' h => by
                    obtain ⟨r1, r2, r3, r4, r5, r6⟩ := hC w' h
                    exact ⟨.inr ⟨r2, r3, r4⟩, .inr (.inr (.inr (.inr r1)))⟩
                  have hbx : Hid (∀ k, k < e.b + 8 → ¬ ((Value.slice A2 n2 c2').ownBlock = some k ∨ (Value.slice A3 n3 k3).ownBlock = some k)) := Lib.hid fun k hk he => by
                    rcases he with he | he
                    · have := hI6.alt he; omega
                    · have := hI6.mlt he; omega
                  have hxs : Hid (¬ ((Value.slice A2 n2 c2').ownBlock = some gs ∨ (Value.slice A3 n3 k3).ownBlock = some gs)) := Lib.hid fun he => by
                    rcases he with he | he
                    · have := hay.out _ he; omega
                    · have := hmyk.out _ he; omega
                  have hnow : Hid (∀ k, (k = e.b + 5 ∨ k = e.b + 6 ∨ (Value.slice A2 n2 c2').ownBlock = some k ∨ (Value.slice A3 n3 k3).ownBlock = some k) → ¬ ow' k) := Lib.hid fun k he => by
                    rcases he with he | he | he | he
                    · rw [he]; exact hI6.box (by omega) (by omega)
                    · rw [he]; exact hI6.box (by omega) (by omega)
                    · exact hI6.na k he
                    · exact hI6.nm k he
                  have hgsb : e.b + 8 ≤ gs := by have := hwd8.out; have := hgy.out; omega
                  have hngx : Hid (¬ (gx = e.b + 5 ∨ gx = e.b + 6 ∨ (Value.slice A2 n2 c2').ownBlock = some gx ∨ (Value.slice A3 n3 k3).ownBlock = some gx)) := Lib.hid fun he => by
                    rcases he with he | he | he | he
                    · exact hX6.ne_box hI6.ba (by decide) he
                    · exact hX6.ne_box hI6.bm (by decide) he
                    · exact hI6.oa.blk_ne hX6 (by decide) he
                    · exact hI6.om.blk_ne hX6 (by decide) he
                  have hngy : Hid (¬ (gy = e.b + 5 ∨ gy = e.b + 6 ∨ (Value.slice A2 n2 c2').ownBlock = some gy ∨ (Value.slice A3 n3 k3).ownBlock = some gy)) := Lib.hid fun he => by
                    have hgyb : e.b + 8 ≤ gy := by have := hwd8.out; have := hgy.out; omega
                    rcases he with he | he | he | he
                    · omega
                    · omega
                    · have := hay.out _ he; omega
                    · have := hmyk.out _ he; omega
                  replace hTC := Lib.hid hTC
                  replace hC := Lib.hid hC
                  refine wp_region_noPanic ?_
                  obtain ⟨TT, hTT⟩ : ∃ TT : Nat → World → Prop, ∀ j w', TT j w' ↔ ((j = 9 ∨ (w'.cell? ⟨e.b + 6, 0, none⟩ = some (.slice A3 n3 k3) ∧ w'.cell? ⟨gs, 0, none⟩ = some (.int .i64 s1) ∧ w'.cell? ⟨gs, 1, none⟩ = some (.int .i64 s2))) ∧ (j = 9 ∨ j = 8 ∨ j = 4 ∨ j = 5 ∨ w'.cell? ⟨e.b + 5, 0, none⟩ = some (.slice A2 n2 c2'))) := ⟨fun j w' => _, fun _ _ => Iff.rfl⟩
                  replace hTT := Lib.hid hTT
                  refine wp_region_T (T := TT) (by kernel_rfl) ?_
                  obtain ⟨r1, r2, r3, r4, r5, r6⟩ := hC.out wc.drew (Same.refl _ _).drew
                  refine wpAnyT_take (i := 4) (S := fun w' => w'.cell? ⟨e.b + 6, 0, none⟩ = some (.slice A3 n3 k3) ∧ w'.cell? ⟨gs, 0, none⟩ = some (.int .i64 s1) ∧ w'.cell? ⟨gs, 1, none⟩ = some (.int .i64 s2)) (v := .slice A3 n3 k3) rfl (by kernel_rfl) (by kernel_rfl) (by kernel_rfl) (fun _ _ _ h => h) (fun w' h => (hTT.out _ _).2 ⟨.inr h, .inr (.inr (.inl rfl))⟩) (fun j oj hoj hji hun hno w' hT => ?_) (Or.inl ⟨by rfl, ?_⟩) ⟨r2, r3, r4⟩ ?_
                  case refine_1 =>
                    replace hT := (hTT.out _ _).1 hT
                    rcases hT.1 with h9 | h9
                    · subst h9
                      obtain rfl := Option.some.inj hoj
                      exact ((hno ⟨4, .phase⟩ (by simp) rfl) rfl).elim
                    · exact h9
                  case refine_2 =>
                    intro w' hS
                    obtain ⟨y1, y2, y3⟩ := hS
                    go_simp
                  (try simp only [Act.put, List.setIfInBounds_toArray, List.set_cons_zero, List.set_cons_succ])
                  refine wpAnyT_take (i := 5) (S := fun w' => w'.cell? ⟨e.b + 6, 0, none⟩ = some (.slice A3 n3 k3) ∧ w'.cell? ⟨gs, 0, none⟩ = some (.int .i64 s1) ∧ w'.cell? ⟨gs, 1, none⟩ = some (.int .i64 s2)) (v := .agg #[.int .i64 s1, .int .i64 s2]) rfl (by kernel_rfl) (by kernel_rfl) (by kernel_rfl) (fun _ _ _ h => h) (fun w' h => (hTT.out _ _).2 ⟨.inr h, .inr (.inr (.inr (.inl rfl)))⟩) (fun j oj hoj hji hun hno w' hT => ?_) (Or.inl ⟨by rfl, ?_⟩) ⟨r2, r3, r4⟩ ?_
                  case refine_1 =>
                    replace hT := (hTT.out _ _).1 hT
                    rcases hT.1 with h9 | h9
                    · subst h9
                      obtain rfl := Option.some.inj hoj
                      exact ((hno ⟨5, .phase⟩ (by simp) rfl) rfl).elim
                    · exact h9
                  case refine_2 =>
                    intro w' hS
                    obtain ⟨y1, y2, y3⟩ := hS
                    go_simp
                  (try simp only [Act.put, List.setIfInBounds_toArray, List.set_cons_zero, List.set_cons_succ])
                  refine wpAnyT_take (i := 0) (S := fun w' => w'.cell? ⟨e.b + 5, 0, none⟩ = some (.slice A2 n2 c2') ∧ w'.cell? ⟨e.b + 6, 0, none⟩ = some (.slice A3 n3 k3) ∧ w'.cell? ⟨gs, 0, none⟩ = some (.int .i64 s1) ∧ w'.cell? ⟨gs, 1, none⟩ = some (.int .i64 s2)) (v := .slice A2 n2 c2') rfl (by kernel_rfl) (by kernel_rfl) (by kernel_rfl) (fun _ _ _ h => h) (fun w' h => (hTT.out _ _).2 ⟨.inr h.2, .inr (.inr (.inr (.inr h.1)))⟩) (fun j oj hoj hji hun hno w' hT => ?_) (Or.inl ⟨by rfl, ?_⟩) ⟨r1, r2, r3, r4⟩ ?_
                  case refine_1 =>
                    replace hT := (hTT.out _ _).1 hT
                    rcases hT.1 with h9 | h9
                    · subst h9
                      obtain rfl := Option.some.inj hoj
                      exact ((hno ⟨0, .phase⟩ (by simp) rfl) rfl).elim
                    · rcases hT.2 with h8 | h8 | h8 | h8 | h8
                      · subst h8
                        obtain rfl := Option.some.inj hoj
                        exact ((hno ⟨0, .phase⟩ (by simp) rfl) rfl).elim
                      · subst h8
                        obtain rfl := Option.some.inj hoj
                        exact ((hno ⟨0, .phase⟩ (by simp) rfl) rfl).elim
                      · subst h8
                        exact absurd hun (by decide)
                      · subst h8
                        exact absurd hun (by decide)
                      · exact ⟨h8, h9⟩
                  case refine_2 =>
                    intro w' hS
                    obtain ⟨y1, y2, y3, y4⟩ := hS
                    go_simp
                  (try simp only [Act.put, List.setIfInBounds_toArray, List.set_cons_zero, List.set_cons_succ])
                  refine wpAnyT_take (i := 1) (S := fun w' => w'.cell? ⟨e.b + 5, 0, none⟩ = some (.slice A2 n2 c2') ∧ w'.cell? ⟨e.b + 6, 0, none⟩ = some (.slice A3 n3 k3) ∧ w'.cell? ⟨gs, 0, none⟩ = some (.int .i64 s1) ∧ w'.cell? ⟨gs, 1, none⟩ = some (.int .i64 s2)) (v := .int .i64 ii) rfl (by kernel_rfl) (by kernel_rfl) (by kernel_rfl) (fun _ _ _ h => h) (fun w' h => (hTT.out _ _).2 ⟨.inr h.2, .inr (.inr (.inr (.inr h.1)))⟩) (fun j oj hoj hji hun hno w' hT => ?_) (Or.inl ⟨by rfl, ?_⟩) ⟨r1, r2, r3, r4⟩ ?_
                  case refine_1 =>
                    replace hT := (hTT.out _ _).1 hT
                    rcases hT.1 with h9 | h9
                    · subst h9
                      obtain rfl := Option.some.inj hoj
                      exact ((hno ⟨1, .phase⟩ (by simp) rfl) rfl).elim
                    · rcases hT.2 with h8 | h8 | h8 | h8 | h8
                      · subst h8
                        obtain rfl := Option.some.inj hoj
                        exact ((hno ⟨1, .phase⟩ (by simp) rfl) rfl).elim
                      · subst h8
                        obtain rfl := Option.some.inj hoj
                        exact ((hno ⟨1, .phase⟩ (by simp) rfl) rfl).elim
                      · subst h8
                        exact absurd hun (by decide)
                      · subst h8
                        exact absurd hun (by decide)
                      · exact ⟨h8, h9⟩
                  case refine_2 =>
                    intro w' hS
                    obtain ⟨y1, y2, y3, y4⟩ := hS
                    go_simp
                  (try simp only [Act.put, List.setIfInBounds_toArray, List.set_cons_zero, List.set_cons_succ])
                  have BX : Same (fun k => (Value.slice A2 n2 c2').ownBlock = some k ∨ (Value.slice A3 n3 k3).ownBlock = some k) wc wc.drew := (Same.refl _ _).drew
                  have hoa : OS NE 3 wc.drew (e.b + 8) (.slice A2 n2 c2') at' := hI6.oa
                  have hom : OS SE 34 wc.drew (e.b + 8) (.slice A3 n3 k3) m := hI6.om
                  have hwb : e.b + 8 ≤ wc.heap.size := hI6.big
                  have alt : Hid (∀ k, (Value.slice A2 n2 c2').ownBlock = some k → k < wc.heap.size) := Lib.hid fun k h => (hI6.alt (k := k) h).2
                  have mlt : Hid (∀ k, (Value.slice A3 n3 k3).ownBlock = some k → k < wc.heap.size) := Lib.hid fun k h => (hI6.mlt (k := k) h).2
                  have hnam : Hid (∀ k, (Value.slice A2 n2 c2').ownBlock = some k → (Value.slice A3 n3 k3).ownBlock ≠ some k) := Lib.hid hI6.ne
                  clear r1 r2 r3 r4 r5 r6 ba bm fa fm z0 z1 z2 z3 z4
                  generalize wc.drew = w0 at BX hoa hom ⊢
                  refine wpAnyT_ready (rs := [2, 6]) (by kernel_rfl) (by simp) ?_
                  intro j hj
                  simp only [List.mem_cons, List.not_mem_nil, or_false] at hj
                  rcases hj with rfl | rfl
                  · refine wpOpT_step (by rfl) (fun K hK => ?_)
                    go_simp
                    refine hK.out _ _ ?_ ?_
                    · exact (hTT.out _ _).2 (hTC.out _ _ (BX.alloc _))
                    clear hK K
                    (try simp only [Act.put, List.setIfInBounds_toArray, List.set_cons_zero, List.set_cons_succ])
                    have hb1 := Blk.new w0 3 #[.int .i64 (ii : Int)]
                    have hH1 := BX.size
                    replace BX := BX.alloc (.cells #[.int .i64 (ii : Int)] 3)
                    replace hoa := hoa.alloc (.cells #[.int .i64 (ii : Int)] 3)
                    replace hom := hom.alloc (.cells #[.int .i64 (ii : Int)] 3)
                    try (replace hb2 := hb2.alloc (.cells #[.int .i64 (ii : Int)] 3))
                    generalize w0.alloc (.cells #[.int .i64 (ii : Int)] 3) = w2 at *
                    generalize w0.heap.size = H1 at *
                    refine wpAnyT_ready (rs := [3, 6]) (by kernel_rfl) (by simp) ?_
                    intro j hj
                    simp only [List.mem_cons, List.not_mem_nil, or_false] at hj
                    rcases hj with rfl | rfl
                    · refine wpOpT_step (by rfl) (fun K hK => ?_)
                      refine step_push_keep tyN (by rfl) (.tmp 110) (.tmp 112) (by rfl) (by rfl) (by rfl) hoa (RS.blk (xs := [ii]) hb1 rfl rfl) (by unfold maxLen; omega) (by omega) (Nat.le_trans hwb BX.size) ?_
                      intro va w3 hoa2 _ hga hata
                      have sg := Same.of_grown hga
                      replace hom := sg.os_ hom (fun k hk he => hnam.out k he hk)
                      try (replace hb2 := sg.blk hb2 (fun he => by have := alt.out _ he; omega))
                      have xa : ∀ k, va.ownBlock = some k → (Value.slice A2 n2 c2').ownBlock = some k ∨ wc.heap.size ≤ k := fun k hk => by
                        rcases hata with h | h
                        · exact .inl (h ▸ hk)
                        · rw [hk] at h; injection h with h; exact .inr (by have := BX.size; omega)
                      replace xa := Lib.hid xa
                      replace BX := BX.trans sg (fun k _ h => .inl h)
                      obtain ⟨A8, n8, c8, rfl, hn8, hc8, -, -, -⟩ := hoa2.form
                      clear hoa hata hga sg hn8
                      refine hK.out _ _ ?_ ?_
                      · exact (hTT.out _ _).2 (hTC.out _ _ BX)
                      clear hK K
                      (try simp only [Act.put, List.setIfInBounds_toArray, List.set_cons_zero, List.set_cons_succ])
                      refine wpAnyT_ready (rs := [6]) (by kernel_rfl) (by simp) ?_
                      intro j hj
                      rw [List.mem_singleton] at hj
                      subst hj
                      refine wpOpT_step (by rfl) (fun K hK => ?_)
                      go_simp
                      refine hK.out _ _ ?_ ?_
                      · exact (hTT.out _ _).2 (hTC.out _ _ (BX.alloc _))
                      clear hK K
                      (try simp only [Act.put, List.setIfInBounds_toArray, List.set_cons_zero, List.set_cons_succ])
                      have hb2 := Blk.new w3 34 #[.int .i64 s1, .int .i64 s2]
                      have hH2 := BX.size
                      replace BX := BX.alloc (.cells #[.int .i64 s1, .int .i64 s2] 34)
                      replace hoa2 := hoa2.alloc (.cells #[.int .i64 s1, .int .i64 s2] 34)
                      replace hom := hom.alloc (.cells #[.int .i64 s1, .int .i64 s2] 34)
                      generalize w3.alloc (.cells #[.int .i64 s1, .int .i64 s2] 34) = w6 at *
                      generalize w3.heap.size = H2 at *
                      refine wpAnyT_ready (rs := [7]) (by kernel_rfl) (by simp) ?_
                      intro j hj
                      rw [List.mem_singleton] at hj
                      subst hj
                      refine wpOpT_step (by rfl) (fun K hK => ?_)
                      refine step_push_keep tyS (by rfl) (.tmp 114) (.tmp 116) (by rfl) (by rfl) (by rfl) hom (RS.blk (xs := [(s1, s2)]) hb2 rfl rfl) (by unfold maxLen; omega) (by omega) (Nat.le_trans hwb BX.size) ?_
                      intro vm w7 hom2 _ hgm hatm
                      have sg := Same.of_grown hgm
                      have hne : ∀ k, (Value.slice A8 n8 c8).ownBlock = some k → vm.ownBlock ≠ some k := fun k hk he => by
                        rcases hatm with h | h
                        · rcases xa.out k hk with h1 | h1
                          · exact hnam.out k h1 (h ▸ he)
                          · have := mlt.out k (h ▸ he); omega
                        · rw [he] at h; injection h with h; have := (hoa2.block_lt k hk).2; omega
                      have xm : ∀ k, vm.ownBlock = some k → (Value.slice A3 n3 k3).ownBlock = some k ∨ wc.heap.size ≤ k := fun k hk => by
                        rcases hatm with h | h
                        · exact .inl (h ▸ hk)
                        · rw [hk] at h; injection h with h; exact .inr (by have := BX.size; omega)
                      replace hoa2 := sg.os_ hoa2 (fun k hk he => by
                        rcases xa.out k hk with h1 | h1
                        · exact hnam.out k h1 he
                        · have := mlt.out k he; omega)
                      replace xm := Lib.hid xm
                      replace hne := Lib.hid hne
                      replace BX := BX.trans sg (fun k _ h => .inr h)
                      obtain ⟨A9, n9, c9, rfl, hn9, hc9, -, -, -⟩ := hom2.form
                      clear hom hatm hgm sg hn9
                      refine hK.out _ _ ?_ ?_
                      · exact (hTT.out _ _).2 (hTC.out _ _ BX)
                      clear hK K
                      (try simp only [Act.put, List.setIfInBounds_toArray, List.set_cons_zero, List.set_cons_succ])
                      clear hb1 hb2
                      have hpush := hI6.push BX hoa2 hom2 xa.out xm.out hne.out
                      obtain ⟨r1, r2, r3, r4, r5, r6⟩ := hC.out _ BX
                      have s5 := Same.set w7 (e.b + 5) 0 (.slice A8 n8 c8)
                      have b6 : Blk (w7.setCell ⟨e.b + 5, 0, none⟩ (.slice A8 n8 c8)) (e.b + 6) 29 #[.slice A3 n3 k3] := s5.blk (BX.blk hI6.bm (fun he => hbx.out _ (by omega) he)) (by omega)
                      have b7 : Blk (w7.setCell ⟨e.b + 5, 0, none⟩ (.slice A8 n8 c8)) gs 34 #[.int .i64 s1, .int .i64 s2] := s5.blk (BX.blk hZ6 hxs.out) (by omega)
                      have t1 := Blk.cell b6 0
                      have t2 := Blk.frozen b6 0
                      have t3 := Blk.cell b7 0
                      have t4 := Blk.cell b7 1
                      simp at t1 t3 t4
                      refine wpAnyT_ready (rs := [8]) (by kernel_rfl) (by simp) ?_
                      intro j hj
                      rw [List.mem_singleton] at hj
                      subst hj
                      refine wpOpT_step (by rfl) (fun K hK => ?_)
                      go_simp
                      refine hK.out _ _ ?_ ?_
                      · exact (hTT.out _ _).2 ⟨.inr ⟨t1, t3, t4⟩, .inr (.inl rfl)⟩
                      clear hK K
                      (try simp only [Act.put, List.setIfInBounds_toArray, List.set_cons_zero, List.set_cons_succ])
                      refine wpAnyT_ready (rs := [9]) (by kernel_rfl) (by simp) ?_
                      intro j hj
                      rw [List.mem_singleton] at hj
                      subst hj
                      refine wpOpT_step (by rfl) (fun K hK => ?_)
                      go_simp
                      refine hK.out _ _ ?_ ?_
                      · exact (hTT.out _ _).2 ⟨.inl rfl, .inl rfl⟩
                      clear hK K
                      (try simp only [Act.put, List.setIfInBounds_toArray, List.set_cons_zero, List.set_cons_succ])
                      refine wpAnyT_done (by kernel_rfl) ?_ _
                      refine NoPanic.normal ?_
                      go_wp2_with fail
                      go_meet
                      case rel =>
                        obtain ⟨j1, j2, j3⟩ := hpush
                        exact ⟨_, _, j1, hT6.trans j2, hk.keep _ _ _ _ hJ6 (j3.mono (fun k _ h => hnow.out k h)), j3.blk hX6 (hngx.out), hY6.same j3 hngy.out⟩
                    · refine wpOpT_step (by rfl) (fun K hK => ?_)
                      go_simp
                      refine hK.out _ _ ?_ ?_
                      · exact (hTT.out _ _).2 (hTC.out _ _ (BX.alloc _))
                      clear hK K
                      (try simp only [Act.put, List.setIfInBounds_toArray, List.set_cons_zero, List.set_cons_succ])
                      have hb2 := Blk.new w2 34 #[.int .i64 s1, .int .i64 s2]
                      have hH2 := BX.size
                      replace BX := BX.alloc (.cells #[.int .i64 s1, .int .i64 s2] 34)
                      replace hoa := hoa.alloc (.cells #[.int .i64 s1, .int .i64 s2] 34)
                      replace hom := hom.alloc (.cells #[.int .i64 s1, .int .i64 s2] 34)
                      try (replace hb1 := hb1.alloc (.cells #[.int .i64 s1, .int .i64 s2] 34))
                      generalize w2.alloc (.cells #[.int .i64 s1, .int .i64 s2] 34) = w6 at *
                      generalize w2.heap.size = H2 at *
                      refine wpAnyT_ready (rs := [3]) (by kernel_rfl) (by simp) ?_
                      intro j hj
                      rw [List.mem_singleton] at hj
                      subst hj
                      refine wpOpT_step (by rfl) (fun K hK => ?_)
                      refine step_push_keep tyN (by rfl) (.tmp 110) (.tmp 112) (by rfl) (by rfl) (by rfl) hoa (RS.blk (xs := [ii]) hb1 rfl rfl) (by unfold maxLen; omega) (by omega) (Nat.le_trans hwb BX.size) ?_
                      intro va w3 hoa2 _ hga hata
                      have sg := Same.of_grown hga
                      replace hom := sg.os_ hom (fun k hk he => hnam.out k he hk)
                      try (replace hb2 := sg.blk hb2 (fun he => by have := alt.out _ he; omega))
                      have xa : ∀ k, va.ownBlock = some k → (Value.slice A2 n2 c2').ownBlock = some k ∨ wc.heap.size ≤ k := fun k hk => by
                        rcases hata with h | h
                        · exact .inl (h ▸ hk)
                        · rw [hk] at h; injection h with h; exact .inr (by have := BX.size; omega)
                      replace xa := Lib.hid xa
                      replace BX := BX.trans sg (fun k _ h => .inl h)
                      obtain ⟨A8, n8, c8, rfl, hn8, hc8, -, -, -⟩ := hoa2.form
                      clear hoa hata hga sg hn8
                      refine hK.out _ _ ?_ ?_
                      · exact (hTT.out _ _).2 (hTC.out _ _ BX)
                      clear hK K
                      (try simp only [Act.put, List.setIfInBounds_toArray, List.set_cons_zero, List.set_cons_succ])
                      refine wpAnyT_ready (rs := [7]) (by kernel_rfl) (by simp) ?_
                      intro j hj
                      rw [List.mem_singleton] at hj
                      subst hj
                      refine wpOpT_step (by rfl) (fun K hK => ?_)
                      refine step_push_keep tyS (by rfl) (.tmp 114) (.tmp 116) (by rfl) (by rfl) (by rfl) hom (RS.blk (xs := [(s1, s2)]) hb2 rfl rfl) (by unfold maxLen; omega) (by omega) (Nat.le_trans hwb BX.size) ?_
                      intro vm w7 hom2 _ hgm hatm
                      have sg := Same.of_grown hgm
                      have hne : ∀ k, (Value.slice A8 n8 c8).ownBlock = some k → vm.ownBlock ≠ some k := fun k hk he => by
                        rcases hatm with h | h
                        · rcases xa.out k hk with h1 | h1
                          · exact hnam.out k h1 (h ▸ he)
                          · have := mlt.out k (h ▸ he); omega
                        · rw [he] at h; injection h with h; have := (hoa2.block_lt k hk).2; omega
                      have xm : ∀ k, vm.ownBlock = some k → (Value.slice A3 n3 k3).ownBlock = some k ∨ wc.heap.size ≤ k := fun k hk => by
                        rcases hatm with h | h
                        · exact .inl (h ▸ hk)
                        · rw [hk] at h; injection h with h; exact .inr (by have := BX.size; omega)
                      replace hoa2 := sg.os_ hoa2 (fun k hk he => by
                        rcases xa.out k hk with h1 | h1
                        · exact hnam.out k h1 he
                        · have := mlt.out k he; omega)
                      replace xm := Lib.hid xm
                      replace hne := Lib.hid hne
                      replace BX := BX.trans sg (fun k _ h => .inr h)
                      obtain ⟨A9, n9, c9, rfl, hn9, hc9, -, -, -⟩ := hom2.form
                      clear hom hatm hgm sg hn9
                      refine hK.out _ _ ?_ ?_
                      · exact (hTT.out _ _).2 (hTC.out _ _ BX)
                      clear hK K
                      (try simp only [Act.put, List.setIfInBounds_toArray, List.set_cons_zero, List.set_cons_succ])
                      clear hb1 hb2
                      have hpush := hI6.push BX hoa2 hom2 xa.out xm.out hne.out
                      obtain ⟨r1, r2, r3, r4, r5, r6⟩ := hC.out _ BX
                      have s5 := Same.set w7 (e.b + 5) 0 (.slice A8 n8 c8)
                      have b6 : Blk (w7.setCell ⟨e.b + 5, 0, none⟩ (.slice A8 n8 c8)) (e.b + 6) 29 #[.slice A3 n3 k3] := s5.blk (BX.blk hI6.bm (fun he => hbx.out _ (by omega) he)) (by omega)
                      have b7 : Blk (w7.setCell ⟨e.b + 5, 0, none⟩ (.slice A8 n8 c8)) gs 34 #[.int .i64 s1, .int .i64 s2] := s5.blk (BX.blk hZ6 hxs.out) (by omega)
                      have t1 := Blk.cell b6 0
                      have t2 := Blk.frozen b6 0
                      have t3 := Blk.cell b7 0
                      have t4 := Blk.cell b7 1
                      simp at t1 t3 t4
                      refine wpAnyT_ready (rs := [8]) (by kernel_rfl) (by simp) ?_
                      intro j hj
                      rw [List.mem_singleton] at hj
                      subst hj
                      refine wpOpT_step (by rfl) (fun K hK => ?_)
                      go_simp
                      refine hK.out _ _ ?_ ?_
                      · exact (hTT.out _ _).2 ⟨.inr ⟨t1, t3, t4⟩, .inr (.inl rfl)⟩
                      clear hK K
                      (try simp only [Act.put, List.setIfInBounds_toArray, List.set_cons_zero, List.set_cons_succ])
                      refine wpAnyT_ready (rs := [9]) (by kernel_rfl) (by simp) ?_
                      intro j hj
                      rw [List.mem_singleton] at hj
                      subst hj
                      refine wpOpT_step (by rfl) (fun K hK => ?_)
                      go_simp
                      refine hK.out _ _ ?_ ?_
                      · exact (hTT.out _ _).2 ⟨.inl rfl, .inl rfl⟩
                      clear hK K
                      (try simp only [Act.put, List.setIfInBounds_toArray, List.set_cons_zero, List.set_cons_succ])
                      refine wpAnyT_done (by kernel_rfl) ?_ _
                      refine NoPanic.normal ?_
                      go_wp2_with fail
                      go_meet
                      case rel =>
                        obtain ⟨j1, j2, j3⟩ := hpush
                        exact ⟨_, _, j1, hT6.trans j2, hk.keep _ _ _ _ hJ6 (j3.mono (fun k _ h => hnow.out k h)), j3.blk hX6 (hngx.out), hY6.same j3 hngy.out⟩
                  · refine wpOpT_step (by rfl) (fun K hK => ?_)
                    go_simp
                    refine hK.out _ _ ?_ ?_
                    · exact (hTT.out _ _).2 (hTC.out _ _ (BX.alloc _))
                    clear hK K
                    (try simp only [Act.put, List.setIfInBounds_toArray, List.set_cons_zero, List.set_cons_succ])
                    have hb2 := Blk.new w0 34 #[.int .i64 s1, .int .i64 s2]
                    have hH2 := BX.size
                    replace BX := BX.alloc (.cells #[.int .i64 s1, .int .i64 s2] 34)
                    replace hoa := hoa.alloc (.cells #[.int .i64 s1, .int .i64 s2] 34)
                    replace hom := hom.alloc (.cells #[.int .i64 s1, .int .i64 s2] 34)
                    try (replace hb1 := hb1.alloc (.cells #[.int .i64 s1, .int .i64 s2] 34))
                    generalize w0.alloc (.cells #[.int .i64 s1, .int .i64 s2] 34) = w6 at *
                    generalize w0.heap.size = H2 at *
                    refine wpAnyT_ready (rs := [2]) (by kernel_rfl) (by simp) ?_
                    intro j hj
                    rw [List.mem_singleton] at hj
                    subst hj
                    refine wpOpT_step (by rfl) (fun K hK => ?_)
                    go_simp
                    refine hK.out _ _ ?_ ?_
                    · exact (hTT.out _ _).2 (hTC.out _ _ (BX.alloc _))
                    clear hK K
                    (try simp only [Act.put, List.setIfInBounds_toArray, List.set_cons_zero, List.set_cons_succ])
                    have hb1 := Blk.new w6 3 #[.int .i64 (ii : Int)]
                    have hH1 := BX.size
                    replace BX := BX.alloc (.cells #[.int .i64 (ii : Int)] 3)
                    replace hoa := hoa.alloc (.cells #[.int .i64 (ii : Int)] 3)
                    replace hom := hom.alloc (.cells #[.int .i64 (ii : Int)] 3)
                    try (replace hb2 := hb2.alloc (.cells #[.int .i64 (ii : Int)] 3))
                    generalize w6.alloc (.cells #[.int .i64 (ii : Int)] 3) = w2 at *
                    generalize w6.heap.size = H1 at *
                    refine wpAnyT_ready (rs := [3]) (by kernel_rfl) (by simp) ?_
                    intro j hj
                    rw [List.mem_singleton] at hj
                    subst hj
                    refine wpOpT_step (by rfl) (fun K hK => ?_)
                    refine step_push_keep tyN (by rfl) (.tmp 110) (.tmp 112) (by rfl) (by rfl) (by rfl) hoa (RS.blk (xs := [ii]) hb1 rfl rfl) (by unfold maxLen; omega) (by omega) (Nat.le_trans hwb BX.size) ?_
                    intro va w3 hoa2 _ hga hata
                    have sg := Same.of_grown hga
                    replace hom := sg.os_ hom (fun k hk he => hnam.out k he hk)
                    try (replace hb2 := sg.blk hb2 (fun he => by have := alt.out _ he; omega))
                    have xa : ∀ k, va.ownBlock = some k → (Value.slice A2 n2 c2').ownBlock = some k ∨ wc.heap.size ≤ k := fun k hk => by
                      rcases hata with h | h
                      · exact .inl (h ▸ hk)
                      · rw [hk] at h; injection h with h; exact .inr (by have := BX.size; omega)
                    replace xa := Lib.hid xa
                    replace BX := BX.trans sg (fun k _ h => .inl h)
                    obtain ⟨A8, n8, c8, rfl, hn8, hc8, -, -, -⟩ := hoa2.form
                    clear hoa hata hga sg hn8
                    refine hK.out _ _ ?_ ?_
                    · exact (hTT.out _ _).2 (hTC.out _ _ BX)
                    clear hK K
                    (try simp only [Act.put, List.setIfInBounds_toArray, List.set_cons_zero, List.set_cons_succ])
                    refine wpAnyT_ready (rs := [7]) (by kernel_rfl) (by simp) ?_
                    intro j hj
                    rw [List.mem_singleton] at hj
                    subst hj
                    refine wpOpT_step (by rfl) (fun K hK => ?_)
                    refine step_push_keep tyS (by rfl) (.tmp 114) (.tmp 116) (by rfl) (by rfl) (by rfl) hom (RS.blk (xs := [(s1, s2)]) hb2 rfl rfl) (by unfold maxLen; omega) (by omega) (Nat.le_trans hwb BX.size) ?_
                    intro vm w7 hom2 _ hgm hatm
                    have sg := Same.of_grown hgm
                    have hne : ∀ k, (Value.slice A8 n8 c8).ownBlock = some k → vm.ownBlock ≠ some k := fun k hk he => by
                      rcases hatm with h | h
                      · rcases xa.out k hk with h1 | h1
                        · exact hnam.out k h1 (h ▸ he)
                        · have := mlt.out k (h ▸ he); omega
                      · rw [he] at h; injection h with h; have := (hoa2.block_lt k hk).2; omega
                    have xm : ∀ k, vm.ownBlock = some k → (Value.slice A3 n3 k3).ownBlock = some k ∨ wc.heap.size ≤ k := fun k hk => by
                      rcases hatm with h | h
                      · exact .inl (h ▸ hk)
                      · rw [hk] at h; injection h with h; exact .inr (by have := BX.size; omega)
                    replace hoa2 := sg.os_ hoa2 (fun k hk he => by
                      rcases xa.out k hk with h1 | h1
                      · exact hnam.out k h1 he
                      · have := mlt.out k he; omega)
                    replace xm := Lib.hid xm
                    replace hne := Lib.hid hne
                    replace BX := BX.trans sg (fun k _ h => .inr h)
                    obtain ⟨A9, n9, c9, rfl, hn9, hc9, -, -, -⟩ := hom2.form
                    clear hom hatm hgm sg hn9
                    refine hK.out _ _ ?_ ?_
                    · exact (hTT.out _ _).2 (hTC.out _ _ BX)
                    clear hK K
                    (try simp only [Act.put, List.setIfInBounds_toArray, List.set_cons_zero, List.set_cons_succ])
                    clear hb1 hb2
                    have hpush := hI6.push BX hoa2 hom2 xa.out xm.out hne.out
                    obtain ⟨r1, r2, r3, r4, r5, r6⟩ := hC.out _ BX
                    have s5 := Same.set w7 (e.b + 5) 0 (.slice A8 n8 c8)
                    have b6 : Blk (w7.setCell ⟨e.b + 5, 0, none⟩ (.slice A8 n8 c8)) (e.b + 6) 29 #[.slice A3 n3 k3] := s5.blk (BX.blk hI6.bm (fun he => hbx.out _ (by omega) he)) (by omega)
                    have b7 : Blk (w7.setCell ⟨e.b + 5, 0, none⟩ (.slice A8 n8 c8)) gs 34 #[.int .i64 s1, .int .i64 s2] := s5.blk (BX.blk hZ6 hxs.out) (by omega)
                    have t1 := Blk.cell b6 0
                    have t2 := Blk.frozen b6 0
                    have t3 := Blk.cell b7 0
                    have t4 := Blk.cell b7 1
                    simp at t1 t3 t4
                    refine wpAnyT_ready (rs := [8]) (by kernel_rfl) (by simp) ?_
                    intro j hj
                    rw [List.mem_singleton] at hj
                    subst hj
                    refine wpOpT_step (by rfl) (fun K hK => ?_)
                    go_simp
                    refine hK.out _ _ ?_ ?_
                    · exact (hTT.out _ _).2 ⟨.inr ⟨t1, t3, t4⟩, .inr (.inl rfl)⟩
                    clear hK K
                    (try simp only [Act.put, List.setIfInBounds_toArray, List.set_cons_zero, List.set_cons_succ])
                    refine wpAnyT_ready (rs := [9]) (by kernel_rfl) (by simp) ?_
                    intro j hj
                    rw [List.mem_singleton] at hj
                    subst hj
                    refine wpOpT_step (by rfl) (fun K hK => ?_)
                    go_simp
                    refine hK.out _ _ ?_ ?_
                    · exact (hTT.out _ _).2 ⟨.inl rfl, .inl rfl⟩
                    clear hK K
                    (try simp only [Act.put, List.setIfInBounds_toArray, List.set_cons_zero, List.set_cons_succ])
                    refine wpAnyT_done (by kernel_rfl) ?_ _
                    refine NoPanic.normal ?_
                    go_wp2_with fail
                    go_meet
                    case rel =>
                      obtain ⟨j1, j2, j3⟩ := hpush
                      exact ⟨_, _, j1, hT6.trans j2, hk.keep _ _ _ _ hJ6 (j3.mono (fun k _ h => hnow.out k h)), j3.blk hX6 (hngx.out), hY6.same j3 hngy.out⟩
                  -- E7
                case rest =>
                  obtain ⟨va, vm, hI7, hT7, hJ7, hX7, hY7⟩ := hcut
                  obtain ⟨cs2, e5, bY, tk2, l5⟩ := hY7
                  match cs2, e5 with
                  | [y0, y1, y2, y3, y4], e5 =>
                  have kin : Hid (Calls Try.prog 64 #[.agg #[.int .i64 y0, .int .i64 y1, .int .i64 y2, .int .i64 y3, .int .i64 y4, .int .i64 (ns2.length : Int)], .pointer (some ⟨e.b + 5, 0, none⟩), .pointer (some ⟨e.b + 1, 0, none⟩), .pointer (some ⟨e.b + 4, 0, none⟩), .pointer (some ⟨e.b + 6, 0, none⟩), .pointer (some ⟨e.b, 0, none⟩), .pointer (some ⟨e.b + 2, 0, none⟩), .pointer (some ⟨e.b + 3, 0, none⟩), .pointer (some ⟨e.b + 7, 0, none⟩)] wc
                      (IPost e J Jx (at' ++ [ii]) (m ++ [(s1, s2)]) ⟨ow', va, vm, wc⟩ (pre ++ (List.range ii).flatMap (one e.l e.wd fit k at' m ns)) (sub e.l e.wd fit k (at' ++ [ii]) (m ++ [(s1, s2)]) ns2))) := Lib.hid
                    (ih.out (at' ++ [ii]) (m ++ [(s1, s2)]) [y0, y1, y2, y3, y4] ns2 ⟨ow', va, vm, wc⟩ _ (by rw [List.length_append, List.length_singleton]; omega) (by rw [List.length_append, List.length_append, List.length_singleton, List.length_singleton, hm]) rfl tk2 (by rw [List.length_append, List.length_singleton]; omega) (fun i hi => by
                      rcases List.mem_append.1 hi with h | h
                      · exact hat i h
                      · rw [List.mem_singleton] at h; omega) hsm2.out hI7 hJ7)
                  have bi := Blk.cell hI7.bi 0
                  simp at bi
                  have x0 := Blk.cell bY 0
                  have x1 := Blk.cell bY 1
                  have x2 := Blk.cell bY 2
                  have x3 := Blk.cell bY 3
                  have x4 := Blk.cell bY 4
                  have x5 := Blk.cell bY 5
                  simp [nmC] at x0 x1 x2 x3 x4 x5
                  clear hI6 hT6 hJ6 hX6 hZ6 hY6 ba bm fa fm z0 z1 z2 z3 z4
                  go_wp2_with fail
                  (with_reducible refine (kin.out).mono ?_)
                  rintro r w9 ⟨ow9, av9, mv9, hI9, hT9, hr9⟩
                  clear bi x0 x1 x2 x3 x4 x5 kin
                  have l9a := hI9.ba.lt
                  have hgx9 : Hid (¬ ow9 gx) := Lib.hid fun h => by
                    rcases hT9.ow gx h with h1 | h1
                    · exact hgxo'.out h1
                    · have := hX7.lt; simp only at h1; omega
                  have hX9 := hT9.same.blk hX7 (fun he => by
                    rcases he with he | he | he | he | he
                    · exact hgxo'.out he
                    · exact hX7.ne_box hI7.ba (by decide) he
                    · exact hX7.ne_box hI7.bm (by decide) he
                    · exact hI7.oa.blk_ne hX7 (by decide) he
                    · exact hI7.om.blk_ne hX7 (by decide) he)
                  have hT19 := hT7.trans hT9
                  obtain ⟨A8, n8, c8, rfl, hn8, hc8, -, -, -⟩ := hI9.oa.form
                  obtain ⟨A9, n9, c9, rfl, hn9, hc9, -, -, -⟩ := hI9.om.form
                  rw [List.length_append, List.length_singleton] at hn8 hn9
                  have hn81 : n8 = n2 + 1 := by have := hn1.out; omega
                  have hn91 : n9 = n3 + 1 := by have := hn3.out; omega
                  clear hn8 hn9
                  subst hn81 hn91
                  have oT : OS NE 3 w9 (e.b + 8) (.slice A8 n2 c8) at' := OS.trunc hI9.oa
                  have mT : OS SE 34 w9 (e.b + 8) (.slice A9 n3 c9) m := OS.trunc hI9.om
                  obtain ⟨p1, p2, p3⟩ := hI9.push (Same.refl _ _) oT mT (fun k h => .inl ((own_cut A8 (n2 + 1) n2 c8).trans h)) (fun k h => .inl ((own_cut A9 (n3 + 1) n3 c9).trans h)) (fun k h h' => hI9.ne k ((own_cut A8 (n2 + 1) n2 c8).trans h) ((own_cut A9 (n3 + 1) n3 c9).trans h'))
                  have hT29 := hT19.trans p2
                  have hX10 := p3.blk hX9 (fun he => by
                    rcases he with he | he | he | he
                    · exact hX9.ne_box hI9.ba (by decide) he
                    · exact hX9.ne_box hI9.bm (by decide) he
                    · exact hI9.oa.blk_ne hX9 (by decide) he
                    · exact hI9.om.blk_ne hX9 (by decide) he)
                  have hnow9 : ∀ k, (k = e.b + 5 ∨ k = e.b + 6 ∨ (Value.slice A8 (n2 + 1) c8).ownBlock = some k ∨ (Value.slice A9 (n3 + 1) c9).ownBlock = some k) → ¬ ow9 k := fun k he => by
                    rcases he with he | he | he | he
                    · rw [he]; exact hI9.box (by omega) (by omega)
                    · rw [he]; exact hI9.box (by omega) (by omega)
                    · exact hI9.na k he
                    · exact hI9.nm k he
                  have ba := Blk.cell hI9.ba 0
                  have bm := Blk.cell hI9.bm 0
                  have fa := Blk.frozen hI9.ba 0
                  have fm := Blk.frozen hI9.bm 0
                  simp at ba bm fa fm
                  have hn3b : n3 ≤ 4 := by have := hn3.out; omega
                  have i41 : IntKind.i64.wrap (n2 : Int) = (n2 : Int) := by rw [IntKind.wrap_i64]; omega
                  have i51 : IntKind.i64.wrap (n3 : Int) = (n3 : Int) := by rw [IntKind.wrap_i64]; omega
                  have i4 : IntKind.i64.wrap (((n2 + 1 : Nat) : Int) - 1) = (n2 : Int) := by rw [IntKind.wrap_i64]; omega
                  have i5 : IntKind.i64.wrap (((n3 + 1 : Nat) : Int) - 1) = (n3 : Int) := by rw [IntKind.wrap_i64]; omega
                  have i6 : (0 : Int) ≤ (n2 : Int) := Int.natCast_nonneg _
                  have i7 : (0 : Int) ≤ (n3 : Int) := Int.natCast_nonneg _
                  have i8 : (n2 : Int) ≤ (c8 : Int) := by omega
                  have i9 : (n3 : Int) ≤ (c9 : Int) := by omega
                  rcases hr9 with ⟨rfl, hJ9⟩ | ⟨rfl, q, t', hq, hJx9⟩
                  · have hJ10 := hk.keep _ _ _ _ hJ9 (p3.mono (fun k _ h => hnow9 k h))
                    have hL : Hid (pre ++ (List.range (ii + 1)).flatMap (one e.l e.wd fit k at' m ns) = pre ++ (List.range ii).flatMap (one e.l e.wd fit k at' m ns) ++ sub e.l e.wd fit k (at' ++ [ii]) (m ++ [(s1, s2)]) ns2) := Lib.hid (by rw [flat_next, hone2.out, List.append_assoc])
                    clear hnow9 hI9 hT9 hX9 hT19 hI7 hT7 hJ7 hX7 oT mT
                    go_upto_region 14 with fail
                    clear hone2 kb ht0 hgs hsd
                    go_region
                    obtain ⟨u1, u2⟩ := p1.below (Below.refl _ _).drew (Nat.le_refl _)
                    have hT39 := hT29.trans u2
                    have hJ11 := hk.keep _ _ _ _ hJ10 (Same.refl _ _).drew
                    clear p1 p2 p3 hT29 u2 hJ10 ba bm fa fm
                    go_wp2_with fail
                    go_roundw
                    case rel =>
                      have hfin : ∃ (jj : Nat) (ow' : Nat → Prop) (av' mv' : Value), Value.int .i64 ((ii : Int) + 1) = .int .i64 jj ∧ frst at' ≤ jj ∧ jj ≤ e.n ∧ Inv e at' m ⟨ow', av', mv', _⟩ ∧ Tr e ⟨ow, .slice A1 n2 c1', mv, W⟩ ⟨ow', av', mv', _⟩ ∧ J (pre ++ (List.range jj).flatMap (one e.l e.wd fit k at' m ns)) _ ow' ∧ Blk _ gx 69 #[.int .i64 c0, .int .i64 c1, .int .i64 c2, .int .i64 c3, .int .i64 c4, .int .i64 (N : Int)] ∧ Hid (¬ ow' gx) :=
                        ⟨ii + 1, ow9, _, _, by go_num, by omega, by omega, u1, hT39, by rw [hL.out]; exact hJ11, hX10.drew, hgx9⟩
                      first
                        | exact hfin
                        | exact ⟨_, hfin, rfl⟩
                    case measure => simp [intOf]; omega
                  · have hJ10 := hk.keepx _ _ _ _ hJx9 (p3.mono (fun k _ h => hnow9 k h))
                    have hL : ∃ R, sub e.l e.wd fit (k + 1) at' m ns = (List.range ii).flatMap (one e.l e.wd fit k at' m ns) ++ q ++ (t' ++ R) := by
                      rw [sub_succ, hnl.out]
                      obtain ⟨R, hR⟩ := flat_rest (one e.l e.wd fit k at' m ns) (show ii + 1 ≤ e.n from hlt)
                      exact ⟨R, by rw [hR, flat_next, hone2.out, hq]; simp only [List.append_assoc]⟩
                    obtain ⟨R, hL⟩ := hL
                    replace hL := Lib.hid hL
                    clear hq
                    clear hnow9 hI9 hT9 hX9 hT19 hI7 hT7 hJ7 hX7 oT mT
                    go_upto_region 14 with fail
                    clear hone2 kb ht0 hgs hsd
                    go_region
                    obtain ⟨u1, u2⟩ := p1.below (Below.refl _ _).drew (Nat.le_refl _)
                    have hT39 := hT29.trans u2
                    have hJ11 := hk.keepx _ _ _ _ hJ10 (Same.refl _ _).drew
                    clear p1 p2 p3 hT29 u2 hJ10 ba bm fa fm
                    go_wp2_with fail
                    go_ret
                    exact ⟨ow9, _, _, u1, hT39, .inr ⟨rfl, _, _, hL.out, by rw [← List.append_assoc]; exact hJ11⟩⟩
end
end Go.Proofs.Ytkcmbpokoijglaa
