/- Plain: a core number lies between a node's gain and twice it. -/
import Derived.Test.YticekkjambkifaaDoorBldB
set_option linter.unusedVariables false
set_option linter.unusedSimpArgs false
namespace Go.Proofs.YticekkjambkifaaDoor.Fl
open Go.RowKit Go.Proofs.YticekkjambkifaaDoor CoBit CoRat Rt

theorem ite_le {p q : Prop} [Decidable p] [Decidable q] (h : p → q) : (if p then 1 else 0) ≤ (if q then 1 else 0) := by
  by_cases c : p
  · rw [if_pos c, if_pos (h c)]; exact Nat.le_refl _
  · rw [if_neg c]; exact Nat.zero_le _
theorem pop_two {u : Nat} (hu : u < 64) : pop (2 ^ u) = 1 := by
  rw [pop_bl]
  have hmem : ∀ v ∈ bl (2 ^ u), v = u := fun v hv => by
    have := (mem_bl.1 hv).2
    rw [Nat.testBit_two_pow, decide_eq_true_eq] at this; exact this.symm
  have hin : u ∈ bl (2 ^ u) := mem_bl.2 ⟨hu, by rw [Nat.testBit_two_pow]; exact decide_eq_true rfl⟩
  have hnd := bl_nodup (2 ^ u)
  generalize bl (2 ^ u) = l at *
  match l, hmem, hin, hnd with
  | [], _, hin, _ => cases hin
  | [a], _, _, _ => rfl
  | a :: b :: r, hmem, _, hnd =>
    exfalso
    have h1 := hmem a (by simp)
    have h2 := hmem b (by simp)
    rw [List.nodup_cons] at hnd
    exact hnd.1 (by rw [h1, h2]; simp)
theorem cntE_mono {es : List (Int × Int)} {S S' : List Int} {v : Int} (h : ∀ x ∈ S, x ∈ S') : cntE es S v ≤ cntE es S' v := by
  induction es with
  | nil => exact Nat.le_refl _
  | cons e es ih =>
    rw [cntE_cons, cntE_cons]
    have : oneE e S v ≤ oneE e S' v := by
      unfold oneE
      exact Nat.add_le_add (ite_le fun h1 => ⟨h1.1, h _ h1.2⟩) (ite_le fun h1 => ⟨h1.1, h _ h1.2⟩)
    omega
theorem insE_del' {es : List (Int × Int)} (hne : ∀ e ∈ es, e.1 ≠ e.2) {S S' : List Int} {v : Int} (hv : v ∈ S) (hS : ∀ x, x ∈ S' ↔ x ∈ S ∧ x ≠ v) : insE es S = insE es S' + cntE es S v := by
  induction es with
  | nil => rfl
  | cons e es ih =>
    have h1 := hne e (List.mem_cons_self ..)
    have h2 := ih fun e he => hne e (List.mem_cons_of_mem _ he)
    rw [insE_cons, insE_cons, cntE_cons, h2]
    unfold oneE
    simp only [hS]
    by_cases a : e.1 = v <;> by_cases b : e.2 = v <;> by_cases c : e.1 ∈ S <;> by_cases d : e.2 ∈ S <;> simp_all <;> omega
/-- A set without one of its nodes. -/
theorem Lvl.deg {n i x N D : Nat} {es : List (Int × Int)} (h : Lvl n es i x N D) (hn : n ≤ 64) (hne : ∀ e ∈ es, e.1 ≠ e.2) {u : Nat} (hu : x.testBit u = true) : N ≤ D * cntE es (bset (i ||| x)) (u : Int) := by
  have hu64 : u < 64 := Nat.lt_of_lt_of_le (h.off u hu).1 hn
  obtain ⟨y, hy⟩ : ∃ y, y = x ^^^ 2 ^ u := ⟨_, rfl⟩
  have hyb : ∀ v, y.testBit v = (x.testBit v && decide (v ≠ u)) := fun v => by
    rw [hy, Nat.testBit_xor, Nat.testBit_two_pow]
    by_cases e : u = v
    · subst e; rw [hu]; simp
    · rw [decide_eq_false e, decide_eq_true (show v ≠ u from fun e' => e e'.symm)]; simp
  have hoy : Off n i y := fun v hv => by
    rw [hyb, Bool.and_eq_true] at hv; exact h.off v hv.1
  have hxy : x = y ||| 2 ^ u := Nat.eq_of_testBit_eq fun v => by
    rw [Nat.testBit_or, hyb, Nat.testBit_two_pow]
    by_cases e : u = v
    · subst e; rw [hu]; simp
    · rw [decide_eq_false e, decide_eq_true (show v ≠ u from fun e' => e e'.symm)]; simp
  have hpw : pop (2 ^ u) = 1 := pop_two hu64
  have hpx : pop x = pop y + 1 := by
    conv => lhs; rw [hxy]
    rw [pop_disj, hpw]
    intro v hv
    rw [Nat.testBit_two_pow, decide_eq_true_eq] at hv
    subst hv
    rw [hyb]; simp
  have hmem : (u : Int) ∈ bset (x ||| i) := mem_bset_or.2 (.inl ((bit_mem hu64).2 hu))
  have hdel := insE_del' hne hmem (S' := bset (y ||| i)) (fun z => by
    rw [mem_bset_or, mem_bset_or]
    constructor
    · rintro (hz | hz)
      · unfold bset nts at hz
        obtain ⟨k, hk, rfl⟩ := List.mem_map.1 hz
        have hk2 := (mem_bl.1 hk).2
        rw [hyb, Bool.and_eq_true, decide_eq_true_eq] at hk2
        exact ⟨.inl ((bit_mem (mem_bl.1 hk).1).2 hk2.1), fun e => hk2.2 (by omega)⟩
      · refine ⟨.inr hz, fun e => ?_⟩
        subst e
        have := (bit_mem hu64).1 hz
        rw [(h.off u hu).2] at this; cases this
    · rintro ⟨hz | hz, hne⟩
      · left
        unfold bset nts at hz
        obtain ⟨k, hk, rfl⟩ := List.mem_map.1 hz
        refine (bit_mem (mem_bl.1 hk).1).2 ?_
        rw [hyb, (mem_bl.1 hk).2]
        simp
        intro e; exact hne (by rw [e])
      · exact .inr hz)
  have hle : insE es (bset i) ≤ insE es (bset (y ||| i)) := by have := gain_out es hoy; omega
  have hg : gn es i x = gn es i y + cntE es (bset (x ||| i)) (u : Int) := by unfold gn; omega
  have hmax := h.max y hoy
  have heq := h.eq
  rw [hg, hpx, Nat.mul_add, Nat.mul_add] at heq
  rw [Nat.or_comm i x]
  generalize D * cntE es (bset (x ||| i)) (u : Int) = a at *
  omega
/-- The gains fall. -/
theorem Lvl.falls {n i x N D x' N' D' : Nat} {es : List (Int × Int)} (h : Lvl n es i x N D) (h' : Lvl n es (i ||| x) x' N' D') : N' * D < N * D' := by
  have ho : Off n i (x ||| x') := fun v hv => by
    rw [Nat.testBit_or, Bool.or_eq_true] at hv
    rcases hv with hv | hv
    · exact h.off v hv
    · have := h'.off v hv
      rw [Nat.testBit_or, Bool.or_eq_false_iff] at this
      exact ⟨this.1, this.2.1⟩
  have hp : pop (x ||| x') = pop x + pop x' := pop_disj fun v hv => by
    have := (h'.off v hv).2
    rw [Nat.testBit_or, Bool.or_eq_false_iff] at this
    exact this.2
  have e1 : (x ||| x') ||| i = x' ||| (i ||| x) := by
    rw [Nat.or_comm x x', Nat.or_assoc, Nat.or_comm x i]
  have k1 := gain_out es ho
  have k2 := gain_out es h.off
  have k3 := gain_out es h'.off
  have hg : gn es i (x ||| x') = gn es i x + gn es (i ||| x) x' := by
    unfold gn
    rw [e1, show x ||| i = i ||| x from Nat.or_comm _ _]
    rw [e1] at k1
    rw [Nat.or_comm x i] at k2
    omega
  have hm := h.max _ ho
  have he := h.eq
  have hq : D * gn es (i ||| x) x' < N * pop x' := by
    rcases Nat.lt_or_ge (D * gn es (i ||| x) x') (N * pop x') with hlt | hge
    · exact hlt
    · exfalso
      rw [hg, hp, Nat.mul_add, Nat.mul_add] at hm
      have heq : D * gn es i (x ||| x') = N * pop (x ||| x') := by
        rw [hg, hp, Nat.mul_add, Nat.mul_add]; omega
      have hgr := h.great _ ho heq
      have hpos := h'.pos
      rw [pop_bl] at hpos
      obtain ⟨v, hv⟩ := List.exists_mem_of_length_pos hpos
      have hv2 := (mem_bl.1 hv).2
      have h3 := hgr v (by rw [Nat.testBit_or, hv2, Bool.or_true])
      have h4 := (h'.off v hv2).2
      rw [Nat.testBit_or, h3, Bool.or_true] at h4; cases h4
  have he' := h'.eq
  have hpos := h'.pos
  have : (N' * D) * pop x' < (N * D') * pop x' := by
    calc (N' * D) * pop x' = D * (N' * pop x') := by rw [Nat.mul_comm N' D, Nat.mul_assoc]
      _ = D * (D' * gn es (i ||| x) x') := by rw [he']
      _ = D' * (D * gn es (i ||| x) x') := by rw [← Nat.mul_assoc, Nat.mul_comm D D', Nat.mul_assoc]
      _ < D' * (N * pop x') := Nat.mul_lt_mul_of_pos_left hq h'.D0
      _ = (N * D') * pop x' := by rw [← Nat.mul_assoc, Nat.mul_comm D' N]
  exact Nat.lt_of_mul_lt_mul_right this
theorem LvP.low {n : Nat} {es : List (Int × Int)} (hn : n ≤ 64) (hne : ∀ e ∈ es, e.1 ≠ e.2) : ∀ {ls : List (Nat × Nat × Nat)} {i : Nat}, LvP n es i ls → Inn n i → (∀ x N D, Lvl n es i x N D → ∀ u, i.testBit u = true → N ≤ D * cntE es (bset i) (u : Int)) →
    ∀ l ∈ ls, ∀ v, l.1.testBit v = true → ∃ U, U.testBit v = true ∧ Inn n U ∧ ∀ u, U.testBit u = true → l.2.1 ≤ l.2.2 * cntE es (bset U) (u : Int)
  | [], i, _, _, _, l, hl => by cases hl
  | (x, N, D) :: ls, i, h, hI, H, l, hl => by
    have hx := h.2.1
    have hU : ∀ u, (i ||| x).testBit u = true → N ≤ D * cntE es (bset (i ||| x)) (u : Int) := fun u hu => by
      rw [Nat.testBit_or, Bool.or_eq_true] at hu
      rcases hu with hu | hu
      · exact Nat.le_trans (H x N D hx u hu) (Nat.mul_le_mul_left _ (cntE_mono fun z hz => mem_bset_or.2 (.inl hz)))
      · exact hx.deg hn hne hu
    rcases List.mem_cons.1 hl with rfl | hl
    · intro v hv
      exact ⟨i ||| x, by rw [Nat.testBit_or]; simp only at hv; rw [hv, Bool.or_true], hI.or hx, hU⟩
    · refine LvP.low hn hne h.2.2 (hI.or hx) (fun x' N' D' hx' u hu => ?_) l hl
      have h1 := hU u hu
      have h2 := Nat.le_of_lt (hx.falls hx')
      refine Nat.le_of_mul_le_mul_left ?_ hx.D0
      calc D * N' = N' * D := Nat.mul_comm _ _
        _ ≤ N * D' := h2
        _ ≤ (D * cntE es (bset (i ||| x)) (u : Int)) * D' := Nat.mul_le_mul_right _ h1
        _ = D * (D' * cntE es (bset (i ||| x)) (u : Int)) := by rw [Nat.mul_assoc, Nat.mul_comm D']
theorem sum_le_nat {l : List Nat} {f g : Nat → Nat} (h : ∀ v ∈ l, f v ≤ g v) : (l.map f).sum ≤ (l.map g).sum := by
  induction l with
  | nil => exact Nat.le_refl _
  | cons a l ih =>
    rw [List.map_cons, List.sum_cons, List.map_cons, List.sum_cons]
    have := h a (List.mem_cons_self ..)
    have := ih fun v hv => h v (List.mem_cons_of_mem _ hv)
    omega
theorem sum_ge_const {l : List Nat} {f : Nat → Nat} {c : Nat} (h : ∀ v ∈ l, c ≤ f v) : c * l.length ≤ (l.map f).sum := by
  induction l with
  | nil => simp
  | cons a l ih =>
    rw [List.map_cons, List.sum_cons, List.length_cons, Nat.mul_succ]
    have := h a (List.mem_cons_self ..)
    have := ih fun v hv => h v (List.mem_cons_of_mem _ hv)
    omega
theorem cnt_split {es : List (Int × Int)} {i y u : Nat} {S : List Int} (hS : ∀ x ∈ S, x ∈ bset i ∨ x ∈ bset y) (hui : (u : Int) ∉ bset i) (hyi : ∀ x ∈ bset y, x ∉ bset i) : cntE es S (u : Int) ≤ cntE (outE es i) (bset y) (u : Int) + cntE es (bset i) (u : Int) := by
  induction es with
  | nil => exact Nat.zero_le _
  | cons e es ih =>
    rw [cntE_cons, cntE_cons]
    have ho : cntE (outE (e :: es) i) (bset y) (u : Int) = cntE (outE es i) (bset y) (u : Int) + (if e.1 ∉ bset i ∧ e.2 ∉ bset i then oneE e (bset y) (u : Int) else 0) := by
      unfold outE
      rw [List.filter_cons]
      by_cases c : e.1 ∉ bset i ∧ e.2 ∉ bset i
      · rw [if_pos (decide_eq_true c), if_pos c, cntE_cons]
      · rw [if_neg (by rw [decide_eq_true_eq]; exact c), if_neg c]; rfl
    rw [ho]
    have h1 : oneE e S (u : Int) ≤ (if e.1 ∉ bset i ∧ e.2 ∉ bset i then oneE e (bset y) (u : Int) else 0) + oneE e (bset i) (u : Int) := by
      obtain ⟨p, q⟩ := e
      unfold oneE
      have k1 := hS p
      have k2 := hS q
      have k3 := hyi p
      have k4 := hyi q
      simp only
      by_cases a1 : p = (u : Int)
      · subst a1
        by_cases a2 : q = (u : Int)
        · subst a2
          by_cases b : (u : Int) ∈ S
          · have d : (u : Int) ∈ bset y := (k1 b).resolve_left hui
            simp [b, d, hui]
          · simp [b]
        · by_cases b : q ∈ S
          · rcases k2 b with f | f
            · simp [b, a2, f]
            · simp [b, a2, f, hui, k4 f]
          · simp [b, a2]
      · by_cases a2 : q = (u : Int)
        · subst a2
          by_cases b : p ∈ S
          · rcases k1 b with f | f
            · simp [b, a1, f]
            · simp [b, a1, f, hui, k3 f]
          · simp [b, a1]
        · simp [a1, a2]
    omega
theorem mem_S {S : List Int} {n : Nat} {x : Nat} (hx : MOf S x) (hn : n ≤ 64) (hS : ∀ u ∈ S, 0 ≤ u ∧ u < (n : Int)) (u : Int) : u ∈ S ↔ u ∈ bset x := by
  constructor
  · intro h
    have := hS u h
    obtain ⟨k, rfl⟩ := Int.eq_ofNat_of_zero_le this.1
    have hk : k < 64 := by omega
    exact (bit_mem hk).2 (by rw [hx.2]; exact decide_eq_true ⟨hk, h⟩)
  · intro h
    unfold bset nts at h
    obtain ⟨k, hk, rfl⟩ := List.mem_map.1 h
    have := (mem_bl.1 hk).2
    rw [hx.2, decide_eq_true_eq] at this
    exact this.2
theorem Lvl.high {n i x N D : Nat} {es : List (Int × Int)} (h : Lvl n es i x N D) (hz : chkG n es = 0) (hn : n ≤ 64) {v : Nat} (hv : x.testBit v = true) {c : Nat} (hc : inC (nbG n es) n (c : Int) (v : Int)) : c * D ≤ 2 * N := by
  have hlt := chkE_lt (chkG_zero hz).2.2
  obtain ⟨S, hvS, hS⟩ := hc
  obtain ⟨K, hK⟩ := mof_ex S
  have hmem := mem_S hK hn (fun u hu => ⟨(hS u hu).1, (hS u hu).2.1⟩)
  have hvn := (h.off v hv).1
  have hv64 : v < 64 := by omega
  obtain ⟨y, hy⟩ : ∃ y, y = K ^^^ (K &&& i) := ⟨_, rfl⟩
  have hyb : ∀ u, y.testBit u = (K.testBit u && !i.testBit u) := fun u => by
    rw [hy, Nat.testBit_xor, Nat.testBit_and]
    cases K.testBit u <;> cases i.testBit u <;> rfl
  have hKS : ∀ u, K.testBit u = true → u < 64 ∧ (u : Int) ∈ S := fun u hu => by rw [hK.2, decide_eq_true_eq] at hu; exact hu
  have hoy : Off n i y := fun u hu => by
    rw [hyb, Bool.and_eq_true, Bool.not_eq_true'] at hu
    have := (hS _ (hKS u hu.1).2).2.1
    exact ⟨by omega, hu.2⟩
  have hvy : v ∈ bl y := mem_bl.2 ⟨hv64, by
    rw [hyb, (h.off v hv).2]
    have := (bit_mem hv64).1 ((hmem _).1 hvS)
    rw [this]; rfl⟩
  have hpy : 0 < pop y := by rw [pop_bl]; exact List.length_pos_of_mem hvy
  have hsplit : ∀ x ∈ S, x ∈ bset i ∨ x ∈ bset y := fun z hz => by
    have := (hmem z).1 hz
    unfold bset nts at this
    obtain ⟨k, hk, rfl⟩ := List.mem_map.1 this
    obtain ⟨hk64, hkb⟩ := mem_bl.1 hk
    cases hc : i.testBit k with
    | true => exact .inl ((bit_mem hk64).2 hc)
    | false => exact .inr ((bit_mem hk64).2 (by rw [hyb, hkb, hc]; rfl))
  have hdis : ∀ x ∈ bset y, x ∉ bset i := fun z hz => hoy.not_mem hz
  have hdeg : ∀ u ∈ bl y, c ≤ cntE (outE es i) (bset y) (u : Int) + cntE es (bset i) (u : Int) := fun u hu => by
    obtain ⟨hu64, hub⟩ := mem_bl.1 hu
    have huy : (u : Int) ∈ bset y := (bit_mem hu64).2 hub
    rw [hyb, Bool.and_eq_true] at hub
    have h1 := (hS _ (hKS u hub.1).2).2.2
    rw [dg_cnt hz] at h1
    have h2 := cnt_split (es := es) (u := u) hsplit (hdis _ huy) hdis
    omega
  have hsum := sum_ge_const hdeg
  rw [sum_add_map] at hsum
  have hnd : (bset y).Nodup := (bset_sorted y).imp fun h => Int.ne_of_lt h
  have h2 := sum_cnt (es := outE es i) hnd (fun e he => by
    have := hlt e (List.mem_filter.1 he).1
    omega)
  have h3 : ((bset y).map fun v => cntE (outE es i) (bset y) v).sum = ((bl y).map fun u : Nat => cntE (outE es i) (bset y) (u : Int)).sum := by
    unfold bset nts
    rw [List.map_map]; rfl
  have h4 := out_sum es hoy
  have hg : gn es i y = insE (outE es i) (bset y) + ((bl y).map fun v : Nat => cntE es (bset i) (v : Int)).sum := by unfold gn; omega
  rw [h3] at h2
  rw [← pop_bl] at hsum
  have hle : c * pop y ≤ 2 * gn es i y := by omega
  have hmax := h.max y hoy
  refine Nat.le_of_mul_le_mul_right (c := pop y) ?_ hpy
  calc c * D * pop y = D * (c * pop y) := by rw [Nat.mul_comm c D, Nat.mul_assoc]
    _ ≤ D * (2 * gn es i y) := Nat.mul_le_mul_left _ hle
    _ = 2 * (D * gn es i y) := by rw [← Nat.mul_assoc, Nat.mul_comm D 2, Nat.mul_assoc]
    _ ≤ 2 * (N * pop y) := Nat.mul_le_mul_left _ hmax
    _ = 2 * N * pop y := by rw [Nat.mul_assoc]
theorem LvP.cover {n : Nat} {es : List (Int × Int)} : ∀ {ls : List (Nat × Nat × Nat)} {i : Nat}, LvP n es i ls → ∀ v, v < n → i.testBit v = false → ∃ l ∈ ls, l.1.testBit v = true
  | [], i, h, v, hv, hi => by
    have : i = allM n := h
    rw [this, allM_bit, decide_eq_true hv] at hi; cases hi
  | (x, N, D) :: ls, i, h, v, hv, hi => by
    cases hc : x.testBit v with
    | true => exact ⟨_, List.mem_cons_self .., hc⟩
    | false =>
      obtain ⟨l, hl, h2⟩ := LvP.cover h.2.2 v hv (by rw [Nat.testBit_or, hi, hc]; rfl)
      exact ⟨l, List.mem_cons_of_mem _ hl, h2⟩
theorem nmb_of {ls : List (Nat × Nat × Nat)} {v : Nat} (h : ∃ l ∈ ls, l.1.testBit v = true) : ∃ l ∈ ls, l.1.testBit v = true ∧ nmb ls v = (((l.2.1 : Nat) : Int), ((l.2.2 : Nat) : Int)) := by
  have key : ∀ (ls : List (Nat × Nat × Nat)) (a : Int × Int), (∃ l ∈ ls, l.1.testBit v = true ∧ ls.foldl (fun a l => if l.1.testBit v = true then (((l.2.1 : Nat) : Int), ((l.2.2 : Nat) : Int)) else a) a = (((l.2.1 : Nat) : Int), ((l.2.2 : Nat) : Int))) ∨ ((∀ l ∈ ls, l.1.testBit v = false) ∧ ls.foldl (fun a l => if l.1.testBit v = true then (((l.2.1 : Nat) : Int), ((l.2.2 : Nat) : Int)) else a) a = a) := by
    intro ls
    induction ls with
    | nil => intro a; exact .inr ⟨fun l hl => (by cases hl), rfl⟩
    | cons b ls ih =>
      intro a
      rw [List.foldl_cons]
      rcases ih (if b.1.testBit v = true then (((b.2.1 : Nat) : Int), ((b.2.2 : Nat) : Int)) else a) with ⟨l, hl, h1, h2⟩ | ⟨h1, h2⟩
      · exact .inl ⟨l, List.mem_cons_of_mem _ hl, h1, h2⟩
      · cases hb : b.1.testBit v with
        | true => rw [hb, if_pos rfl] at h2; exact .inl ⟨b, List.mem_cons_self .., hb, by rw [if_pos rfl]; exact h2⟩
        | false =>
          rw [hb, if_neg (by decide)] at h2
          refine .inr ⟨fun l hl => ?_, by rw [if_neg (by decide)]; exact h2⟩
          rcases List.mem_cons.1 hl with rfl | hl
          · exact hb
          · exact h1 l hl
  rcases key ls (0, 0) with h1 | ⟨h1, -⟩
  · exact h1
  · obtain ⟨l, hl, h2⟩ := h
    rw [h1 l hl] at h2; cases h2
/-- A core number is at least the node's gain, and at most twice it. -/
theorem core_gain {n : Nat} {es : List (Int × Int)} {ls : List (Nat × Nat × Nat)} {ns : List Int} (h : LvP n es 0 ls) (hz : chkG n es = 0) (hn : n ≤ 64) (hN : IsNums (nbG n es) n ns) {v : Nat} (hv : v < n) :
    ∃ N D c : Nat, nmb ls v = ((N : Int), (D : Int)) ∧ ns.getD v 0 = (c : Int) ∧ N ≤ c * D ∧ c * D ≤ 2 * N ∧ N ≤ 266240 ∧ D ≤ 64 ∧ c ≤ 133120 * 64 := by
  have hlt := chkE_lt (chkG_zero hz).2.2
  have hne : ∀ e ∈ es, e.1 ≠ e.2 := fun e he => by have := hlt e he; omega
  obtain ⟨c0, hin, hnot⟩ := hN.2 v hv
  obtain ⟨c, hc⟩ := Int.eq_ofNat_of_zero_le c0
  rw [hc] at hin hnot
  obtain ⟨l, hl, hlv, hnm⟩ := nmb_of (h.cover v hv (Nat.zero_testBit v))
  obtain ⟨x, N, D⟩ := l
  obtain ⟨j, hj⟩ := h.sub _ hl
  have hup := hj.high hz hn hlv hin
  obtain ⟨U, hUv, hUn, hU⟩ := h.low hn hne (Inn.zero n) (fun x N D _ u hu => by rw [Nat.zero_testBit] at hu; cases hu) _ hl v hlv
  have hD := hj.D0
  have hlim := hj.lim
  have hlow : N ≤ c * D := by
    rcases Nat.lt_or_ge (c * D) N with hlt2 | hge
    · exfalso
      refine hnot ⟨bset U, (bit_mem (by omega)).2 hUv, fun u hu => ?_⟩
      unfold bset nts at hu
      obtain ⟨k, hk, rfl⟩ := List.mem_map.1 hu
      obtain ⟨hk64, hkb⟩ := mem_bl.1 hk
      have hkn := hUn k hkb
      have h1 := hU k hkb
      simp only at h1
      rw [dg_cnt hz]
      have h2 : c * D < D * cntE es (bset U) (k : Int) := Nat.lt_of_lt_of_le hlt2 h1
      rw [Nat.mul_comm c D] at h2
      have h3 := Nat.lt_of_mul_lt_mul_left h2
      exact ⟨by omega, by omega, by omega⟩
    · exact hge
  refine ⟨N, D, c, hnm, hc, hlow, hup, hlim.1, hlim.2, ?_⟩
  have : c * 1 ≤ c * D := Nat.mul_le_mul_left _ hD
  have hup' : c * D ≤ 2 * N := hup
  have hlim' : N ≤ 266240 := hlim.1
  rw [Nat.mul_one] at this
  generalize c * D = z at *
  omega
end Go.Proofs.YticekkjambkifaaDoor.Fl
