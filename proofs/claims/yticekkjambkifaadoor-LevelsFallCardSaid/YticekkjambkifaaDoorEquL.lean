/- slices.Equal of numbers, slices.EqualFunc of levels. -/
import Derived.Test.YticekkjambkifaaDoorBldB
set_option linter.unusedVariables false
set_option linter.unusedSimpArgs false
namespace Go.Proofs.YticekkjambkifaaDoor.Fl
open Go.RowKit Go.Proofs.YticekkjambkifaaDoor CoBit CoRat Rt

theorem eq_takeG {α : Type} {xs ys : List α} {k : Nat} {x y : α} (h : xs.take k = ys.take k) (hx : xs[k]? = some x) (hy : ys[k]? = some y) : (x = y → xs.take (k + 1) = ys.take (k + 1)) ∧ (x ≠ y → xs ≠ ys) := by
  refine ⟨fun e => ?_, fun e hh => ?_⟩
  · rw [List.take_add_one, List.take_add_one, h, hx, hy, e]
  · subst hh; rw [hx] at hy; injection hy with hy; exact e hy
set_option maxRecDepth 100000 in
set_option maxHeartbeats 4000000 in
theorem iequal_any (A B : Option Addr) (n m c d : Nat) (xs ys : List Int) (w : World) (h : RI w A n xs) (h' : RI w B m ys) (hn : n ≤ 1099511627776) (hm : m ≤ 1099511627776) :
    Calls Tryd.prog 73 #[.slice A n c, .slice B m d] w fun e w' => e = .returned (.bool (decide (xs = ys))) ∧ Below w.heap.size w w' := by
  have hl := h.len
  have hl' := h'.len
  by_cases hnm : n = m
  · subst hnm
    replace hl := Lib.hid hl
    replace hl' := Lib.hid hl'
    go_enter Tryd.func73, Tryd.ntmps73
    go_wp2_with fail
    go_loopw [13] (fun i wr => ∃ k : Nat, k ≤ n ∧ i = .int .i64 k ∧ Hid (xs.take k = ys.take k) ∧ Below w.heap.size w wr) (fun i _ => n - (intOf i).toNat)
    case atStart => exact ⟨0, Nat.zero_le _, rfl, Lib.hid rfl, Below.refl _ _⟩
    case round =>
      obtain ⟨k, hk, rfl, hx, hb⟩ := hrel
      by_cases hlt : k < n
      · obtain ⟨ad, x, rfl, hxk, hcx⟩ := (h.below hb (Nat.le_refl _)).get hlt
        obtain ⟨bd, y, rfl, hyk, hcy⟩ := (h'.below hb (Nat.le_refl _)).get hlt
        have hst := eq_takeG hx.out hxk.out hyk.out
        have i2 : (0 : Int) ≤ (k : Int) := Int.natCast_nonneg _
        have i3 : (k : Int) < (n : Int) := by omega
        clear hx hxk hyk
        by_cases he : x = y
        · subst he
          have hst1 := Lib.hid (hst.1 rfl)
          clear hst
          have e1 : (x != x) = false := by simp
          go_wp2_with fail
          go_quiet (fail)
          go_wp2_with fail
          go_roundw
          case rel => exact ⟨k + 1, by omega, by go_num, hst1, below_drewN hb _⟩
          case measure => simp [intOf]; omega
        · have hst1 := Lib.hid (hst.2 he)
          have e1 : (x != y) = true := by simp; exact he
          clear hst
          go_wp2_with fail
          go_quiet (fail)
          go_wp2_with fail
          go_ret
          exact ⟨by rw [decide_eq_false hst1.out]; rfl, below_drewN hb _⟩
      · obtain rfl : k = n := by omega
        have hf : Hid (xs = ys) := Lib.hid (by have := hx.out; rw [← hl.out, List.take_length, hl.out, ← hl'.out, List.take_length] at this; exact this)
        clear hx
        go_wp2_with fail
        go_ret
        exact ⟨by rw [decide_eq_true hf.out]; rfl, hb⟩
  · have hne : Hid (xs ≠ ys) := Lib.hid (fun e => by subst e; omega)
    have e1 : ((n : Int) != (m : Int)) = true := by simp; omega
    clear hl hl'
    go_enter Tryd.func73, Tryd.ntmps73
    go_wp2_with fail
    go_ret
    exact ⟨by rw [decide_eq_false hne.out]; rfl, Below.refl _ _⟩
/-- What a level is compared by. -/
abbrev Key := Int × Int × List Int
/-- A list of dense sets that reads. -/
structure KL (w : World) (A : Option Addr) (k : Nat) (ks : List Key) (rs : List Dn) : Prop where
  rd : RS DE w A k rs
  len : rs.length = ks.length
  el : ∀ (i : Nat) (r : Dn) (q : Key), rs[i]? = some r → ks[i]? = some q → r.N = q.1 ∧ r.D = q.2.1 ∧ RI w r.A r.n q.2.2 ∧ r.n ≤ 1099511627776
theorem KL.below {w w' : World} {A : Option Addr} {k : Nat} {ks : List Key} {rs : List Dn} (h : KL w A k ks rs) (hb : Below w.heap.size w w') : KL w' A k ks rs :=
  ⟨h.rd.below hb (Nat.le_refl _), h.len, fun i r q h1 h2 => by
    obtain ⟨a1, a2, a3, a4⟩ := h.el i r q h1 h2
    exact ⟨a1, a2, a3.below hb (Nat.le_refl _), a4⟩⟩
def keyL (l : Nat × Nat × Nat) : Key := ((l.2.1 : Nat), (l.2.2 : Nat), bset l.1)
theorem LvR.kl {w : World} {A : Option Addr} {k : Nat} {ls : List (Nat × Nat × Nat)} {rs : List Dn} (h : LvR w A k ls rs) : KL w A k (ls.map keyL) rs :=
  ⟨h.rd, by rw [List.length_map]; exact h.len, fun i r q h1 h2 => by
    rw [List.getElem?_map] at h2
    cases hl : ls[i]? with
    | none => rw [hl] at h2; cases h2
    | some l =>
      rw [hl] at h2
      injection h2 with h2
      subst h2
      obtain ⟨a1, a2, a3, a4, a5, a6, a7, a8⟩ := h.el i r l h1 hl
      refine ⟨a1, a2, a7, ?_⟩
      have h3 := a7.len
      have h4 : r.n = pop l.1 := (by rw [← h3]; unfold bset; rw [nts_length, pop_bl])
      have := pop_le l.1
      omega⟩
theorem enter_chk1 (args : Array Value) (w : World) : Sem.run Tryd.prog (callFunc 72 args) w = .ok (.enter 72 args) w := by
  have h1 : ¬ Tryd.f72.name = "runtime.NumGoroutine" := fun h => by
    have h2 : ( Tryd.f72.name == "runtime.NumGoroutine") = false := by kernel_rfl
    rw [h] at h2; simp at h2
  have h3 : ¬ Tryd.f72.body = none := by
    have h2 : Tryd.f72.body.isNone = false := by kernel_rfl
    intro h; rw [h] at h2; cases h2
  simp [callFunc, go_sem, Tryd.func72, h1, h3]
set_option maxRecDepth 100000 in
set_option maxHeartbeats 4000000 in
theorem chk1_any (A B P P' : Option Addr) (n m c d p p' q q' : Nat) (N D e N' D' e' : Int) (xs ys : List Int) (w : World) (h : RI w A n xs) (h' : RI w B m ys) (hn : n ≤ 1099511627776) (hm : m ≤ 1099511627776) :
    Calls Tryd.prog 72 #[.agg #[.slice A n c, .int .i64 N, .int .i64 D, .int .i64 e, .slice P p q], .agg #[.slice B m d, .int .i64 N', .int .i64 D', .int .i64 e', .slice P' p' q']] w fun e w' => e = .returned (.bool (decide ((N, D, xs) = (N', D', ys)))) ∧ Below w.heap.size w w' := by
  have B0 : Below w.heap.size w ((w.alloc (.cells #[.slice A n c, .int .i64 N, .int .i64 D, .int .i64 e, .slice P p q] 48)).alloc (.cells #[.slice B m d, .int .i64 N', .int .i64 D', .int .i64 e', .slice P' p' q'] 48)) := ((Below.refl _ w).alloc (Nat.le_refl _) _).alloc (by simp) _
  have k1 := fun w h h' => iequal_any A B n m c d xs ys w h h' hn hm
  replace k1 := Lib.hid k1
  have X0 := (Blk.new w 48 #[.slice A n c, .int .i64 N, .int .i64 D, .int .i64 e, .slice P p q]).alloc (.cells #[.slice B m d, .int .i64 N', .int .i64 D', .int .i64 e', .slice P' p' q'] 48)
  have Y0 : Blk ((w.alloc (.cells #[.slice A n c, .int .i64 N, .int .i64 D, .int .i64 e, .slice P p q] 48)).alloc (.cells #[.slice B m d, .int .i64 N', .int .i64 D', .int .i64 e', .slice P' p' q'] 48)) (w.heap.size + 1) 48 #[.slice B m d, .int .i64 N', .int .i64 D', .int .i64 e', .slice P' p' q'] := Blk.new' _ _ _ (by simp)
  have h0 := h.below B0 (Nat.le_refl _)
  have h0' := h'.below B0 (Nat.le_refl _)
  by_cases hN : N = N'
  · subst hN
    by_cases hD : D = D'
    · subst hD
      have hv : decide ((N, D, xs) = (N, D, ys)) = decide (xs = ys) := by simp
      rw [hv]
      have e1 : (N == N) = true := beq_self_eq_true _
      have e2 : (D == D) = true := beq_self_eq_true _
      clear h h' hv
      go_enter Tryd.func72, Tryd.ntmps72
      go_upto_region 1 with fail
      generalize (w.alloc (.cells #[.slice A n c, .int .i64 N, .int .i64 D, .int .i64 e, .slice P p q] 48)).alloc (.cells #[.slice B m d, .int .i64 N, .int .i64 D, .int .i64 e', .slice P' p' q'] 48) = W at *
      have x0 := Blk.cell X0 0
      have x1 := Blk.cell X0 1
      have x2 := Blk.cell X0 2
      have y0 := Blk.cell Y0 0
      have y1 := Blk.cell Y0 1
      have y2 := Blk.cell Y0 2
      simp at x0 x1 x2 y0 y1 y2
      go_wp2_with (first | (go_at_call 73; (with_reducible refine (k1.out _ h0 h0').mono ?_); rintro e w2 ⟨rfl, hb2⟩) | fail)
      go_ret
      exact ⟨rfl, B0.trans (hb2.mono B0.size)⟩
    · have hv : decide ((N, D, xs) = (N, D', ys)) = false := decide_eq_false (fun e => hD (by injection e with _ e; injection e))
      rw [hv]
      have e1 : (N == N) = true := beq_self_eq_true _
      have e2 : (D == D') = false := by rw [beq_eq_false_iff_ne]; exact hD
      clear h h' hv
      go_enter Tryd.func72, Tryd.ntmps72
      go_upto_region 1 with fail
      generalize (w.alloc (.cells #[.slice A n c, .int .i64 N, .int .i64 D, .int .i64 e, .slice P p q] 48)).alloc (.cells #[.slice B m d, .int .i64 N, .int .i64 D', .int .i64 e', .slice P' p' q'] 48) = W at *
      have x0 := Blk.cell X0 0
      have x1 := Blk.cell X0 1
      have x2 := Blk.cell X0 2
      have y0 := Blk.cell Y0 0
      have y1 := Blk.cell Y0 1
      have y2 := Blk.cell Y0 2
      simp at x0 x1 x2 y0 y1 y2
      go_wp2_with fail
      go_ret
      exact ⟨rfl, B0⟩
  · have hv : decide ((N, D, xs) = (N', D', ys)) = false := decide_eq_false (fun e => hN (by injection e))
    rw [hv]
    have e1 : (N == N') = false := by rw [beq_eq_false_iff_ne]; exact hN
    clear h h' hv
    go_enter Tryd.func72, Tryd.ntmps72
    go_upto_region 1 with fail
    generalize (w.alloc (.cells #[.slice A n c, .int .i64 N, .int .i64 D, .int .i64 e, .slice P p q] 48)).alloc (.cells #[.slice B m d, .int .i64 N', .int .i64 D', .int .i64 e', .slice P' p' q'] 48) = W at *
    have x0 := Blk.cell X0 0
    have x1 := Blk.cell X0 1
    have x2 := Blk.cell X0 2
    have y0 := Blk.cell Y0 0
    have y1 := Blk.cell Y0 1
    have y2 := Blk.cell Y0 2
    simp at x0 x1 x2 y0 y1 y2
    go_wp2_with fail
    go_ret
    exact ⟨rfl, B0⟩
set_option maxRecDepth 100000 in
set_option maxHeartbeats 4000000 in
theorem dequal_any (A B : Option Addr) (n m c d : Nat) (ks qs : List Key) (rs ts : List Dn) (w : World) (h : KL w A n ks rs) (h' : KL w B m qs ts) (hn : n ≤ 1099511627776) (hm : m ≤ 1099511627776) :
    Calls Tryd.prog 71 #[.slice A n c, .slice B m d, .func (.func 72) #[] #[]] w fun e w' => e = .returned (.bool (decide (ks = qs))) ∧ Below w.heap.size w w' := by
  have ken := enter_chk1
  have hl : ks.length = n := by rw [← h.len]; exact h.rd.len
  have hl' : qs.length = m := by rw [← h'.len]; exact h'.rd.len
  by_cases hnm : n = m
  · subst hnm
    replace hl := Lib.hid hl
    replace hl' := Lib.hid hl'
    go_enter Tryd.func71, Tryd.ntmps71
    go_wp2_with fail
    go_loopw [17] (fun i wr => ∃ k : Nat, k ≤ n ∧ i = .int .i64 k ∧ Hid (ks.take k = qs.take k) ∧ Below w.heap.size w wr) (fun i _ => n - (intOf i).toNat)
    case atStart => exact ⟨0, Nat.zero_le _, rfl, Lib.hid rfl, Below.refl _ _⟩
    case round =>
      obtain ⟨k, hk, rfl, hx, hb⟩ := hrel
      by_cases hlt : k < n
      · have H1 := h.below hb
        have H2 := h'.below hb
        obtain ⟨ad, r, rfl, -, hr, y0, y1, y2, y3, y4⟩ := rs_get5 H1.rd hlt
        obtain ⟨bd, s, rfl, hbb, hs, z0, z1, z2, z3, z4⟩ := rs_get5 H2.rd hlt
        have hkk : ks[k]? = some (ks[k]'(by rw [hl.out]; exact hlt)) := List.getElem?_eq_getElem _
        have hqq : qs[k]? = some (qs[k]'(by rw [hl'.out]; exact hlt)) := List.getElem?_eq_getElem _
        generalize ks[k]'(by rw [hl.out]; exact hlt) = kx at hkk
        generalize qs[k]'(by rw [hl'.out]; exact hlt) = qx at hqq
        obtain ⟨N, D, xs⟩ := kx
        obtain ⟨N', D', ys⟩ := qx
        obtain ⟨rA, rn, rc, rN, rD, re, rP, rm, rk⟩ := r
        obtain ⟨sA, sn, sc, sN, sD, se, sP, sm, sk⟩ := s
        obtain ⟨a1, a2, a3, a4⟩ := H1.el k _ _ hr.out hkk
        obtain ⟨b1, b2, b3, b4⟩ := H2.el k _ _ hs.out hqq
        simp only at a1 a2 a3 a4 b1 b2 b3 b4 y0 y1 y2 y3 y4 z0 z1 z2 z3 z4
        subst a1; subst a2; subst b1; subst b2
        have hst := eq_takeG hx.out hkk hqq
        have i2 : (0 : Int) ≤ (k : Int) := Int.natCast_nonneg _
        have i3 : (k : Int) < (n : Int) := by omega
        have B5 : Below w.heap.size w ((wr.alloc (.cells #[.slice rA rn rc, .int .i64 rN, .int .i64 rD, .int .i64 re, .slice rP rm rk] 48)).alloc (.cells #[.slice sA sn sc, .int .i64 sN, .int .i64 sD, .int .i64 se, .slice sP sm sk] 48)) := (hb.alloc hb.size _).alloc (by have := hb.size; simp; omega) _
        have k5 := chk1_any rA sA rP sP rn sn rc sc rm sm rk sk rN rD re sN sD se xs ys ((wr.alloc (.cells #[.slice rA rn rc, .int .i64 rN, .int .i64 rD, .int .i64 re, .slice rP rm rk] 48)).alloc (.cells #[.slice sA sn sc, .int .i64 sN, .int .i64 sD, .int .i64 se, .slice sP sm sk] 48)) ((a3.alloc _).alloc _) ((b3.alloc _).alloc _) a4 b4
        obtain ⟨V, hV⟩ : ∃ V : Bool, V = decide ((rN, rD, xs) = (sN, sD, ys)) := ⟨_, rfl⟩
        rw [← hV] at k5
        replace k5 := Lib.hid k5
        replace hst := Lib.hid hst
        replace hV := Lib.hid hV
        have hbd : (bd.add (k * 5)).block < wr.heap.size := by rw [block_of_add]; exact hbb
        have v0 := (World.cell?_alloc_lt wr (.cells #[.slice rA rn rc, .int .i64 rN, .int .i64 rD, .int .i64 re, .slice rP rm rk] 48) _ hbd).trans z0
        have v1 := (World.cell?_alloc_lt wr (.cells #[.slice rA rn rc, .int .i64 rN, .int .i64 rD, .int .i64 re, .slice rP rm rk] 48) ⟨(bd.add (k * 5)).block, (bd.add (k * 5)).off + 1, none⟩ hbd).trans z1
        have v2 := (World.cell?_alloc_lt wr (.cells #[.slice rA rn rc, .int .i64 rN, .int .i64 rD, .int .i64 re, .slice rP rm rk] 48) ⟨(bd.add (k * 5)).block, (bd.add (k * 5)).off + 2, none⟩ hbd).trans z2
        have v3 := (World.cell?_alloc_lt wr (.cells #[.slice rA rn rc, .int .i64 rN, .int .i64 rD, .int .i64 re, .slice rP rm rk] 48) ⟨(bd.add (k * 5)).block, (bd.add (k * 5)).off + 3, none⟩ hbd).trans z3
        have v4 := (World.cell?_alloc_lt wr (.cells #[.slice rA rn rc, .int .i64 rN, .int .i64 rD, .int .i64 re, .slice rP rm rk] 48) ⟨(bd.add (k * 5)).block, (bd.add (k * 5)).off + 4, none⟩ hbd).trans z4
        clear hx hkk hqq H1 H2 hr hs a3 b3 z0 z1 z2 z3 z4 hbd hbb
        go_wp2_with fail
        (with_reducible refine k5.out.mono ?_)
        rintro e w6 ⟨rfl, hb6⟩
        have B6 := B5.trans (hb6.mono B5.size)
        clear k5 hb6 B5 y0 y1 y2 y3 y4 v0 v1 v2 v3 v4
        cases V with
        | true =>
          have hst1 := Lib.hid (hst.out.1 (of_decide_eq_true hV.out.symm))
          go_wp2_with fail
          go_roundw
          case rel => exact ⟨k + 1, by omega, by go_num, hst1, B6⟩
          case measure => simp [intOf]; omega
        | false =>
          have hst1 := Lib.hid (hst.out.2 (of_decide_eq_false hV.out.symm))
          go_wp2_with fail
          go_ret
          exact ⟨by rw [decide_eq_false hst1.out]; rfl, B6⟩
      · obtain rfl : k = n := by omega
        have hf : Hid (ks = qs) := Lib.hid (by have := hx.out; rw [← hl.out, List.take_length, hl.out, ← hl'.out, List.take_length] at this; exact this)
        clear hx
        go_wp2_with fail
        go_ret
        exact ⟨by rw [decide_eq_true hf.out]; rfl, hb⟩
  · have hne : Hid (ks ≠ qs) := Lib.hid (fun e => by subst e; omega)
    have e1 : ((n : Int) != (m : Int)) = true := by simp; omega
    clear hl hl'
    go_enter Tryd.func71, Tryd.ntmps71
    go_wp2_with fail
    go_ret
    exact ⟨by rw [decide_eq_false hne.out]; rfl, Below.refl _ _⟩
end Go.Proofs.YticekkjambkifaaDoor.Fl
