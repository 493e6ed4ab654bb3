/- levels.formed and levels.Check. -/
import Derived.Test.YticekkjambkifaaDoorEquL
set_option linter.unusedVariables false
set_option linter.unusedSimpArgs false
namespace Go.Proofs.YticekkjambkifaaDoor.Fl
open Go.RowKit Go.Proofs.YticekkjambkifaaDoor CoBit CoRat Rt

/-- The set bits of a list of numbers. -/
noncomputable def mo (s : List Int) : Nat := Classical.choose (mof_ex s)
theorem mo_spec (s : List Int) : MOf s (mo s) := Classical.choose_spec (mof_ex s)
/-- A dense set as it is given: its fraction, set, and of its split the number of parts and the denominator. -/
abbrev Giv := Int × Int × List Int × Nat × Int
def okD (n seen : Nat) (q : Giv) : Prop := q.2.2.1.length ≠ 0 ∧ Vld q.2.2.1 n ∧ seen &&& mo q.2.2.1 = 0 ∧ q.2.2.2.1 = 0 ∧ q.2.2.2.2 = 0
noncomputable instance (n seen : Nat) (q : Giv) : Decidable (okD n seen q) := Classical.propDecidable _
/-- What formed answers. -/
noncomputable def frm (n : Nat) : Nat → List Giv → Bool
  | seen, [] => decide (seen = allM n)
  | seen, q :: r => if okD n seen q then frm n (seen ||| mo q.2.2.1) r else false
/-- A list of given dense sets that reads. -/
structure RawL (w : World) (A : Option Addr) (k : Nat) (ds : List Giv) (rs : List Dn) : Prop where
  rd : RS DE w A k rs
  len : rs.length = ds.length
  el : ∀ (i : Nat) (r : Dn) (q : Giv), rs[i]? = some r → ds[i]? = some q → r.N = q.1 ∧ r.D = q.2.1 ∧ RI w r.A r.n q.2.2.1 ∧ r.n ≤ 1099511627776 ∧ r.m = q.2.2.2.1 ∧ r.e = q.2.2.2.2
theorem RawL.below {w w' : World} {A : Option Addr} {k : Nat} {ds : List Giv} {rs : List Dn} (h : RawL w A k ds rs) (hb : Below w.heap.size w w') : RawL w' A k ds rs :=
  ⟨h.rd.below hb (Nat.le_refl _), h.len, fun i r q h1 h2 => by
    obtain ⟨a1, a2, a3, a4, a5, a6⟩ := h.el i r q h1 h2
    exact ⟨a1, a2, a3.below hb (Nat.le_refl _), a4, a5, a6⟩⟩
def keyD (q : Giv) : Key := (q.1, q.2.1, q.2.2.1)
theorem RawL.kl {w : World} {A : Option Addr} {k : Nat} {ds : List Giv} {rs : List Dn} (h : RawL w A k ds rs) : KL w A k (ds.map keyD) rs :=
  ⟨h.rd, by rw [List.length_map]; exact h.len, fun i r q h1 h2 => by
    rw [List.getElem?_map] at h2
    cases hl : ds[i]? with
    | none => rw [hl] at h2; cases h2
    | some l =>
      rw [hl] at h2
      injection h2 with h2
      subst h2
      obtain ⟨a1, a2, a3, a4, a5, a6⟩ := h.el i r l h1 hl
      exact ⟨a1, a2, a3, a4⟩⟩
def givL (l : Nat × Nat × Nat) : Giv := ((l.2.1 : Nat), (l.2.2 : Nat), bset l.1, 0, 0)
theorem LvR.raw {w : World} {A : Option Addr} {k : Nat} {ls : List (Nat × Nat × Nat)} {rs : List Dn} (h : LvR w A k ls rs) : RawL w A k (ls.map givL) rs :=
  ⟨h.rd, by rw [List.length_map]; exact h.len, fun i r q h1 h2 => by
    rw [List.getElem?_map] at h2
    cases hl : ls[i]? with
    | none => rw [hl] at h2; cases h2
    | some l =>
      rw [hl] at h2
      injection h2 with h2
      subst h2
      obtain ⟨a1, a2, a3, a4, a5, a6, a7, a8⟩ := h.el i r l h1 hl
      refine ⟨a1, a2, a7, ?_, a5, a3⟩
      have h3 := a7.len
      have h4 : r.n = pop l.1 := (by rw [← h3]; unfold bset; rw [nts_length, pop_bl])
      have := pop_le l.1
      omega⟩
theorem drop_cons {α : Type} {l : List α} {j : Nat} {x : α} (h : l[j]? = some x) : l.drop j = x :: l.drop (j + 1) := by
  obtain ⟨hj, he⟩ := List.getElem?_eq_some_iff.1 h
  rw [List.drop_eq_getElem_cons hj, he]
set_option maxRecDepth 100000 in
set_option maxHeartbeats 8000000 in
theorem formed_any (A : Option Addr) (k c n : Nat) (ds : List Giv) (rs : List Dn) (w : World) (h : RawL w A k ds rs) (hn : n ≤ 64) (hk : k ≤ 1099511627776) :
    Calls Tryd.prog 70 #[.int .i64 (n : Nat), .slice A k c] w fun e w' => e = .returned (.bool (frm n 0 ds)) ∧ Below w.heap.size w w' := by
  have ka := Lib.hid (fun w => (all_any n hn w).mono (fun (e : Ending) (w' : World) (h : e = .returned (.int .u64 (allM n : Nat)) ∧ w = w') => (⟨h.1, h.2.symm⟩ : e = .returned (.int .u64 (allM n : Nat)) ∧ w' = w)))
  have hl : Hid (ds.length = k) := Lib.hid (by rw [← h.len]; exact h.rd.len)
  go_enter Tryd.func70, Tryd.ntmps70
  go_wp2_with fail
  go_loopw [5, 11] (fun sv i wr => ∃ (j seen : Nat), j ≤ k ∧ i = .int .i64 (j : Nat) ∧ sv = .int .u64 (seen : Nat) ∧ seen < 18446744073709551616 ∧ Hid (frm n 0 ds = frm n seen (ds.drop j)) ∧ Below w.heap.size w wr) (fun _ i _ => k - (intOf i).toNat)
  case atStart => exact ⟨0, 0, Nat.zero_le _, rfl, rfl, by omega, Lib.hid rfl, Below.refl _ _⟩
  case round =>
    obtain ⟨j, seen, hj, rfl, rfl, hsn, hfr, hb⟩ := hrel
    by_cases hlt : j < k
    · have i0 : (j : Int) < (k : Int) := by omega
      have i1 : (0 : Int) ≤ (j : Int) := by omega
      have H1 := h.below hb
      obtain ⟨ad, r, hAd, -, hr, y0, y1, y2, y3, y4⟩ := rs_get5 H1.rd hlt
      have hdj : ds[j]? = some (ds[j]'(by rw [hl.out]; exact hlt)) := List.getElem?_eq_getElem _
      generalize ds[j]'(by rw [hl.out]; exact hlt) = dj at hdj
      obtain ⟨N, D, s, m, e⟩ := dj
      obtain ⟨rA, rn, rc, rN, rD, re, rP, rm, rk⟩ := r
      obtain ⟨a1, a2, a3, a4, a5, a6⟩ := H1.el j _ _ hr.out hdj
      simp only at a1 a2 a3 a4 a5 a6 y0 y1 y2 y3 y4
      subst a1; subst a2; subst a5; subst a6
      have hdr := drop_cons hdj
      have hfr2 : frm n 0 ds = if okD n seen (rN, rD, s, rm, re) then frm n (seen ||| mo s) (ds.drop (j + 1)) else false := by rw [hfr.out, hdr]; rfl
      have hM := mo_spec s
      have hMx := hM.1
      have S5 := a3.alloc (.cells #[.slice rA rn rc, .int .i64 rN, .int .i64 rD, .int .i64 re, .slice rP rm rk] 48)
      have X5 := Blk.new wr 48 #[.slice rA rn rc, .int .i64 rN, .int .i64 rD, .int .i64 re, .slice rP rm rk]
      have B5 := hb.alloc hb.size (.cells #[.slice rA rn rc, .int .i64 rN, .int .i64 rD, .int .i64 re, .slice rP rm rk] 48)
      have hsl := a3.len
      replace hfr2 := Lib.hid hfr2
      subst hAd
      clear hr hdj H1 hdr hfr
      go_upto_region 5 with fail
      clear y0 y1 y2 y3 y4 a3 hb
      generalize wr.alloc (.cells #[.slice rA rn rc, .int .i64 rN, .int .i64 rD, .int .i64 re, .slice rP rm rk] 48) = w5 at *
      generalize wr.heap.size = gx at *
      have x0 := Blk.cell X5 0
      have x3 := Blk.cell X5 3
      have x4 := Blk.cell X5 4
      simp at x0 x3 x4
      have km := Lib.hid (mof_at rA rn rc s (mo s) hM w5 S5 (by omega))
      have kv := nvalid_any rA rn rc s n w5 S5 (by omega)
      have ea := bits_and_u64_nat seen (mo s) hsn hMx
      have eo := bits_or_u64_nat seen (mo s) hsn hMx
      have ho64 : seen ||| mo s < 18446744073709551616 := by
        have := Nat.or_lt_two_pow (n := 64) (x := seen) (y := mo s) (by omega) (by omega)
        simpa using this
      obtain ⟨x, hx⟩ : ∃ x, x = mo s := ⟨_, rfl⟩
      rw [← hx] at ea eo km hMx ho64 hfr2
      obtain ⟨y, hy⟩ : ∃ y, y = seen &&& x := ⟨_, rfl⟩
      obtain ⟨z, hz⟩ : ∃ z, z = seen ||| x := ⟨_, rfl⟩
      rw [← hy] at ea
      rw [← hz] at eo ho64 hfr2
      have hok : Hid (okD n seen (rN, rD, s, rm, re) ↔ (rn ≠ 0 ∧ Vld s n ∧ y = 0 ∧ rm = 0 ∧ re = 0)) := Lib.hid (by unfold okD; rw [hy, hx]; simp only; rw [hsl])
      clear hx hy hz hM S5 X5
      by_cases c1 : rn = 0
      · have hF : Hid (frm n 0 ds = false) := Lib.hid (by rw [hfr2.out, if_neg (fun h => (hok.out.1 h).1 c1)])
        have q1 : ((rn : Int) == 0) = true := by rw [c1]; rfl
        clear kv hfr2 hok c1 eo ea
        go_wp2_with (first | (go_at_call 61; (with_reducible refine km.out.mono ?_); rintro e w6 ⟨rfl, hw⟩; obtain rfl := hw) | fail)
        go_ret
        exact ⟨by rw [hF.out]; rfl, B5⟩
      · have q1 : ((rn : Int) == 0) = false := by rw [beq_eq_false_iff_ne]; omega
        by_cases c2 : Vld s n
        · rw [decide_eq_true c2] at kv
          replace kv := Lib.hid kv
          by_cases c3 : y = 0
          · have q3 : ((y : Int) != 0) = false := by rw [c3]; rfl
            by_cases c4 : rm = 0
            · have q4 : ¬ (0 : Int) < (rm : Int) := by omega
              by_cases c5 : re = 0
              · have hF : Hid (frm n 0 ds = frm n z (ds.drop (j + 1))) := Lib.hid (by rw [hfr2.out, if_pos (hok.out.2 ⟨c1, c2, c3, c4, c5⟩)])
                have q5 : (re != 0) = false := by rw [c5]; rfl
                clear hfr2 hok c1 c2 c3 c4 c5
                go_wp2_with (first | (go_at_call 61; (with_reducible refine km.out.mono ?_); rintro e w6 ⟨rfl, hw⟩; obtain rfl := hw) | (go_at_call 60; (with_reducible refine kv.out.mono ?_); rintro e w7 ⟨rfl, hw⟩; obtain rfl := hw) | fail)
                go_roundw
                case rel => exact ⟨j + 1, z, by omega, by go_num, rfl, ho64, hF, B5⟩
                case measure => simp [intOf]; omega
              · have hF : Hid (frm n 0 ds = false) := Lib.hid (by rw [hfr2.out, if_neg (fun h => c5 (hok.out.1 h).2.2.2.2)])
                have q5 : (re != 0) = true := by simp; exact c5
                clear hfr2 hok c1 c2 c3 c4 c5
                go_wp2_with (first | (go_at_call 61; (with_reducible refine km.out.mono ?_); rintro e w6 ⟨rfl, hw⟩; obtain rfl := hw) | (go_at_call 60; (with_reducible refine kv.out.mono ?_); rintro e w7 ⟨rfl, hw⟩; obtain rfl := hw) | fail)
                go_ret
                exact ⟨by rw [hF.out]; rfl, B5⟩
            · have q4 : (0 : Int) < (rm : Int) := by omega
              have hF : Hid (frm n 0 ds = false) := Lib.hid (by rw [hfr2.out, if_neg (fun h => c4 (hok.out.1 h).2.2.2.1)])
              clear hfr2 hok c1 c2 c3 c4
              go_wp2_with (first | (go_at_call 61; (with_reducible refine km.out.mono ?_); rintro e w6 ⟨rfl, hw⟩; obtain rfl := hw) | (go_at_call 60; (with_reducible refine kv.out.mono ?_); rintro e w7 ⟨rfl, hw⟩; obtain rfl := hw) | fail)
              go_ret
              exact ⟨by rw [hF.out]; rfl, B5⟩
          · have q3 : ((y : Int) != 0) = true := by simp; omega
            have hF : Hid (frm n 0 ds = false) := Lib.hid (by rw [hfr2.out, if_neg (fun h => c3 (hok.out.1 h).2.2.1)])
            clear hfr2 hok c1 c2 c3
            go_wp2_with (first | (go_at_call 61; (with_reducible refine km.out.mono ?_); rintro e w6 ⟨rfl, hw⟩; obtain rfl := hw) | (go_at_call 60; (with_reducible refine kv.out.mono ?_); rintro e w7 ⟨rfl, hw⟩; obtain rfl := hw) | fail)
            go_ret
            exact ⟨by rw [hF.out]; rfl, B5⟩
        · rw [decide_eq_false c2] at kv
          replace kv := Lib.hid kv
          have hF : Hid (frm n 0 ds = false) := Lib.hid (by rw [hfr2.out, if_neg (fun h => c2 (hok.out.1 h).2.1)])
          clear hfr2 hok c1 c2 eo ea
          go_wp2_with (first | (go_at_call 61; (with_reducible refine km.out.mono ?_); rintro e w6 ⟨rfl, hw⟩; obtain rfl := hw) | (go_at_call 60; (with_reducible refine kv.out.mono ?_); rintro e w7 ⟨rfl, hw⟩; obtain rfl := hw) | fail)
          go_ret
          exact ⟨by rw [hF.out]; rfl, B5⟩
    · obtain rfl : j = k := by omega
      have i0 : ¬ (j : Int) < (j : Int) := by omega
      have hF : frm n 0 ds = decide (seen = allM n) := by
        rw [hfr.out, List.drop_of_length_le (by rw [hl.out]; exact Nat.le_refl _)]; rfl
      have hq : ((seen : Int) == ((allM n : Nat) : Int)) = frm n 0 ds := by
        rw [hF]
        by_cases e : seen = allM n
        · rw [decide_eq_true e, e]; exact beq_self_eq_true _
        · rw [decide_eq_false e, beq_eq_false_iff_ne]; omega
      obtain ⟨V, hV⟩ : ∃ V, V = frm n 0 ds := ⟨_, rfl⟩
      rw [← hV] at hq
      replace hV := Lib.hid hV
      generalize hMM : allM n = M at hq ka
      clear hF hfr hMM
      cases V
      all_goals
        go_wp2_with (first | (go_at_call 94; (with_reducible refine (ka.out _).mono ?_); rintro e wq ⟨rfl, hw⟩; obtain rfl := hw.symm) | fail)
        go_ret
        exact ⟨by rw [← hV.out]; rfl, hb⟩
theorem levels_ex {A : Option Addr} {m n : Nat} {es : List (Int × Int)} {w : World} (h : RE w A m es) (hT : Tab w) (hm : m ≤ 4096) (hz : chkG n es = 0) (hn : n ≤ 64) : ∃ ls, LvP n es 0 ls := by
  obtain ⟨e, w', fr, hq, -⟩ := build_any A m 0 n es w h hT hm hz hn []
  obtain ⟨-, -, -, ls, -, -, -, hP, -⟩ := hq
  exact ⟨ls, hP⟩
/-- What Check answers. -/
noncomputable def lchk (n : Nat) (ls : List (Nat × Nat × Nat)) (ds : List Giv) : Int := if frm n 0 ds = false then 4 else if ds.map keyD = ls.map keyL then 0 else 12
set_option maxRecDepth 100000 in
set_option maxHeartbeats 4000000 in
theorem lcheck_any (A : Option Addr) (m c n : Nat) (es : List (Int × Int)) (A' : Option Addr) (k c' : Nat) (ds : List Giv) (rs : List Dn) (w : World) (h : RE w A m es) (hT : Tab w) (hm : m ≤ 4096) (hz : chkG n es = 0) (hn : n ≤ 64) (hR : RawL w A' k ds rs) (hk : k ≤ 1099511627776) (ls : List (Nat × Nat × Nat)) (hls : LvP n es 0 ls) :
    Calls Tryd.prog 28 #[.agg #[.int .i64 (n : Nat), .slice A m c], .slice A' k c'] w fun e w' => e = .returned (.int .i64 (lchk n ls ds)) ∧ Below w.heap.size w w' := by
  have kc := fun w h => gcheck_any A m c n es w h (by omega)
  rw [hz] at kc
  replace kc := Lib.hid kc
  have kb := Lib.hid (fun w h hT => build_any A m c n es w h hT hm hz hn)
  have kf := Lib.hid (fun w h => formed_any A' k c' n ds rs w h hn hk)
  have G0 := Blk.new w 25 #[.int .i64 (n : Nat), .slice A m c]
  have E0 := h.alloc (.cells #[.int .i64 (n : Nat), .slice A m c] 25)
  have B0 : Below w.heap.size w (w.alloc (.cells #[.int .i64 (n : Nat), .slice A m c] 25)) := (Below.refl _ w).alloc (Nat.le_refl _) _
  have T0 := hT.keep B0
  have R0 := hR.below B0
  replace hls := Lib.hid hls
  clear h hT hz hR
  go_enter Tryd.func28, Tryd.ntmps28
  go_upto_region 1 with fail
  generalize w.alloc (.cells #[.int .i64 (n : Nat), .slice A m c] 25) = W at *
  obtain ⟨d0, d1⟩ := blkG G0
  go_upto_region 2 with (first | (go_at_call 52; (with_reducible refine (kc.out _ E0).mono ?_); rintro e w1 ⟨rfl, hb1⟩) | fail)
  have G1 := G0.below hb1 G0.lt
  have E1 := E0.below hb1 (Nat.le_refl _)
  have T1 := T0.keep hb1
  have R1 := R0.below hb1
  have B1 := B0.trans (hb1.mono B0.size)
  clear G0 E0 T0 R0 B0 d0 d1 hb1 kc
  obtain ⟨d0, d1⟩ := blkG G1
  obtain ⟨V, hV⟩ : ∃ V, V = frm n 0 ds := ⟨_, rfl⟩
  rw [← hV] at kf
  replace hV := Lib.hid hV
  cases V with
  | false =>
    go_wp2_with (first | (go_at_call 70; (with_reducible refine (kf.out _ R1).mono ?_); rintro e w2 ⟨rfl, hb2⟩) | fail)
    go_ret
    exact ⟨by unfold lchk; rw [if_pos hV.out.symm]; rfl, B1.trans (hb2.mono B1.size)⟩
  | true =>
    go_upto_region 6 with (first | (go_at_call 70; (with_reducible refine (kf.out _ R1).mono ?_); rintro e w2 ⟨rfl, hb2⟩) | fail)
    have G2 := G1.below hb2 G1.lt
    have E2 := E1.below hb2 (Nat.le_refl _)
    have T2 := T1.keep hb2
    have R2 := R1.below hb2
    have B2 := B1.trans (hb2.mono B1.size)
    clear G1 E1 T1 R1 B1 d0 d1 hb2 kf
    obtain ⟨d0, d1⟩ := blkG G2
    go_wp2_with (first | (go_at_call 53; (with_reducible refine (kb.out _ E2 T2).mono ?_); intro e w3 hq; obtain ⟨A3, k3, c3, ls3, rs3, rfl, hkc, hP, hR3, hb3, hk64, hfA, hfr, -⟩ := hq; obtain rfl := hls.out.unique hP; clear hP) | fail)
    have R3 := R2.below hb3
    have B3 := B2.trans (hb3.mono B2.size)
    have ke := dequal_any A' A3 k k3 c' c3 (ds.map keyD) (ls.map keyL) rs rs3 w3 R3.kl hR3.kl hk (by omega)
    by_cases he : ds.map keyD = ls.map keyL
    · rw [decide_eq_true he] at ke
      replace ke := Lib.hid ke
      have hv : Hid (lchk n ls ds = 0) := Lib.hid (by unfold lchk; rw [if_neg (by rw [← hV.out]; decide), if_pos he])
      clear he hfr hfA R2 R3 hR3 hkc
      (with_reducible refine ke.out.mono ?_)
      rintro e w4 ⟨rfl, hb4⟩
      go_wp2_with fail
      go_ret
      exact ⟨by rw [hv.out]; rfl, B3.trans (hb4.mono B3.size)⟩
    · rw [decide_eq_false he] at ke
      replace ke := Lib.hid ke
      have hv : Hid (lchk n ls ds = 12) := Lib.hid (by unfold lchk; rw [if_neg (by rw [← hV.out]; decide), if_neg he])
      clear he hfr hfA R2 R3 hR3 hkc
      (with_reducible refine ke.out.mono ?_)
      rintro e w4 ⟨rfl, hb4⟩
      go_wp2_with fail
      go_ret
      exact ⟨by rw [hv.out]; rfl, B3.trans (hb4.mono B3.size)⟩
end Go.Proofs.YticekkjambkifaaDoor.Fl
