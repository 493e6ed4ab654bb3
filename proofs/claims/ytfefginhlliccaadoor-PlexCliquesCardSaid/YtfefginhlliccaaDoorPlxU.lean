/- Printed by merge.py from PlxT, PlxU. -/
import Derived.Test.YtfefginhlliccaaDoorPlxE
import Derived.Test.YtfefginhlliccaaDoorPlxR
/- Reference 24: grow, List, All, Same. -/
set_option linter.unusedVariables false
set_option linter.unusedSimpArgs false
namespace Go.Proofs.YtfefginhlliccaaDoor.Pl
open Go.RowKit Go.Shelf CoBit CoCli Go.Proofs.YtfefginhlliccaaDoor

/-- append of one list, laid in a new block. -/
theorem wpList_pushLO {α : Type} {E : El α} {st t : TypeId} (hst : Tryd.prog.underlying st = some (.slice t)) (hti : (Tryd.prog.info? t).map (fun i => (i.zero, i.size, i.bytes)) = some (some (.slice none 0 0), 1, 24)) {ops : Array Oper} {rest : List Oper} {o : Oper} {a : Act} {Q' : Exit → Act → World → Prop} {W : World} {H : Nat} {v : Value} {L : List (List α)} {Q : Nat → Prop} {A : Option Addr} {k c : Nat} {ys : List α}
    (hgd : o.guard = none) (s x : Operand) (ho : o.op = .call { callee := .builtin .append, args := #[s, x], argTypes := #[st, st] })
    (hs : a.eval s = v) (hx : a.eval x = .slice (some ⟨H, 0, none⟩) 1 1) (h : LO E t W v L Q) (hk : k ≤ c) (hr : RS E W A k ys) (hA : ∀ ad, A = some ad → 0 < k → some ad.block ≠ v.ownBlock) (hH : Reads W W.heap.size 1 (some ⟨H, 0, none⟩) 1 [.slice A k c]) (hn : L.length ≤ 1099511627776)
    (hK : ∀ v' w' Q2, LO E t w' v' (L ++ [ys]) Q2 → Same (fun k => v.ownBlock = some k) W w' → (∀ b, Q2 b → Q b ∨ (∃ ad, A = some ad ∧ 0 < k ∧ ad.block = b) ∨ W.heap.size ≤ b) → wpList Tryd.prog ops Q' rest (a.put o.dst v') w') :
    wpList Tryd.prog ops Q' (o :: rest) a W := by
  refine wpList_plain hgd fun K hq => ?_
  obtain ⟨v', w', Q2, hrun, h2, h3, h4⟩ := h.push (ty := o.type) hst hti hk hr hA hH hn
  unfold Oper.wp execOp
  simp only [ho, resolve, invoke, builtin, Sem.run_bind, Sem.run_pure, Result.andThen_ok, List.map_toArray, List.map_cons, List.map_nil, hs, hx, hrun]
  exact hq _ _ (hK v' w' Q2 h2 h3 h4)
theorem RE.same {A : Option Addr} {n : Nat} {es : List (Int × Int)} {ex : Nat → Prop} {W W' : World} (h : RE W A n es) (hs : Same ex W W') (hx : ∀ ad, A = some ad → 0 < n → ¬ ex ad.block) : RE W' A n es :=
  ⟨h.1, fun hp => by
    obtain ⟨ad, he, hb, hc⟩ := h.2 hp
    exact ⟨ad, he, Nat.lt_of_lt_of_le hb hs.size, fun j u hu => (World.cell?_of_block (hs.block (ad.add j).block (by rw [block_of_add]; exact hb) (by rw [block_of_add]; exact hx ad he hp))).trans (hc j u hu)⟩⟩
theorem RE.block_lt {A : Option Addr} {n : Nat} {es : List (Int × Int)} {W : World} (h : RE W A n es) (hp : 0 < n) : ∀ ad, A = some ad → ad.block < W.heap.size := fun ad e => by
  obtain ⟨ad', he, hb, _⟩ := h.2 hp
  rw [e] at he; injection he with he; rw [he]; exact hb
theorem RI.block_lt' {A : Option Addr} {n : Nat} {xs : List Int} {W : World} (h : RI W A n xs) (hp : 0 < n) : ∀ ad, A = some ad → ad.block < W.heap.size := fun ad e => by
  obtain ⟨ad', he, hb, _⟩ := h.2 hp
  rw [e] at he; injection he with he; rw [he]; exact hb
theorem LO.below {α : Type} {E : El α} {t : TypeId} {W W' : World} {v : Value} {L : List (List α)} {Q : Nat → Prop} (h : LO E t W v L Q) (hb : Below W.heap.size W W') : LO E t W' v L Q := h.keep (Same.of_below hb (Nat.le_refl _) _)

/-- What the search for cliques hands out behind p, the nodes L being left. -/
def groL (a : Nat → Nat → Bool) (n : Nat) : List Nat → List Nat → List (List Nat)
  | [], _ => []
  | v :: L, p => (if fit a p v then (if mcl a n (p ++ [v]) then [p ++ [v]] else groL a n L (p ++ [v])) else []) ++ groL a n L p
theorem range_step {j n : Nat} (h : j < n) : List.range' j (n - j) = j :: List.range' (j + 1) (n - (j + 1)) := by
  rw [show n - j = (n - (j + 1)) + 1 by omega, List.range'_succ]
/-- What grow leaves. -/
def RetGw (W : World) (L : List (List Int)) (Q : Nat → Prop) (res : List (List Int)) (r : Ending) (W' : World) : Prop :=
  ∃ v' Q', r = .returned v' ∧ LO IE 22 W' v' (L ++ res) Q' ∧ Same Q W W' ∧ ∀ b, Q' b → Q b ∨ W.heap.size ≤ b

set_option maxRecDepth 100000 in
set_option maxHeartbeats 8000000 in
theorem r24grow_any (A : Option Addr) (m c n : Nat) (es : List (Int × Int)) (hm : m ≤ 274877906944) (hc : chkG n es = 0) (mo : Nat) (hmo : mo ≤ 1000000) : ∀ (d from' : Nat), from' + d = n → ∀ (A2 : Option Addr) (m2 c2 : Nat) (p : List Nat) (v : Value) (L : List (List Int)) (Q : Nat → Prop) (w : World),
    RE w A m es → (∀ ad, A = some ad → 0 < m → ¬ Q ad.block) → RI w A2 m2 (nt p) → (∀ ad, A2 = some ad → 0 < m2 → ¬ Q ad.block) → LO IE 22 w v L Q → p.Pairwise (· < ·) → (∀ x ∈ p, x < from') → L.length + (groL (ad (rowsL n es)) n (List.range' from' d) p).length ≤ mo →
    Calls Tryd.prog 71 #[.agg #[.int .i64 n, .slice A m c], .slice A2 m2 c2, .int .i64 from', v, .int .i64 mo] w (RetGw w L Q ((groL (ad (rowsL n es)) n (List.range' from' d) p).map nt)) := by
  intro d
  induction d using Nat.strongRecOn with
  | ind d ih =>
  intro from' hfd A2 m2 c2 p v L Q w hE hA h2 hA2 hLO hs hp hmax
  have hN := (chkG_zero hc).2.1
  obtain ⟨Ao, co, hov, hco, -⟩ := hLO.len
  subst hov
  have hpl : p.length = m2 := by have := h2.len; rw [nt_length] at this; exact this
  have hm64 : m2 ≤ 64 := by have := len_le hs hp; omega
  have hB1 : Below w.heap.size w (w.alloc (.cells #[.int .i64 n, .slice A m c] 27)) := (Below.refl _ w).alloc (Nat.le_refl _) _
  have bg1 := Blk.new w 27 #[.int .i64 n, .slice A m c]
  have hE1 := hE.below hB1 (Nat.le_refl _)
  have hS1 := h2.below hB1 (Nat.le_refl _)
  have hLO1 := hLO.below hB1
  have hQlt := hLO.lt
  have hEb := fun hp => RE.block_lt hE hp
  have hSb := fun hp => RI.block_lt' h2 hp
  have hlt1 := bg1.lt
  have hz1 : (w.alloc (.cells #[.int .i64 n, .slice A m c] 27)).heap.size = w.heap.size + 1 := by simp
  have hsame1 : Same Q w (w.alloc (.cells #[.int .i64 n, .slice A m c] 27)) := Same.of_below hB1 (Nat.le_refl _) _
  have kfi := fun v w h h2 hv => r24fits_any A m c n es A2 m2 c2 p v w h hm hc h2 (by omega) hv
  replace kfi := Lib.hid kfi
  have hc' := Lib.hid hc
  have hn64 : n ≤ 64 := by omega
  have hfn : from' ≤ n := by omega
  have hdn : Hid (d = n - from') := Lib.hid (by omega)
  have hmax' := Lib.hid hmax
  have ih' := Lib.hid ih
  replace hpl := Lib.hid hpl
  clear hc hN hmax ih hLO h2 hE hfd
  go_enter Tryd.func71, Tryd.ntmps71
  go_wp2_with fail
  generalize w.alloc (.cells #[.int .i64 n, .slice A m c] 27) = w1 at *
  go_loopw [3, 11] (fun o i wr => ∃ (u : Value) (j : Nat) (pre : List (List Int)) (Qr : Nat → Prop), u = o ∧ i = .int .i64 j ∧ from' ≤ j ∧ j ≤ n ∧ LO IE 22 wr u (L ++ pre) Qr ∧ Same Q w1 wr ∧ (∀ b, Qr b → Q b ∨ w1.heap.size ≤ b) ∧ Hid ((groL (ad (rowsL n es)) n (List.range' from' d) p).map nt = pre ++ (groL (ad (rowsL n es)) n (List.range' j (n - j)) p).map nt)) (fun _ i _ => n - (intOf i).toNat)
  case atStart => exact ⟨_, from', [], Q, rfl, rfl, Nat.le_refl _, hfn, by rw [List.append_nil]; exact hLO1, Same.refl _ _, fun _ h => .inl h, Lib.hid (by rw [hdn.out]; rfl)⟩
  case round =>
    obtain ⟨u, j, pre, Qr, rfl, rfl, hj0, hj1, hLr, hSr, hQr, heq⟩ := hrel
    obtain ⟨Ar, nr, cr, hur, hnr, hcr⟩ : ∃ (Ar : Option Addr) (nr cr : Nat), u = .slice Ar nr cr ∧ Hid (nr = (L ++ pre).length) ∧ nr ≤ cr := by
      obtain ⟨Ar, cr, h1, h2, -⟩ := hLr.len
      exact ⟨Ar, _, cr, h1, Lib.hid rfl, h2⟩
    subst hur
    have hGr := hSr.blk bg1 (fun h => by have := hQlt _ h; omega)
    obtain ⟨d0, d1⟩ := blkG hGr
    have hEr := RE.same hE1 hSr hA
    have hSr2 := hSr.ri hS1 hA2
    have hlr : nr ≤ mo := by
      rw [hnr.out]
      have h1 := congrArg List.length heq.out
      rw [List.length_append, List.length_map, List.length_map] at h1
      have := hmax'.out
      rw [List.length_append]; omega
    have hszr := hSr.size
    by_cases hlt : j < n
    · have i1 : (j : Int) < (n : Int) := by omega
      have i2 : (nr : Int) ≤ (mo : Int) := by omega
      have kf := kfi.out j wr hEr hSr2 (by omega)
      have hstep := range_step hlt
      cases hF : decide (fit (ad (rowsL n es)) p j) with
      | false =>
        rw [hF] at kf
        rw [decide_eq_false_iff_not] at hF
        have heq2 : Hid ((groL (ad (rowsL n es)) n (List.range' from' d) p).map nt = pre ++ (groL (ad (rowsL n es)) n (List.range' (j + 1) (n - (j + 1))) p).map nt) := Lib.hid (by
          rw [heq.out, hstep, groL, if_neg hF]; rfl)
        replace kf := Lib.hid kf
        clear hF kfi hstep heq
        go_wp2_with (first | (go_at_call 53; refine kf.out.mono ?_; rintro e w5 ⟨rfl, hb5⟩) | fail)
        go_roundw
        case rel => exact ⟨_, j + 1, pre, Qr, rfl, by go_num, by omega, by omega, hLr.below hb5, hSr.trans (Same.of_below hb5 (Nat.le_refl _) Q) (fun _ _ h => h), hQr, heq2⟩
        case measure => simp [intOf]; omega
      | true =>
        rw [hF] at kf
        rw [decide_eq_true_iff] at hF
        have hF' := Lib.hid hF
        have hstep' := Lib.hid hstep
        have hpj : (p ++ [j]).Pairwise (· < ·) := by
          rw [List.pairwise_append]
          exact ⟨hs, List.pairwise_singleton _ _, fun a ha b hb => by rw [List.mem_singleton] at hb; subst hb; have := hp a ha; omega⟩
        have hpj1 : ∀ x ∈ p ++ [j], x < j + 1 := fun x hx => by
          rw [List.mem_append, List.mem_singleton] at hx
          rcases hx with hx | rfl
          · have := hp x hx; omega
          · omega
        replace kf := Lib.hid kf
        replace i2 := Lib.hid i2
        clear hF kfi hstep
        have i2 := i2.out
        go_upto_region 5 with (first | (go_at_call 53; refine kf.out.mono ?_; rintro e w5 ⟨rfl, hb5⟩) | fail)
        have hL5 := hLr.below hb5
        have hE5 := hEr.below hb5 (Nat.le_refl _)
        have hS5 := hSr2.below hb5 (Nat.le_refl _)
        have hG5 := hGr.below hb5 hGr.lt
        have hnl : (nt p).length ≤ 64 := by rw [nt_length]; have := hpl.out; omega
        clear hLr kf d0 d1
        go_upto_region 6 with (first
          | (at_builtin; refine wpList_push rfl _ _ rfl rfl rfl rfl ho6 (by simp; omega) (hb6.size) ?_; intro v7 w7 ho7 hb7 hg7)
          | (at_builtin; refine wpList_cat (B := w5.heap.size) (ys := []) rfl _ _ rfl rfl rfl OI.nil_ hS5 (by simp; omega) (Nat.le_refl _) ?_; intro v6 w6 ho6 hb6 hg6)
          | fail)
        have hb57 : Below w5.heap.size w5 w7 := hb6.trans hb7
        have hL7 := hL5.below hb57
        have hE7 := hE5.below hb57 (Nat.le_refl _)
        have hG7 := hG5.below hb57 hG5.lt
        have hz7 := hb57.size
        obtain ⟨A7, n7, c7, rfl, hn7, hc7, -, hr7⟩ := ho7.form
        have hfr7 := ho7.fresh hn7
        have hls7 : ([] ++ nt p ++ [(j : Int)]) = nt (p ++ [j]) := by simp [nt]
        rw [hls7] at hr7
        have hn7' : n7 ≤ 65 := by have := hr7.len; rw [nt_length, List.length_append] at this; have := hpl.out; simp at *; omega
        replace hn7 := Lib.hid hn7
        have kM := r24max_any A m c n es A7 n7 c7 (p ++ [j]) w7 hE7 hm hc'.out hr7 hpj (fun x hx => by have := hpj1 x hx; omega)
        obtain ⟨g0, g1⟩ := blkG hG7
        have hownr : ∀ k, (Value.slice Ar nr cr).ownBlock = some k → Qr k := hL7.own
        have hQr5 : ∀ k, Qr k → k < w5.heap.size := hL5.lt
        have hsz5 := hb5.size
        clear hb6 hg6 ho6 hb7 hg7 ho7 hS5 hE5 hG5 hls7
        have hSr7 : Same Q w1 w7 := (hSr.trans (Same.of_below hb5 (Nat.le_refl _) Q) (fun _ _ h => h)).trans (Same.of_below hb57 (Nat.le_refl _) Q) (fun _ _ h => h)
        have hG8l := hG7.lt
        cases hM : decide (mcl (ad (rowsL n es)) n (p ++ [j])) with
        | true =>
          rw [hM] at kM
          rw [decide_eq_true_iff] at hM
          have heq2 : Hid ((groL (ad (rowsL n es)) n (List.range' from' d) p).map nt = pre ++ [nt (p ++ [j])] ++ (groL (ad (rowsL n es)) n (List.range' (j + 1) (n - (j + 1))) p).map nt) := Lib.hid (by
            rw [heq.out, hstep'.out, groL, if_pos hF'.out, if_pos hM]; simp)
          replace kM := Lib.hid kM
          clear hM heq hstep' hF'
          go_upto_region 7 with (first | (go_at_call 20; refine kM.out.mono ?_; rintro e w8 ⟨rfl, hb8⟩) | fail)
          have hz8 := hb8.size
          have hLa : LO IE 22 (w8.alloc (.cells #[.slice A7 n7 c7] 22)) (.slice Ar nr cr) (L ++ pre) Qr := (hL7.below hb8).below ((Below.refl _ _).alloc (Nat.le_refl _) _)
          have hHa := reads_one (Blk.new w8 22 #[.slice A7 n7 c7])
          have hra := rs_ri.2 ((hr7.below hb8 (Nat.le_refl _)).alloc (.cells #[.slice A7 n7 c7] 22))
          have hAa : ∀ ad, A7 = some ad → 0 < n7 → some ad.block ≠ (Value.slice Ar nr cr).ownBlock := fun ad e hp h => by have h1 := hQr5 _ (hownr _ h.symm); have h2 := hfr7 ad e; omega
          have hlr9 : (L ++ pre).length ≤ 1099511627776 := by rw [← hnr.out]; omega
          have hSr8 : Same Q w1 (w8.alloc (.cells #[.slice A7 n7 c7] 22)) := (hSr7.trans (Same.of_below hb8 (Nat.le_refl _) Q) (fun _ _ h => h)).alloc _
          clear hL7 hr7 hE7 kM g0 g1
          go_wp2_with (first
            | (at_builtin; refine wpList_pushLO (E := IE) (st := 31) (t := 22) Tryd.underlying31 (by kernel_rfl) rfl _ _ rfl rfl rfl hLa hc7 hra hAa hHa hlr9 ?_; intro v9 w9 Q9 h9 hs9 hq9)
            | fail)
          go_roundw
          case rel =>
            refine ⟨_, j + 1, pre ++ [nt (p ++ [j])], Q9, rfl, by go_num, by omega, by omega, by rw [← List.append_assoc]; exact h9, hSr8.trans hs9 (fun k hk e => ?_), fun b hb => ?_, heq2⟩
            · rcases hQr _ (hownr _ e) with h | h
              · exact h
              · omega
            · rcases hq9 b hb with h | ⟨ad, e, _, rfl⟩ | h
              · exact hQr _ h
              · right; have h2 := hfr7 ad e; omega
              · right; simp at h; omega
          case measure => simp [intOf]; omega
        | false =>
          rw [hM] at kM
          rw [decide_eq_false_iff_not] at hM
          have heq2 : Hid ((groL (ad (rowsL n es)) n (List.range' from' d) p).map nt = pre ++ (groL (ad (rowsL n es)) n (List.range' (j + 1) (n - (j + 1))) (p ++ [j])).map nt ++ (groL (ad (rowsL n es)) n (List.range' (j + 1) (n - (j + 1))) p).map nt) := Lib.hid (by
            rw [heq.out, hstep'.out, groL, if_pos hF'.out, if_neg hM]; simp)
          replace kM := Lib.hid kM
          clear hM heq hstep' hF'
          go_upto_region 8 with (first | (go_at_call 20; refine kM.out.mono ?_; rintro e w8 ⟨rfl, hb8⟩) | fail)
          have hz8 := hb8.size
          have hSr8 : Same Q w1 w8 := hSr7.trans (Same.of_below hb8 (Nat.le_refl _) Q) (fun _ _ h => h)
          obtain ⟨f0, f1⟩ := blkG (hG7.below hb8 hG8l)
          have ihc := ih'.out (n - (j + 1)) (by have := hdn.out; omega) (j + 1) (by omega) A7 n7 c7 (p ++ [j]) (.slice Ar nr cr) (L ++ pre) Qr w8 (hE7.below hb8 (Nat.le_refl _)) (fun ad e hp h => by
            rcases hQr _ h with h1 | h1
            · exact hA ad e hp h1
            · have := hEb hp ad e; omega) (hr7.below hb8 (Nat.le_refl _)) (fun ad e hp h => by have h1 := hQr5 _ h; have h2 := hfr7 ad e; omega) (hL7.below hb8) hpj hpj1 (by
            have h1 := congrArg List.length heq2.out
            simp only [List.length_append, List.length_map] at h1
            have := hmax'.out
            rw [List.length_append]; omega)
          rw [show ((j + 1 : Nat) : Int) = (j : Int) + 1 from rfl] at ihc
          replace ihc := Lib.hid ihc
          clear hL7 hr7 hE7 kM g0 g1 ih'
          go_wp2_with (first
            | (go_at_call 71; refine ihc.out.mono ?_; rintro e w9 ⟨v9, Q9, rfl, h9, hs9, hq9⟩)
            | fail)
          go_roundw
          case rel =>
            refine ⟨_, j + 1, pre ++ (groL (ad (rowsL n es)) n (List.range' (j + 1) (n - (j + 1))) (p ++ [j])).map nt, Q9, rfl, by go_num, by omega, by omega, by rw [← List.append_assoc]; exact h9, hSr8.trans hs9 (fun k hk e => ?_), fun b hb => ?_, heq2⟩
            · rcases hQr _ e with h | h
              · exact h
              · omega
            · rcases hq9 b hb with h | h
              · exact hQr _ h
              · right; omega
          case measure => simp [intOf]; omega
    · have i1 : ¬ (j : Int) < (n : Int) := by omega
      have hend : Hid (L ++ pre = L ++ (groL (ad (rowsL n es)) n (List.range' from' d) p).map nt) := Lib.hid (by
        have := heq.out
        rw [show n - j = 0 by omega] at this
        rw [this]; simp [groL])
      go_wp2_with fail
      go_ret
      refine ⟨_, Qr, rfl, by rw [← hend.out]; exact hLr, hsame1.trans hSr (fun _ _ h => h), fun b hb => ?_⟩
      rcases hQr b hb with h | h
      · exact .inl h
      · right; omega

/-- What All says of a valid graph with few cliques. -/
theorem r24list_any (A : Option Addr) (m c n : Nat) (es : List (Int × Int)) (hm : m ≤ 274877906944) (hc : chkG n es = 0) (mo : Nat) (hmo : mo ≤ 1000000) (w : World) (hE : RE w A m es) (hmax : (groL (ad (rowsL n es)) n (List.range' 0 n) []).length ≤ mo) :
    Calls Tryd.prog 55 #[.agg #[.int .i64 n, .slice A m c], .int .i64 mo] w fun e w' => ∃ A2 n2 c2, e = .returned (.slice A2 n2 c2) ∧ n2 ≤ c2 ∧ RL IE w' A2 n2 ((groL (ad (rowsL n es)) n (List.range' 0 n) []).map nt) ∧ Below w.heap.size w w' := by
  have hB1 : Below w.heap.size w (w.alloc (.cells #[.int .i64 n, .slice A m c] 27)) := (Below.refl _ w).alloc (Nat.le_refl _) _
  have kg := r24grow_any A m c n es hm hc mo hmo n 0 (by omega) none 0 0 [] (.slice none 0 0) [] (fun _ => False) _ (hE.below hB1 (Nat.le_refl _)) (fun _ _ _ h => h) RI.none_ (fun _ _ _ h => h) LO.nil_ List.Pairwise.nil (by simp) (by simpa using hmax)
  replace kg := Lib.hid kg
  go_enter Tryd.func55, Tryd.ntmps55
  go_wp2_with (first | (go_at_call 71; refine kg.out.mono ?_; rintro e w9 ⟨v9, Q9, rfl, h9, hs9, hq9⟩) | fail)
  obtain ⟨A2, c2, rfl, hc2, hr2⟩ := h9.len
  rw [List.nil_append] at hr2 hc2
  have hb9 : Below w.heap.size w w9 := hB1.trans (hs9.below (by simp) (fun _ _ h => h))
  go_ret
  exact ⟨_, _, _, rfl, hc2, hr2, hb9⟩
theorem r24all_any (A : Option Addr) (m c n : Nat) (es : List (Int × Int)) (hm : m ≤ 274877906944) (hc : chkG n es = 0) (w : World) (hE : RE w A m es) (hmax : (groL (ad (rowsL n es)) n (List.range' 0 n) []).length ≤ 4096) :
    Calls Tryd.prog 22 #[.agg #[.int .i64 n, .slice A m c], .int .i64 4096] w (RetLL w ((groL (ad (rowsL n es)) n (List.range' 0 n) []).map nt) 0) := by
  have hB1 : Below w.heap.size w (w.alloc (.cells #[.int .i64 n, .slice A m c] 27)) := (Below.refl _ w).alloc (Nat.le_refl _) _
  have hlt : w.heap.size < (w.alloc (.cells #[.int .i64 n, .slice A m c] 27)).heap.size := by simp
  have kck := fun w h => rcheck_any A m c n es w h (by omega)
  rw [hc] at kck
  have kl := fun w h => r24list_any A m c n es hm hc 4096 (by omega) w h hmax
  replace kck := Lib.hid kck
  replace kl := Lib.hid kl
  replace hmax := Lib.hid hmax
  clear hc
  go_enter Tryd.func22, Tryd.ntmps22
  go_wp2_with (first
    | (go_at_call 28; refine (kck.out _ (hE.alloc _)).mono ?_; rintro e w1 ⟨rfl, hb1⟩
       have hW1 : Below w.heap.size w w1 := hB1.trans (hb1.mono (by simp))
       have bg1 := Blk.below (Blk.new w 27 #[.int .i64 n, .slice A m c]) hb1 hlt
       obtain ⟨g0, g1⟩ := blkG bg1)
    | (go_at_call 55; refine (kl.out _ (hE.below hW1 (Nat.le_refl _))).mono ?_; rintro e w2 ⟨A2, n2, c2, rfl, hc2, hr2, hb2⟩
       have hn2 : n2 ≤ 4096 := by have := hr2.len; rw [List.length_map] at this; have := hmax.out; omega)
    | fail)
  go_ret2
  exact ⟨A2, n2, c2, rfl, hc2, hr2, hW1.trans (hb2.mono hW1.size)⟩

attribute [local irreducible] wpQuiet in
set_option maxRecDepth 100000 in
set_option maxHeartbeats 4000000 in
theorem r24same_any (A A' : Option Addr) (n c n' c' : Nat) (L L' : List (List Int)) (w : World) (h : RL IE w A n L) (h' : RL IE w A' n' L') (hn : n ≤ 1000000000) (hn' : n' ≤ 1000000000) (hs : ∀ x ∈ L, x.length ≤ 1099511627776) (hs' : ∀ x ∈ L', x.length ≤ 1099511627776) :
    Calls Tryd.prog 23 #[.slice A n c, .slice A' n' c'] w fun e w' => e = .returned (.bool (decide (L = L'))) ∧ Below w.heap.size w w' := by
  have hl := Lib.hid h.len
  have hl' := Lib.hid h'.len
  by_cases hq : n = n'
  · have q0 : ((n : Int) == (n' : Int)) = true := by rw [hq]; simp
    have q1 : ((n : Int) != (n' : Int)) = false := by rw [hq]; simp
    replace hq := Lib.hid hq
    go_enter Tryd.func23, Tryd.ntmps23
    go_wp2_with fail
    go_loopw [5] (fun i wr => ∃ k : Nat, k ≤ n ∧ i = .int .i64 k ∧ Hid (L.take k = L'.take k) ∧ Below w.heap.size w wr) (fun i _ => n - (intOf i).toNat)
    case atStart => exact ⟨0, Nat.zero_le _, rfl, Lib.hid rfl, Below.refl _ _⟩
    case round =>
      obtain ⟨k, hk, rfl, hx, hb⟩ := hrel
      by_cases hlt : k < n
      · have i1 : (k : Int) < (n : Int) := by omega
        have i2 : (k : Int) < (n' : Int) := by have := hq.out; omega
        obtain ⟨ad, B, m1, d1, ys, rfl, hc1, hy, hk1, hr1, _⟩ := (h.below hb (Nat.le_refl _)).get hlt
        obtain ⟨ad', B', m1', d1', ys', rfl, hc1', hy', hk1', hr1', _⟩ := (h'.below hb (Nat.le_refl _)).get (show k < n' by have := hq.out; omega)
        have hr1 := rs_ri.1 hr1
        have hr1' := rs_ri.1 hr1'
        have hm1 : m1 ≤ 1099511627776 := by rw [← hr1.len]; exact hs _ (List.mem_of_getElem? hy.out)
        have hm1' : m1' ≤ 1099511627776 := by rw [← hr1'.len]; exact hs' _ (List.mem_of_getElem? hy'.out)
        have kc := fun w h h' => cmp2_any B B' m1 d1 m1' d1' ys ys' w h hm1 h' hm1'
        have kq : ∀ dd os, Calls Tryd.prog 25 #[.slice B m1 d1, .slice B' m1' d1'] (Sort.grow (redrawn wr dd) os) fun e w'' => e = .returned (.int .i64 (cmpL ys ys')) ∧ ∃ p : Regrown, w'' = Sort.grow (redrawn wr p.d) p.os := fun dd os => Calls.regrown_of ((kc _ (hr1.below (below_regrown wr dd os) (Nat.le_refl _)) (hr1'.below (below_regrown wr dd os) (Nat.le_refl _))).mono (by rintro e w' ⟨rfl, q, rfl⟩; exact ⟨rfl, below_drewN (Below.refl _ _) q⟩))
        have x2 : ∀ dd os, (Sort.grow (redrawn wr dd) os).cell? (ad.add k) = some (.slice B m1 d1) := fun dd os => cell_regrown hc1 dd os
        have x3 : ∀ dd os, (Sort.grow (redrawn wr dd) os).cell? (ad'.add k) = some (.slice B' m1' d1') := fun dd os => cell_regrown hc1' dd os
        by_cases he : ys = ys'
        · have hz : cmpL ys ys' = 0 := (cmp_zero _ _).2 he
          rw [hz] at kq
          have hx2 : Hid (L.take (k + 1) = L'.take (k + 1)) := Lib.hid (by
            rw [List.take_add_one, List.take_add_one, hx.out, hy.out, hy'.out, he])
          replace kq := Lib.hid kq
          clear hz he hc1 hc1' hr1 hr1' kc hy hy' hx
          go_upto_region 6 with fail
          refine wp_region_quiet_below (by kernel_rfl) (by kernel_rfl) ?_
          repeat (quiet_step (with_reducible exact kq.out _ _))
          refine wpQuiet_nil ?_
          intro _ hw'
          obtain ⟨⟨dq, osq⟩, hw''⟩ := hw'
          subst hw''
          have hbx := hb.trans ((below_regrown wr dq osq).mono hb.size)
          go_wp2_with fail
          go_roundw
          case rel => exact ⟨k + 1, by omega, by go_num, hx2, hbx⟩
          case measure => simp [intOf]; omega
        · have hz : cmpL ys ys' ≠ 0 := fun h => he ((cmp_zero _ _).1 h)
          have hno : Hid (L ≠ L') := Lib.hid fun h => he (by have h1 := hy.out; have h2 := hy'.out; rw [h, h2] at h1; injection h1 with h1; exact h1.symm)
          generalize cmpL ys ys' = z at *
          have hz1 : (z != 0) = true := by simpa using hz
          replace kq := Lib.hid kq
          clear hz he hc1 hc1' hr1 hr1' kc hy hy' hx
          go_upto_region 6 with fail
          refine wp_region_quiet_below (by kernel_rfl) (by kernel_rfl) ?_
          repeat (quiet_step (with_reducible exact kq.out _ _))
          refine wpQuiet_nil ?_
          intro _ hw'
          obtain ⟨⟨dq, osq⟩, hw''⟩ := hw'
          subst hw''
          have hbx := hb.trans ((below_regrown wr dq osq).mono hb.size)
          go_wp2_with fail
          go_ret
          exact ⟨retBool (decide_eq_false hno.out).symm, hbx⟩
      · have i1 : ¬ (k : Int) < (n : Int) := by omega
        have hyes : Hid (L = L') := Lib.hid (by
          have h1 := hx.out
          have h2 := hl.out
          have h3 := hl'.out
          have h4 := hq.out
          rwa [List.take_of_length_le (by omega), List.take_of_length_le (by omega)] at h1)
        go_wp2_with fail
        go_ret
        exact ⟨retBool (decide_eq_true hyes.out).symm, hb⟩
  · have q1 : ((n : Int) != (n' : Int)) = true := by simp; omega
    have hno : Hid (L ≠ L') := Lib.hid fun h => hq (by rw [← hl.out, ← hl'.out, h])
    clear hq
    go_enter Tryd.func23, Tryd.ntmps23
    go_wp2_with fail
    go_ret
    exact ⟨retBool (decide_eq_false hno.out).symm, Below.refl _ _⟩
end Go.Proofs.YtfefginhlliccaaDoor.Pl

/- Plain laws of PlexCliques. -/
set_option linter.unusedVariables false
set_option linter.unusedSimpArgs false
namespace Go.Proofs.YtfefginhlliccaaDoor.Pl
open Go.RowKit Go.Shelf CoBit CoCli Go.Proofs.YtfefginhlliccaaDoor

theorem gro_eq {a : Nat → Nat → Bool} {n : Nat} : ∀ (L p : List Nat), (p ++ L).Nodup → (∀ v ∈ L, v < n) → clq a p → groL a n L p = (ext p L).filter fun S => decide (mcl a n S) := by
  intro L
  induction L with
  | nil => intros; rfl
  | cons v L ih =>
    intro p hnd hn hp
    have hvp : v ∉ p := fun h => (List.nodup_append.1 hnd).2.2 v h v List.mem_cons_self rfl
    have hnd1 : (p ++ L).Nodup := hnd.sublist (List.Sublist.append_left (List.sublist_cons_self v L) p)
    have hnd2 : (p ++ [v] ++ L).Nodup := by simpa using hnd
    rw [groL, ext_cons, List.filter_append, ih p hnd1 (fun u hu => hn u (List.mem_cons_of_mem _ hu)) hp]
    congr 1
    by_cases hf : fit a p v
    · have hpv : clq a (p ++ [v]) := List.pairwise_append.2 ⟨hp, List.pairwise_singleton _ _, fun u hu b hb => by rw [List.mem_singleton] at hb; subst hb; exact (hf u hu).2⟩
      rw [if_pos hf]
      unfold lx
      rw [List.filter_cons]
      by_cases hm : mcl a n (p ++ [v])
      · rw [if_pos hm, if_pos (decide_eq_true hm), filter_none (l := ext (p ++ [v]) L)]
        intro S hS
        obtain ⟨T, hT, rfl, hsub⟩ := mem_ext hS
        refine decide_eq_false fun hS => ?_
        cases T with
        | nil => exact hT rfl
        | cons t T =>
          have ht : t ∈ L := hsub.subset List.mem_cons_self
          refine hm.2.2 t (hn t (List.mem_cons_of_mem _ ht)) fun u hu => ⟨fun e => ?_, ?_⟩
          · subst e; exact (List.nodup_append.1 hnd2).2.2 u hu u ht rfl
          · exact (List.pairwise_append.1 hS.1).2.2 u hu t List.mem_cons_self
      · rw [if_neg hm, if_neg (by simpa using hm)]
        exact ih (p ++ [v]) hnd2 (fun u hu => hn u (List.mem_cons_of_mem _ hu)) hpv
    · rw [if_neg hf]
      refine (filter_none fun S hS => ?_).symm
      obtain ⟨T, rfl, _⟩ := mem_lx.1 hS
      refine decide_eq_false fun hS => hf fun u hu => ⟨fun e => hvp (e ▸ hu), ?_⟩
      have h1 := (List.pairwise_append.1 hS.1).1
      exact (List.pairwise_append.1 h1).2.2 u hu v (List.mem_singleton.2 rfl)
theorem gro_plexs {n : Nat} {es : List (Int × Int)} (hc : chkG n es = 0) : groL (ad (rowsL n es)) n (List.range' 0 n) [] = plexs n es 1 1 [] := by
  rw [← List.range_eq_range', gro_eq (List.range n) [] (by simpa using List.nodup_range) (fun v hv => List.mem_range.1 hv) List.Pairwise.nil]
  unfold plexs lx
  rw [List.filter_cons, if_neg (by unfold want; simp)]
  refine List.filter_congr fun S hS => ?_
  obtain ⟨h1, h2⟩ := sub_range (n := n) (S := S) (List.mem_cons_of_mem _ hS)
  have hnd : S.Nodup := h1.imp (fun h => Nat.ne_of_lt h)
  obtain ⟨T, hT, e, _⟩ := mem_ext hS
  have hne : S ≠ [] := by rw [e]; simpa using hT
  have hl : 1 ≤ S.length := List.length_pos_iff.2 hne
  unfold want
  rw [gt_nil hne, decide_eq_true hl, Bool.true_and, Bool.and_true]
  exact decide_eq_decide.2 (mxl_one (ad_sym hc) (ad_not hc) hnd).symm
theorem mem_plexs_of {n : Nat} {es : List (Int × Int)} {k least : Nat} {S : List Nat} (h1 : S.Pairwise (· < ·)) (h2 : ∀ x ∈ S, x < n) (h3 : least ≤ S.length) (h4 : mxl (ad (rowsL n es)) n k S) : S ∈ plexs n es k least [] := by
  unfold plexs
  rw [List.mem_filter, Bool.and_eq_true]
  refine ⟨mem_lx.2 ⟨S, rfl, ?_⟩, ?_, gt_nil h4.1⟩
  · have : S = (List.range n).filter fun i => decide (i ∈ S) := nat_sorted_ext h1 (List.pairwise_lt_range.filter _) fun i => by
      rw [List.mem_filter, List.mem_range, decide_eq_true_iff]
      exact ⟨fun h => ⟨h2 i h, h⟩, fun h => h.2⟩
    rw [this]; exact List.filter_sublist
  · unfold want
    rw [decide_eq_true h3, decide_eq_true h4]; rfl
theorem nodup_le {S : List Nat} {n : Nat} (hs : S.Nodup) (hn : ∀ x ∈ S, x < n) : S.length ≤ n := by
  have h2 := List.Nodup.length_le_of_subset (l₁ := S) (l₂ := List.range n) hs (fun x hx => List.mem_range.2 (hn x hx))
  rwa [List.length_range] at h2
theorem ext_max {a : Nat → Nat → Bool} {n k : Nat} : ∀ (d : Nat) (S : List Nat), n - S.length ≤ d → S.Nodup → (∀ x ∈ S, x < n) → plx a k S → S ≠ [] → ∃ T : List Nat, T.Nodup ∧ (∀ x ∈ T, x < n) ∧ (∀ x ∈ S, x ∈ T) ∧ mxl a n k T := by
  intro d
  induction d with
  | zero =>
    intro S hd hs hn hp hne
    refine ⟨S, hs, hn, fun _ h => h, hne, hp, fun v hv hvS _ => ?_⟩
    have := nodup_le (S := v :: S) (List.nodup_cons.2 ⟨hvS, hs⟩) (n := n) (fun x hx => by
      rw [List.mem_cons] at hx
      rcases hx with rfl | hx
      · exact hv
      · exact hn x hx)
    simp at this; omega
  | succ d ih =>
    intro S hd hs hn hp hne
    by_cases h : ∃ v, v < n ∧ v ∉ S ∧ plx a k (v :: S)
    · obtain ⟨v, hv, hvS, hpv⟩ := h
      obtain ⟨T, t1, t2, t3, t4⟩ := ih (v :: S) (by simp; omega) (List.nodup_cons.2 ⟨hvS, hs⟩) (fun x hx => by
        rw [List.mem_cons] at hx
        rcases hx with rfl | hx
        · exact hv
        · exact hn x hx) hpv (by simp)
      exact ⟨T, t1, t2, fun x hx => t3 x (List.mem_cons_of_mem _ hx), t4⟩
    · exact ⟨S, hs, hn, fun _ h => h, hne, hp, fun v hv hvS hpv => h ⟨v, hv, hvS, hpv⟩⟩
theorem mxl_perm {a : Nat → Nat → Bool} {n k : Nat} {S S' : List Nat} (h : S.Perm S') (hm : mxl a n k S) : mxl a n k S' := by
  refine ⟨fun e => hm.1 (by subst e; exact h.eq_nil), (plx_perm h).1 hm.2.1, fun v hv hvS hp => hm.2.2 v hv (fun hx => hvS (h.mem_iff.1 hx)) ((plx_perm (h.cons v)).2 hp)⟩
/-- Every maximal clique lies in a maximal k-plex. -/
theorem in_some {n : Nat} {es : List (Int × Int)} (hc : chkG n es = 0) {q : Nat} (hq : 1 ≤ q) {x : List Nat} (hx : x ∈ plexs n es 1 1 []) : ∃ y ∈ plexs n es q 1 [], ∀ v ∈ nt x, v ∈ nt y := by
  obtain ⟨a1, a2, a3, a4, _⟩ := mem_plexs hx
  obtain ⟨T, t1, t2, t3, t4⟩ := ext_max n x (by omega) (a1.imp (fun h => Nat.ne_of_lt h)) a2 (plx_more a4.2.1 hq) a4.1
  have hperm : T.Perm ((List.range n).filter fun i => decide (i ∈ T)) := (List.perm_ext_iff_of_nodup t1 (List.nodup_range.filter _)).2 fun i => by
    rw [List.mem_filter, List.mem_range, decide_eq_true_iff]
    exact ⟨fun h => ⟨t2 i h, h⟩, fun h => h.2⟩
  have hm := mxl_perm hperm t4
  refine ⟨_, mem_plexs_of (List.pairwise_lt_range.filter _) (fun y hy => List.mem_range.1 (List.mem_filter.1 hy).1) (List.length_pos_iff.2 hm.1) hm, fun v hv => ?_⟩
  unfold nt at hv
  rw [List.mem_map] at hv
  obtain ⟨u, hu, rfl⟩ := hv
  exact mem_nt.2 (List.mem_filter.2 ⟨List.mem_range.2 (a2 u hu), decide_eq_true (t3 u hu)⟩)
theorem plexs_least {n : Nat} {es : List (Int × Int)} {q p : Nat} (hp : 1 ≤ p) : plexs n es q p [] = (plexs n es q 1 []).filter fun S => decide (p ≤ S.length) := by
  unfold plexs
  rw [List.filter_filter]
  refine List.filter_congr fun S _ => ?_
  unfold want
  by_cases h : p ≤ S.length
  · rw [decide_eq_true h, decide_eq_true (show 1 ≤ S.length by omega)]; simp
  · rw [decide_eq_false h]; simp
theorem in_core {n : Nat} {es : List (Int × Int)} (hc : chkG n es = 0) {q p : Nat} {lr : List Int} (hr : CoreL n es ((p : Int) - (q : Int)) lr) {y : List Nat} (hy : y ∈ plexs n es q 1 []) (hl : p ≤ y.length) : ∀ v ∈ nt y, v ∈ lr := by
  obtain ⟨a1, a2, a3, a4, _⟩ := mem_plexs hy
  intro v hv
  unfold nt at hv
  rw [List.mem_map] at hv
  obtain ⟨u, hu, rfl⟩ := hv
  exact ((hr.1 hc).2 _).2 (plex_core hc (by have := (chkG_zero hc).2.1; omega) a1 a2 a4.2.1 hl hu)
/-- How many of the first i have enough nodes. -/
def few (L : List (List Nat)) (p i : Nat) : Nat := ((L.take i).filter fun S => decide (p ≤ S.length)).length
theorem few_step {L : List (List Nat)} {p i : Nat} {S : List Nat} (h : L[i]? = some S) : few L p (i + 1) = few L p i + if p ≤ S.length then 1 else 0 := by
  unfold few
  rw [List.take_add_one, h, List.filter_append, List.length_append]
  by_cases hp : p ≤ S.length
  · rw [if_pos hp]; simp [hp]
  · rw [if_neg hp]; simp [hp]
theorem few_at {L : List (List Nat)} {p i : Nat} {S : List Nat} (h : L[i]? = some S) (hp : p ≤ S.length) : (L.filter fun S => decide (p ≤ S.length))[few L p i]? = some S := by
  obtain ⟨hi, hS⟩ := List.getElem?_eq_some_iff.1 h
  have e : (L.filter fun S => decide (p ≤ S.length)) = ((L.take i).filter fun S => decide (p ≤ S.length)) ++ ((L.drop i).filter fun S => decide (p ≤ S.length)) := by rw [← List.filter_append, List.take_append_drop]
  rw [e]
  unfold few
  rw [List.getElem?_append_right (Nat.le_refl _), Nat.sub_self, List.drop_eq_getElem_cons hi, hS, List.filter_cons, if_pos (decide_eq_true hp)]; rfl
theorem few_all (L : List (List Nat)) (p : Nat) : few L p L.length = (L.filter fun S => decide (p ≤ S.length)).length := by unfold few; rw [List.take_length]
end Go.Proofs.YtfefginhlliccaaDoor.Pl
