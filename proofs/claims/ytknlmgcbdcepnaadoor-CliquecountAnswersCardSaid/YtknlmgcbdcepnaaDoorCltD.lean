/- Reference 25: count, the recursion. -/
import Derived.Test.YtknlmgcbdcepnaaDoorCltC
import Derived.Lib.QuietBelow
set_option linter.unusedVariables false
set_option linter.unusedSimpArgs false
namespace Go.Proofs.YtknlmgcbdcepnaaDoor
open Go.RowKit CoBit CoCli Pl

theorem range_step25 {j n : Nat} (h : j < n) : List.range' j (n - j) = j :: List.range' (j + 1) (n - (j + 1)) := by
  rw [show n - j = (n - (j + 1)) + 1 by omega, List.range'_succ]
attribute [local irreducible] wpQuiet in
set_option maxRecDepth 100000 in
set_option maxHeartbeats 16000000 in
theorem r25count_any (A : Option Addr) (m c n : Nat) (es : List (Int × Int)) (hm : m ≤ 274877906944) (hc : chkG n es = 0) (size : Nat) (hs6 : size ≤ 6) : ∀ (d frm : Nat), frm + d = n → ∀ (A2 : Option Addr) (m2 c2 : Nat) (p : List Nat) (gn ge : Nat) (f h : Nat → Nat) (w : World),
    RE w A m es → (∀ ad, A = some ad → 0 < m → ¬ (fun k => k = gn ∨ k = ge) ad.block) → RI w A2 m2 (nts p) → (∀ ad, A2 = some ad → 0 < m2 → ¬ (fun k => k = gn ∨ k = ge) ad.block) → AF w gn n f → AF w ge m h → gn ≠ ge →
    p.Pairwise (· < ·) → (∀ x ∈ p, x < frm) → (p.Pairwise fun u v => ad (rowsL n es) u v = true) → p.length ≤ size →
    rg (ad (rowsL n es)) (fun _ => 1) (size - p.length) (List.range' frm d) p ≤ 1099511627776 →
    (∀ x, f x + rg (ad (rowsL n es)) (wN x) (size - p.length) (List.range' frm d) p ≤ 1099511627776) → (∀ j, h j + rg (ad (rowsL n es)) (wE (eu es j) (ev es j)) (size - p.length) (List.range' frm d) p ≤ 1099511627776) →
    Calls Tryd.prog 58 #[.agg #[.int .i64 n, .slice A m c], .slice A2 m2 c2, .int .i64 frm, .int .i64 size, .slice (some ⟨gn, 0, none⟩) n n, .slice (some ⟨ge, 0, none⟩) m m] w
      (RetCn w gn ge n m (rg (ad (rowsL n es)) (fun _ => 1) (size - p.length) (List.range' frm d) p) (fun x => f x + rg (ad (rowsL n es)) (wN x) (size - p.length) (List.range' frm d) p) (fun j => h j + rg (ad (rowsL n es)) (wE (eu es j) (ev es j)) (size - p.length) (List.range' frm d) p)) := by
  intro d
  induction d using Nat.strongRecOn with
  | ind d ih =>
  intro frm hfd A2 m2 c2 p gn ge f h w hE hA h2 hA2 hf hh hne hs hp hq hsz hb1 hbf hbh
  have hN := (chkG_zero hc).2.1
  have hpl : p.length = m2 := by have := h2.len; unfold nts at this; rw [List.length_map] at this; exact this
  by_cases hleaf : p.length = size
  · have e0 : size - p.length = 0 := by omega
    rw [e0] at hb1 hbf hbh ⊢
    have k := r25leaf_any A m c n es hm hc A2 m2 c2 p frm gn ge f h w hE hA h2 hA2 hf hh hne hs (fun x hx => by have := hp x hx; omega) hq (fun x => by have := hbf x; omega) (fun j => by have := hbh j; omega)
    have e1 : m2 = size := by omega
    rw [← e1]
    exact k
  · obtain ⟨kk, hkk⟩ : ∃ kk, size - p.length = kk + 1 := ⟨size - p.length - 1, by omega⟩
    rw [hkk] at hb1 hbf hbh ⊢
    have hB1 : Below w.heap.size w (w.alloc (.cells #[.int .i64 n, .slice A m c] 24)) := (Below.refl _ w).alloc (Nat.le_refl _) _
    have bg1 := Blk.new w 24 #[.int .i64 n, .slice A m c]
    have hE1 := hE.below hB1 (Nat.le_refl _)
    have hS1 := h2.below hB1 (Nat.le_refl _)
    have hf1 := hf.below hB1 hf.lt
    have hh1 := hh.below hB1 hh.lt
    have hsame1 : Same (fun k => k = gn ∨ k = ge) w (w.alloc (.cells #[.int .i64 n, .slice A m c] 24)) := Same.of_below hB1 (Nat.le_refl _) _
    have hgnl := hf.lt
    have hgel := hh.lt
    have hel := Lib.hid hE.len
    have hc' := Lib.hid hc
    have kfi := Lib.hid (fun u v w h => rfind_any A m c n es u v w h hm)
    have i0 : ((m2 : Int) == (size : Int)) = false := by simp; omega
    have hm6 : m2 < 6 := by omega
    have hn64 : n ≤ 64 := by omega
    have hfn : frm ≤ n := by omega
    have hdn : Hid (d = n - frm) := Lib.hid (by omega)
    have hpl' := Lib.hid hpl
    have hkk' := Lib.hid hkk
    have ih' := Lib.hid ih
    have hb1' := Lib.hid hb1
    have hbf' := Lib.hid hbf
    have hbh' := Lib.hid hbh
    clear hc h2 hE hf hh hleaf hkk hpl ih hb1 hbf hbh hN hsz hfd
    go_enter Tryd.func58, Tryd.ntmps58
    go_upto_region 13 with fail
    generalize w.alloc (.cells #[.int .i64 n, .slice A m c] 24) = w1 at *
    have hlt1 := bg1.lt
    go_loopw [15, 16] (fun nn v wr => ∃ (j N : Nat) (fj hj : Nat → Nat), nn = .int .i64 N ∧ v = .int .i64 j ∧ frm ≤ j ∧ j ≤ n ∧ AF wr gn n fj ∧ AF wr ge m hj ∧ Same (fun k => k = gn ∨ k = ge) w1 wr ∧
      Hid (N + rg (ad (rowsL n es)) (fun _ => 1) (kk + 1) (List.range' j (n - j)) p = rg (ad (rowsL n es)) (fun _ => 1) (kk + 1) (List.range' frm d) p) ∧
      Hid (∀ x, fj x + rg (ad (rowsL n es)) (wN x) (kk + 1) (List.range' j (n - j)) p = f x + rg (ad (rowsL n es)) (wN x) (kk + 1) (List.range' frm d) p) ∧
      Hid (∀ i, hj i + rg (ad (rowsL n es)) (wE (eu es i) (ev es i)) (kk + 1) (List.range' j (n - j)) p = h i + rg (ad (rowsL n es)) (wE (eu es i) (ev es i)) (kk + 1) (List.range' frm d) p)) (fun _ v _ => n - (intOf v).toNat)
    case atStart => exact ⟨frm, 0, f, h, rfl, rfl, Nat.le_refl _, hfn, hf1, hh1, Same.refl _ _, Lib.hid (by rw [hdn.out, Nat.zero_add]), Lib.hid (fun x => by rw [hdn.out]), Lib.hid (fun i => by rw [hdn.out])⟩
    case round =>
      obtain ⟨j, N, fj, hj, rfl, rfl, hj0, hj1, hfr, hhr, hsr, e1, e2, e3⟩ := hrel
      have hGr := hsr.blk bg1 (fun e => by omega)
      obtain ⟨d0, d1⟩ := blkG hGr
      have hEr := Same.re hsr hE1 hA
      have hSr := hsr.ri hS1 hA2
      have hgl := hGr.lt
      have hszr := hsr.size
      by_cases hlt : j < n
      · have i1 : (j : Int) < (n : Int) := by omega
        have hstep := Lib.hid (range_step25 hlt)
        go_upto_region 17 with fail
        generalize hwq : wr = wq at *
        clear hwq
        go_loopw [17, 18] (fun b i wr => ∃ (bb : Bool) (k2 : Nat), b = .bool bb ∧ k2 ≤ m2 ∧ i = .int .i64 k2 ∧ Hid (bb = (p.take k2).all fun u => ad (rowsL n es) u j) ∧ Below wq.heap.size wq wr) (fun _ i _ => m2 - (intOf i).toNat)
        case atStart => exact ⟨true, 0, rfl, Nat.zero_le _, rfl, Lib.hid rfl, Below.refl _ _⟩
        case round =>
          obtain ⟨bb, k2, rfl, hk2, rfl, hbb, hbq⟩ := hrel
          have hSq := hSr.below hbq (Nat.le_refl _)
          have hEq := hEr.below hbq (Nat.le_refl _)
          have hGq := hGr.below hbq hgl
          by_cases hlt2 : k2 < m2
          · have i2 : (k2 : Int) < (m2 : Int) := by omega
            obtain ⟨ad5, y2, rfl, hy2, cy2⟩ := hSq.get hlt2
            obtain ⟨u, hu, rfl⟩ := nts_get hy2.out
            have huj : u < j := by have := hp u (List.mem_of_getElem? hu); omega
            have hst : Hid (((p.take (k2 + 1)).all fun u => ad (rowsL n es) u j) = (bb && ad (rowsL n es) u j)) := Lib.hid (by
              rw [List.take_add_one, List.all_append, ← hbb.out, hu]; simp)
            obtain ⟨q0, q1⟩ := blkG hGq
            have x0 : ∀ dd os, (Sort.grow (redrawn wr dd) os).cell? ⟨w.heap.size, 0, none⟩ = some (.int .i64 n) := fun dd os => cell_regrown q0 dd os
            have x1 : ∀ dd os, (Sort.grow (redrawn wr dd) os).cell? ⟨w.heap.size, 1, none⟩ = some (.slice A m c) := fun dd os => cell_regrown q1 dd os
            have x2 : ∀ dd os, (Sort.grow (redrawn wr dd) os).cell? (ad5.add k2) = some (.int .i64 u) := fun dd os => cell_regrown cy2 dd os
            clear hy2 hu cy2 q0 q1
            -- B1
            cases bb with
            | false =>
              have hb2 : Hid (false = (p.take (k2 + 1)).all fun u => ad (rowsL n es) u j) := Lib.hid (by rw [hst.out]; rfl)
              clear hst hbb
              go_upto_region 19 with fail
              refine wp_region_quiet_below (by kernel_rfl) (by kernel_rfl) ?_
              repeat (quiet_step (fail))
              refine wpQuiet_nil ?_
              intro _ hw'
              obtain ⟨⟨dq, osq⟩, hw''⟩ := hw'
              subst hw''
              have hbx := hbq.trans ((below_regrown wr dq osq).mono hbq.size)
              go_wp2_with fail
              go_roundw
              case rel => exact ⟨false, k2 + 1, rfl, by omega, by go_num, hb2, hbx⟩
              case measure => simp [intOf]; omega
            | true =>
              have hF : decide (0 ≤ rfnd n es u j) = ad (rowsL n es) u j := by
                cases h : ad (rowsL n es) u j with
                | true =>
                  obtain ⟨i, _, e, _⟩ := rfnd_yes hc'.out huj h
                  rw [e]; simp
                | false => rw [rfnd_no hc'.out huj h]; rfl
              have kf := fun w h => kfi.out u j w h
              have hb2 : Hid (ad (rowsL n es) u j = (p.take (k2 + 1)).all fun u => ad (rowsL n es) u j) := Lib.hid (by rw [hst.out]; rfl)
              generalize rfnd n es u j = F at *
              generalize ad (rowsL n es) u j = b2 at *
              have kq : ∀ dd os, Calls Tryd.prog 26 #[.agg #[.int .i64 n, .slice A m c], .int .i64 u, .int .i64 j] (Sort.grow (redrawn wr dd) os) fun e w'' => e = .returned (.int .i64 F) ∧ ∃ p : Regrown, w'' = Sort.grow (redrawn wr p.d) p.os := fun dd os => Calls.regrown_of (kf _ (hEq.below (below_regrown wr dd os) (Nat.le_refl _)))
              replace kq := Lib.hid kq
              clear hst hbb kf
              go_upto_region 19 with fail
              refine wp_region_quiet_below (by kernel_rfl) (by kernel_rfl) ?_
              repeat (quiet_step (with_reducible exact kq.out _ _))
              refine wpQuiet_nil ?_
              intro _ hw'
              obtain ⟨⟨dq, osq⟩, hw''⟩ := hw'
              subst hw''
              have hbx := hbq.trans ((below_regrown wr dq osq).mono hbq.size)
              go_wp2_with fail
              go_roundw
              case rel => exact ⟨b2, k2 + 1, rfl, by omega, by go_num, hb2, hbx⟩
              case measure => simp [intOf]; omega
            -- E1
          · have i2 : ¬ (k2 : Int) < (m2 : Int) := by omega
            have hfit : Hid (bb = fitA (ad (rowsL n es)) p j) := Lib.hid (by
              have := hbb.out
              rw [List.take_of_length_le (by have := hpl'.out; omega)] at this
              exact this)
            have hfq := hfr.below hbq hfr.lt
            have hhq := hhr.below hbq hhr.lt
            have hsq : Same (fun k => k = gn ∨ k = ge) w1 wr := hsr.trans (Same.of_below hbq (Nat.le_refl _) (fun k => k = gn ∨ k = ge)) (fun _ _ e => e)
            cases bb with
            | false =>
              -- B2
              have e1' : Hid (N + rg (ad (rowsL n es)) (fun _ => 1) (kk + 1) (List.range' (j + 1) (n - (j + 1))) p = rg (ad (rowsL n es)) (fun _ => 1) (kk + 1) (List.range' frm d) p) := Lib.hid (by
                have := e1.out; rw [hstep.out, rg_cons, if_neg (by rw [← hfit.out]; simp)] at this; omega)
              have e2' : Hid (∀ x, fj x + rg (ad (rowsL n es)) (wN x) (kk + 1) (List.range' (j + 1) (n - (j + 1))) p = f x + rg (ad (rowsL n es)) (wN x) (kk + 1) (List.range' frm d) p) := Lib.hid (fun x => by
                have := e2.out x; rw [hstep.out, rg_cons, if_neg (by rw [← hfit.out]; simp)] at this; omega)
              have e3' : Hid (∀ i, hj i + rg (ad (rowsL n es)) (wE (eu es i) (ev es i)) (kk + 1) (List.range' (j + 1) (n - (j + 1))) p = h i + rg (ad (rowsL n es)) (wE (eu es i) (ev es i)) (kk + 1) (List.range' frm d) p) := Lib.hid (fun i => by
                have := e3.out i; rw [hstep.out, rg_cons, if_neg (by rw [← hfit.out]; simp)] at this; omega)
              clear e1 e2 e3 hstep hfit hbb
              go_wp2_with fail
              go_roundw
              case rel => exact ⟨j + 1, N, fj, hj, rfl, by go_num, by omega, by omega, hfq, hhq, hsq, e1', e2', e3'⟩
              case measure => simp [intOf]; omega
              -- E2
            | true =>
              have hfit' := hfit.out.symm
              have hpj : (p ++ [j]).Pairwise (· < ·) := List.pairwise_append.2 ⟨hs, List.pairwise_singleton _ _, fun a ha b hb => by rw [List.mem_singleton] at hb; subst hb; have := hp a ha; omega⟩
              have hpj1 : ∀ x ∈ p ++ [j], x < j + 1 := fun x hx => by
                rw [List.mem_append, List.mem_singleton] at hx
                rcases hx with hx | rfl
                · have := hp x hx; omega
                · omega
              have hqj : (p ++ [j]).Pairwise fun u v => ad (rowsL n es) u v = true := List.pairwise_append.2 ⟨hq, List.pairwise_singleton _ _, fun a ha b hb => by rw [List.mem_singleton] at hb; subst hb; unfold fitA at hfit'; exact List.all_eq_true.1 hfit' a ha⟩
              have hk2 : size - (p ++ [j]).length = kk := by rw [List.length_append]; have := hkk'.out; simp; omega
              have hcons : ∀ g, rg (ad (rowsL n es)) g (kk + 1) (List.range' j (n - j)) p = rg (ad (rowsL n es)) g kk (List.range' (j + 1) (n - (j + 1))) (p ++ [j]) + rg (ad (rowsL n es)) g (kk + 1) (List.range' (j + 1) (n - (j + 1))) p := fun g => by rw [hstep.out, rg_cons, if_pos hfit']
              have e1a := e1.out
              have e2a := e2.out
              have e3a := e3.out
              rw [hcons] at e1a
              have ihc : ∀ (A7 : Option Addr) (n7 c7 : Nat) wC, RE wC A m es → RI wC A7 n7 (nts (p ++ [j])) → (∀ ad, A7 = some ad → 0 < n7 → ¬ (fun k => k = gn ∨ k = ge) ad.block) → AF wC gn n fj → AF wC ge m hj → Calls Tryd.prog 58 #[.agg #[.int .i64 n, .slice A m c], .slice A7 n7 c7, .int .i64 ((j : Int) + 1), .int .i64 size, .slice (some ⟨gn, 0, none⟩) n n, .slice (some ⟨ge, 0, none⟩) m m] wC (fun e w' => e = .returned (.int .i64 ((rg (ad (rowsL n es)) (fun _ => 1) kk (List.range' (j + 1) (n - (j + 1))) (p ++ [j]) : Nat) : Int)) ∧ AF w' gn n (fun x => fj x + rg (ad (rowsL n es)) (wN x) kk (List.range' (j + 1) (n - (j + 1))) (p ++ [j])) ∧ AF w' ge m (fun i => hj i + rg (ad (rowsL n es)) (wE (eu es i) (ev es i)) kk (List.range' (j + 1) (n - (j + 1))) (p ++ [j])) ∧ Same (fun k => k = gn ∨ k = ge) wC w') := fun A7 n7 c7 wC hEC h7 hA7 hfC hhC => by
                have := ih'.out (n - (j + 1)) (by have := hdn.out; omega) (j + 1) (by omega) A7 n7 c7 (p ++ [j]) gn ge fj hj wC hEC hA h7 hA7 hfC hhC hne hpj hpj1 hqj (by rw [List.length_append]; have := hkk'.out; simp; omega) (by rw [hk2]; have := hb1'.out; omega) (fun x => by rw [hk2]; have h1 := e2a x; rw [hcons] at h1; have := hbf'.out x; omega) (fun i => by rw [hk2]; have h1 := e3a i; rw [hcons] at h1; have := hbh'.out i; omega)
                rw [hk2] at this
                exact this
              have hb1a := hb1'.out
              have e1' : Hid (N + rg (ad (rowsL n es)) (fun _ => 1) kk (List.range' (j + 1) (n - (j + 1))) (p ++ [j]) + rg (ad (rowsL n es)) (fun _ => 1) (kk + 1) (List.range' (j + 1) (n - (j + 1))) p = rg (ad (rowsL n es)) (fun _ => 1) (kk + 1) (List.range' frm d) p) := Lib.hid (by omega)
              have e2' : Hid (∀ x, fj x + rg (ad (rowsL n es)) (wN x) kk (List.range' (j + 1) (n - (j + 1))) (p ++ [j]) + rg (ad (rowsL n es)) (wN x) (kk + 1) (List.range' (j + 1) (n - (j + 1))) p = f x + rg (ad (rowsL n es)) (wN x) (kk + 1) (List.range' frm d) p) := Lib.hid (fun x => by have h1 := e2a x; rw [hcons] at h1; omega)
              have e3' : Hid (∀ i, hj i + rg (ad (rowsL n es)) (wE (eu es i) (ev es i)) kk (List.range' (j + 1) (n - (j + 1))) (p ++ [j]) + rg (ad (rowsL n es)) (wE (eu es i) (ev es i)) (kk + 1) (List.range' (j + 1) (n - (j + 1))) p = h i + rg (ad (rowsL n es)) (wE (eu es i) (ev es i)) (kk + 1) (List.range' frm d) p) := Lib.hid (fun i => by have h1 := e3a i; rw [hcons] at h1; omega)
              have hNN : N + rg (ad (rowsL n es)) (fun _ => 1) kk (List.range' (j + 1) (n - (j + 1))) (p ++ [j]) ≤ 1099511627776 := by omega
              generalize rg (ad (rowsL n es)) (fun _ => 1) kk (List.range' (j + 1) (n - (j + 1))) (p ++ [j]) = N9 at *
              have w9 : IntKind.i64.wrap ((N : Int) + (N9 : Int)) = ((N + N9 : Nat) : Int) := (IntWalk.i64_in _ ⟨by omega, by omega⟩).trans (by omega)
              have w9' : wrap64 ((N : Int) + (N9 : Int)) = ((N + N9 : Nat) : Int) := by unfold wrap64; omega
              have wj : IntKind.i64.wrap ((j : Int) + 1) = (j : Int) + 1 := IntWalk.i64_in _ ⟨by omega, by omega⟩
              obtain ⟨q0, q1⟩ := blkG hGq
              have hgq := hGq.lt
              have hgnq := hfq.lt
              have hgeq := hhq.lt
              obtain ⟨z0, hz0, hz1, hz2, hz3⟩ := info_parts int_info
              have hpl64 : (nts p).length = m2 := by unfold nts; rw [List.length_map]; exact hpl'.out
              have hpl65 := Lib.hid hpl64
              have hnj : Hid (nts p ++ [(j : Int)] = nts (p ++ [j])) := Lib.hid (by simp [nts])
              replace ihc := Lib.hid ihc
              clear e1 e2 e3 e1a e2a e3a hb1a hcons hfit hfit' hbb hpl64 ih'
              have q0a : ∀ o, (wr.alloc o).cell? ⟨w.heap.size, 0, none⟩ = some (.int .i64 n) := fun o => (World.cell?_alloc_lt wr o ⟨w.heap.size, 0, none⟩ hgq).trans q0
              have q1a : ∀ o, (wr.alloc o).cell? ⟨w.heap.size, 1, none⟩ = some (.slice A m c) := fun o => (World.cell?_alloc_lt wr o ⟨w.heap.size, 1, none⟩ hgq).trans q1
              have hSd : Reads wr.drew wr.heap.size 1 A2 m2 (ints (nts p)) := hSq.drew
              have hSa : ∀ o, Reads (wr.alloc o).drew (wr.alloc o).heap.size 1 A2 m2 (ints (nts p)) := fun o => (hSq.alloc o).drew
              have hSb : ∀ o, Reads (wr.drew.alloc o) (wr.alloc o).heap.size 1 A2 m2 (ints (nts p)) := fun o => (hSq.alloc o).drew
              go_upto_region 21 with fail
              go_region_law (first
                | (refine step_append_any _ (by rfl) (.const (.slice none 0 0)) (.tmp 88) 26 (by rfl) wr.heap.size 3 z0 _ 1 8 Tryd.underlying26 hz0 hz1 hz2 hz3 rfl (by omega) (.slice none 0 0) 0 [] (by rfl) (World.ownsRow_nil _ _ _ _) _ A2 m2 c2 (ints (nts p)) (by first | (simp [go_sem]; done) | rfl) (by first | with_reducible exact hSd | with_reducible exact hSa _ | with_reducible exact hSb _) (ints_one _) (by unfold maxLen; omega) (by omega) (by simp) ?_
                   intro v1 wA hown1 hg1 _
                   have hbA : Below wr.heap.size wr wA := by first | exact below_own ((Below.refl wr.heap.size wr).drew) hg1 (by simp) (fun k hk => by simp [Value.ownBlock] at hk) | exact below_own (((Below.refl wr.heap.size wr).alloc (Nat.le_refl _) _).drew) hg1 (by simp) (fun k hk => by simp [Value.ownBlock] at hk)
                   have cc0 := (hbA.cell (p := ⟨w.heap.size, 0, none⟩) hgq).trans q0
                   have cc1 := (hbA.cell (p := ⟨w.heap.size, 1, none⟩) hgq).trans q1
                   have hgqA : w.heap.size < wA.heap.size := Nat.lt_of_lt_of_le hgq hbA.size
                   have cc0a : ∀ o, (wA.alloc o).cell? ⟨w.heap.size, 0, none⟩ = some (.int .i64 n) := fun o => (World.cell?_alloc_lt wA o ⟨w.heap.size, 0, none⟩ hgqA).trans cc0
                   have cc1a : ∀ o, (wA.alloc o).cell? ⟨w.heap.size, 1, none⟩ = some (.slice A m c) := fun o => (World.cell?_alloc_lt wA o ⟨w.heap.size, 1, none⟩ hgqA).trans cc1
                   try (have hone : RI wA (some ⟨wr.heap.size, 0, none⟩) 1 [(j : Int)] := RI.kept (RI.drew (RI.one (w := wr) (t := 3) (j : Int))) hg1 (fun _ _ h => by simp [Value.ownBlock] at h)))
                | (refine step_append_any _ (by rfl) (.tmp 89) (.tmp 91) 26 (by rfl) wr.heap.size 3 z0 _ 1 8 Tryd.underlying26 hz0 hz1 hz2 hz3 rfl (by omega) v1 (0 + m2) ([] ++ ints (nts p)) (by first | (simp [go_sem]; done) | rfl) (World.ownsRow.alloc hown1 _) _ (some ⟨wA.heap.size, 0, none⟩) 1 1 (ints [(j : Int)]) (by first | (simp [go_sem]; done) | rfl) (RI.one _) (ints_one _) (by unfold maxLen; omega) (by omega) (by have := hbA.size; simp; omega) ?_
                   intro v2 wC hown2 hg2 _
                   have hbC : Below wr.heap.size wr wC := below_own (hbA.alloc hbA.size _) hg2 (by have := hbA.size; simp; omega) (fun k hk => (hown1.lt k hk).1)
                   have hO : OI wC wr.heap.size v2 (nts p ++ [(j : Int)]) := by
                     unfold OI
                     rw [List.length_append, hpl65.out, ints_append]
                     have h := hown2
                     rw [Nat.zero_add, List.nil_append] at h
                     exact h
                   obtain ⟨A7, n7, c7, hv7, hn7, hc7, -, hr7⟩ := hO.form
                   subst hv7
                   have hfr7 := hO.fresh hn7
                   replace hn7 := Lib.hid hn7
                   have cc2 := (hbC.cell (p := ⟨w.heap.size, 0, none⟩) hgq).trans q0
                   have cc3 := (hbC.cell (p := ⟨w.heap.size, 1, none⟩) hgq).trans q1
                   rw [hnj.out] at hr7
                   have t1 : RE wC A m es := hEq.below hbC (Nat.le_refl _)
                   have t2 : ∀ ad, A7 = some ad → 0 < n7 → ¬ (ad.block = gn ∨ ad.block = ge) := fun ad e hp hx => by have h1 := hfr7 ad e; omega
                   have t3 : AF wC gn n fj := AF.below hfq hbC hgnq
                   have t4 : AF wC ge m hj := AF.below hhq hbC hgeq
                   have kC := Lib.hid (ihc.out A7 n7 c7 wC t1 hr7 t2 t3 t4)
                   clear t1 t2 t3 t4 hr7 hfr7 hO hown2 hg2)
                | (refine step_append_any _ (by rfl) (.tmp 89) (.tmp 91) 26 (by rfl) wr.heap.size 3 z0 _ 1 8 Tryd.underlying26 hz0 hz1 hz2 hz3 rfl (by omega) v1 (0 + m2) ([] ++ ints (nts p)) (by first | (simp [go_sem]; done) | rfl) hown1 _ (some ⟨wr.heap.size, 0, none⟩) 1 1 (ints [(j : Int)]) (by first | (simp [go_sem]; done) | rfl) hone (ints_one _) (by unfold maxLen; omega) (by omega) hbA.size ?_
                   intro v2 wC hown2 hg2 _
                   have hbC : Below wr.heap.size wr wC := below_own hbA hg2 hbA.size (fun k hk => (hown1.lt k hk).1)
                   have hO : OI wC wr.heap.size v2 (nts p ++ [(j : Int)]) := by
                     unfold OI
                     rw [List.length_append, hpl65.out, ints_append]
                     have h := hown2
                     rw [Nat.zero_add, List.nil_append] at h
                     exact h
                   obtain ⟨A7, n7, c7, hv7, hn7, hc7, -, hr7⟩ := hO.form
                   subst hv7
                   have hfr7 := hO.fresh hn7
                   replace hn7 := Lib.hid hn7
                   have cc2 := (hbC.cell (p := ⟨w.heap.size, 0, none⟩) hgq).trans q0
                   have cc3 := (hbC.cell (p := ⟨w.heap.size, 1, none⟩) hgq).trans q1
                   rw [hnj.out] at hr7
                   have t1 : RE wC A m es := hEq.below hbC (Nat.le_refl _)
                   have t2 : ∀ ad, A7 = some ad → 0 < n7 → ¬ (ad.block = gn ∨ ad.block = ge) := fun ad e hp hx => by have h1 := hfr7 ad e; omega
                   have t3 : AF wC gn n fj := AF.below hfq hbC hgnq
                   have t4 : AF wC ge m hj := AF.below hhq hbC hgeq
                   have kC := Lib.hid (ihc.out A7 n7 c7 wC t1 hr7 t2 t3 t4)
                   clear t1 t2 t3 t4 hr7 hfr7 hO hown2 hg2)
                | (go_simp; go_at_call 58; with_reducible refine kC.out.mono ?_; rintro e wz ⟨rfl, h9f, h9h, h9s⟩)
                | fail)
              all_goals
                have hsC : Same (fun k => k = gn ∨ k = ge) w1 wz := (hsq.trans (Same.of_below hbC (Nat.le_refl _) (fun k => k = gn ∨ k = ge)) (fun _ _ e => e)).trans h9s (fun _ _ e => e)
                clear ihc hbC
                -- B4
                go_wp2_with fail
                go_roundw
                case rel => exact ⟨j + 1, N + N9, _, _, by first | rfl | (push_cast; rfl) | simp, by go_num, by omega, by omega, h9f, h9h, hsC, e1', e2', e3'⟩
                case measure => simp [intOf]; omega
                -- E4
      · have i1 : ¬ (j : Int) < (n : Int) := by omega
        -- B3
        have en : n - j = 0 := by omega
        have eN : N = rg (ad (rowsL n es)) (fun _ => 1) (kk + 1) (List.range' frm d) p := by
          have := e1.out; rw [en] at this; exact this
        have hfe := hfr.congr (f' := fun x => f x + rg (ad (rowsL n es)) (wN x) (kk + 1) (List.range' frm d) p) (fun x _ => by have := e2.out x; rw [en] at this; exact this)
        have hhe := hhr.congr (f' := fun i => h i + rg (ad (rowsL n es)) (wE (eu es i) (ev es i)) (kk + 1) (List.range' frm d) p) (fun i _ => by have := e3.out i; rw [en] at this; exact this)
        have hret := Lib.hid (show RetCn w gn ge n m (rg (ad (rowsL n es)) (fun _ => 1) (kk + 1) (List.range' frm d) p) (fun x => f x + rg (ad (rowsL n es)) (wN x) (kk + 1) (List.range' frm d) p) (fun i => h i + rg (ad (rowsL n es)) (wE (eu es i) (ev es i)) (kk + 1) (List.range' frm d) p) (.returned (.int .i64 (N : Int))) wr from ⟨by rw [eN], hfe, hhe, hsame1.trans hsr (fun _ _ h => h)⟩)
        clear eN hfe hhe en e1 e2 e3
        go_wp2_with fail
        go_ret
        exact hret.out
        -- E3
end Go.Proofs.YtknlmgcbdcepnaaDoor
