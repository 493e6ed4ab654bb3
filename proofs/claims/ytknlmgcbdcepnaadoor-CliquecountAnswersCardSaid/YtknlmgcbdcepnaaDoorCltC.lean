/- Reference 25: count. -/
import Derived.Test.YtknlmgcbdcepnaaDoorCltB
import Derived.Test.YtknlmgcbdcepnaaDoorOwnB
set_option linter.unusedVariables false
set_option linter.unusedSimpArgs false
namespace Go.Proofs.YtknlmgcbdcepnaaDoor
open Go.RowKit CoBit CoCli Pl

/-- The ends of edge number j. -/
def eu (es : List (Int × Int)) (j : Nat) : Nat := (es.getD j (0, 0)).1.toNat
def ev (es : List (Int × Int)) (j : Nat) : Nat := (es.getD j (0, 0)).2.toNat
theorem ends_lt {n : Nat} {es : List (Int × Int)} (hc : chkG n es = 0) {j : Nat} (hj : j < es.length) : eu es j < ev es j ∧ ev es j < n ∧ es[j]? = some ((eu es j : Int), (ev es j : Int)) := by
  have hx : es[j]? = some es[j] := List.getElem?_eq_getElem hj
  have h := chkE_lt (chkG_zero hc).2.2 _ (List.getElem_mem hj)
  unfold eu ev
  rw [List.getD_eq_getElem?_getD, hx]
  simp only [Option.getD_some]
  refine ⟨by omega, by omega, ?_⟩
  congr 1
  refine Prod.ext ?_ ?_ <;> simp <;> omega
theorem es_nodup {n : Nat} {es : List (Int × Int)} (hc : chkG n es = 0) : es.Nodup := by
  have := (srt_of_chk hc).2
  refine this.imp fun {a b} h e => ?_
  subst e
  unfold ltE at h; omega
/-- Find among the edges. -/
theorem rfnd_yes {n : Nat} {es : List (Int × Int)} (hc : chkG n es = 0) {u v : Nat} (huv : u < v) (h : ad (rowsL n es) u v = true) : ∃ j, j < es.length ∧ rfnd n es u v = (j : Int) ∧ ∀ i, i < es.length → (i = j ↔ eu es i = u ∧ ev es i = v) := by
  have he : edgeP (u : Int) (v : Int) = ((u : Int), (v : Int)) := by unfold edgeP; rw [show min (u : Int) v = u by omega, show max (u : Int) v = v by omega]
  have hm : ((u : Int), (v : Int)) ∈ es := by
    have := (rows_bit (chkE_lt (chkG_zero hc).2.2) u v).1 h
    rcases this with h | h
    · exact h
    · have := chkE_lt (chkG_zero hc).2.2 _ h
      simp at this; omega
  have h1 : rfnd n es u v = fndE es ((u : Int), (v : Int)) := by unfold rfnd; rw [if_pos hc, he]
  rw [h1]
  unfold fndE
  cases hf : es.findIdx? (fun x => decide (x = ((u : Int), (v : Int)))) with
  | none =>
    rw [List.findIdx?_eq_none_iff] at hf
    have := hf _ hm
    simp at this
  | some j =>
    obtain ⟨hj, hj2, _⟩ := List.findIdx?_eq_some_iff_getElem.1 hf
    have hj3 : es[j] = ((u : Int), (v : Int)) := by simpa using hj2
    refine ⟨j, hj, rfl, fun i hi => ⟨fun e => ?_, fun ⟨e1, e2⟩ => ?_⟩⟩
    · subst e
      obtain ⟨_, _, h3⟩ := ends_lt hc hi
      rw [List.getElem?_eq_getElem hi, hj3] at h3
      injection h3 with h3
      injection h3 with h4 h5
      exact ⟨by omega, by omega⟩
    · obtain ⟨_, _, h3⟩ := ends_lt hc hi
      rw [List.getElem?_eq_getElem hi, e1, e2] at h3
      injection h3 with h3
      have hnd := List.pairwise_iff_getElem.1 (es_nodup hc)
      rcases Nat.lt_trichotomy i j with h4 | h4 | h4
      · exact absurd (h3.trans hj3.symm) (hnd i j hi hj h4)
      · exact h4
      · exact absurd (hj3.trans h3.symm) (hnd j i hj hi h4)
theorem rfnd_no {n : Nat} {es : List (Int × Int)} (hc : chkG n es = 0) {u v : Nat} (huv : u < v) (h : ad (rowsL n es) u v = false) : rfnd n es u v = -1 := by
  have he : edgeP (u : Int) (v : Int) = ((u : Int), (v : Int)) := by unfold edgeP; rw [show min (u : Int) v = u by omega, show max (u : Int) v = v by omega]
  have h1 : rfnd n es u v = fndE es ((u : Int), (v : Int)) := by unfold rfnd; rw [if_pos hc, he]
  rw [h1]
  refine fndE_none fun x hx hxe => ?_
  rw [hxe] at hx
  have := (rows_bit (chkE_lt (chkG_zero hc).2.2) u v).2 (.inl hx)
  unfold ad at h
  rw [this] at h; cases h
/-- What count leaves. -/
def RetCn (w : World) (gn ge n m : Nat) (N : Nat) (f h : Nat → Nat) (e : Ending) (w' : World) : Prop := e = .returned (.int .i64 (N : Int)) ∧ AF w' gn n f ∧ AF w' ge m h ∧ Same (fun k => k = gn ∨ k = ge) w w'
theorem Same.af {w w' : World} {g n : Nat} {f : Nat → Nat} {ex : Nat → Prop} (h : Same ex w w') (hA : AF w g n f) (hx : ¬ ex g) : AF w' g n f := h.blk hA hx
theorem Same.re {A : Option Addr} {n : Nat} {es : List (Int × Int)} {ex : Nat → Prop} {W W' : World} (hs : Same ex W W') (h : RE W A n es) (hx : ∀ ad, A = some ad → 0 < n → ¬ ex ad.block) : RE W' A n es :=
  ⟨h.1, fun hp => by
    obtain ⟨ad, he, hb, hc⟩ := h.2 hp
    exact ⟨ad, he, Nat.lt_of_lt_of_le hb hs.size, fun j u hu => (World.cell?_of_block (hs.block (ad.add j).block (by rw [block_of_add]; exact hb) (by rw [block_of_add]; exact hx ad he hp))).trans (hc j u hu)⟩⟩
theorem nts_get {S : List Nat} {k : Nat} {y : Int} (h : (nts S)[k]? = some y) : ∃ u, S[k]? = some u ∧ (u : Int) = y := by
  unfold nts at h
  rw [List.getElem?_map, Option.map_eq_some_iff] at h
  exact h
set_option maxRecDepth 100000 in
set_option maxHeartbeats 8000000 in
/-- The leaf: one clique is counted. -/
theorem r25leaf_any (A : Option Addr) (m c n : Nat) (es : List (Int × Int)) (hm : m ≤ 274877906944) (hc : chkG n es = 0) (A2 : Option Addr) (m2 c2 : Nat) (p : List Nat) (frm : Int) (gn ge : Nat) (f h : Nat → Nat) (w : World)
    (hE : RE w A m es) (hA : ∀ ad, A = some ad → 0 < m → ¬ (fun k => k = gn ∨ k = ge) ad.block) (h2 : RI w A2 m2 (nts p)) (hA2 : ∀ ad, A2 = some ad → 0 < m2 → ¬ (fun k => k = gn ∨ k = ge) ad.block) (hf : AF w gn n f) (hh : AF w ge m h) (hne : gn ≠ ge)
    (hs : p.Pairwise (· < ·)) (hp : ∀ x ∈ p, x < n) (hq : p.Pairwise fun u v => ad (rowsL n es) u v = true) (hfb : ∀ x, f x ≤ 1099511627776) (hhb : ∀ x, h x ≤ 1099511627776) :
    Calls Tryd.prog 58 #[.agg #[.int .i64 n, .slice A m c], .slice A2 m2 c2, .int .i64 frm, .int .i64 m2, .slice (some ⟨gn, 0, none⟩) n n, .slice (some ⟨ge, 0, none⟩) m m] w (RetCn w gn ge n m 1 (fun x => f x + wN x p) (fun j => h j + wE (eu es j) (ev es j) p)) := by
  have hpl : p.length = m2 := by have := h2.len; unfold nts at this; rw [List.length_map] at this; exact this
  have hB1 : Below w.heap.size w (w.alloc (.cells #[.int .i64 n, .slice A m c] 24)) := (Below.refl _ w).alloc (Nat.le_refl _) _
  have bg1 := Blk.new w 24 #[.int .i64 n, .slice A m c]
  have hE1 := hE.below hB1 (Nat.le_refl _)
  have hS1 := h2.below hB1 (Nat.le_refl _)
  have hf1 := hf.below hB1 hf.lt
  have hh1 := hh.below hB1 hh.lt
  have hsame1 : Same (fun k => k = gn ∨ k = ge) w (w.alloc (.cells #[.int .i64 n, .slice A m c] 24)) := Same.of_below hB1 (Nat.le_refl _) _
  have hgnl := hf.lt
  have hgel := hh.lt
  have hel := Lib.hid hE.len
  have hc' := Lib.hid hc
  have kfi := Lib.hid (fun u v w h => rfind_any A m c n es u v w h hm)
  have hm64 : m2 ≤ 64 := by
    have h1 := List.Nodup.length_le_of_subset (l₁ := p) (l₂ := List.range n) (hs.imp (fun h => Nat.ne_of_lt h)) (fun x hx => List.mem_range.2 (hp x hx))
    rw [List.length_range] at h1
    have := (chkG_zero hc).2.1; omega
  have i0 : ((m2 : Int) == (m2 : Int)) = true := by simp
  replace hpl := Lib.hid hpl
  clear hc h2 hE hf hh
  go_enter Tryd.func58, Tryd.ntmps58
  go_upto_region 3 with fail
  generalize w.alloc (.cells #[.int .i64 n, .slice A m c] 24) = w1 at *
  have hlt1 := bg1.lt
  go_loopw [13] (fun i wr => ∃ k1 : Nat, k1 ≤ m2 ∧ i = .int .i64 k1 ∧ AF wr gn n (fun x => f x + wN x (p.take k1)) ∧ AF wr ge m (fun j => h j + hI p k1 (eu es j) (ev es j)) ∧ Same (fun k => k = gn ∨ k = ge) w1 wr) (fun i _ => m2 - (intOf i).toNat)
  case atStart => exact ⟨0, Nat.zero_le _, rfl, hf1.congr (fun i _ => by simp [wN]), hh1.congr (fun i _ => by rw [hI_zero]; rfl), Same.refl _ _⟩
  case round =>
    obtain ⟨k1, hk1, rfl, hfr, hhr, hsr⟩ := hrel
    by_cases hlt : k1 < m2
    · have i1 : (k1 : Int) < (m2 : Int) := by omega
      have hSr := hsr.ri hS1 hA2
      obtain ⟨ad5, y2, rfl, hy2, cy2⟩ := hSr.get hlt
      obtain ⟨u, hu, rfl⟩ := nts_get hy2.out
      have hun : u < n := hp u (List.mem_of_getElem? hu)
      have hgu : Hid (p.getD k1 0 = u) := Lib.hid (by rw [List.getD_eq_getElem?_getD, hu]; rfl)
      have j0 : (0 : Int) ≤ (u : Int) := Int.natCast_nonneg _
      have j1 : (u : Int) < (n : Int) := by omega
      have cu := hfr.cell hun
      have fu := hfr.frozen u
      have hNle : f u + wN u (p.take k1) ≤ 1099511627777 := by have := hfb u; unfold wN; split <;> omega
      obtain ⟨X, hX⟩ : ∃ X, X = f u + wN u (p.take k1) := ⟨_, rfl⟩
      rw [← hX] at cu hNle
      have hfn : AF (wr.setCell ⟨gn, u, none⟩ (.int .i64 ((X + 1 : Nat) : Int))) gn n (fun x => f x + wN x (p.take (k1 + 1))) := (hfr.set u (X + 1)).congr (fun x hx => by
        rw [wN_step hs (by have := hpl.out; omega) x, hgu.out]
        by_cases e : x = u
        · subst e; rw [if_pos rfl, if_pos rfl, hX]; omega
        · rw [if_neg e, if_neg e])
      have hhn : AF (wr.setCell ⟨gn, u, none⟩ (.int .i64 ((X + 1 : Nat) : Int))) ge m (fun j => h j + hI p k1 (eu es j) (ev es j)) := hhr.far (p := ⟨gn, u, none⟩) (fun e => hne e.symm) _
      have hsn : Same (fun k => k = gn ∨ k = ge) w1 (wr.setCell ⟨gn, u, none⟩ (.int .i64 ((X + 1 : Nat) : Int))) := hsr.trans (Same.set wr gn u _) (fun _ _ e => .inl e)
      have eX : ((X + 1 : Nat) : Int) = (X : Int) + 1 := rfl
      rw [eX] at hfn hhn hsn
      replace hX := Lib.hid hX
      clear hfr hhr hSr hy2 hsr eX
      go_upto_region 7 with fail
      have hsz := hsn.size
      generalize wr.setCell ⟨gn, u, none⟩ (.int .i64 ((X : Int) + 1)) = wq at *
      go_loopw [14] (fun i wr => ∃ k2 : Nat, k1 < k2 ∧ k2 ≤ m2 ∧ i = .int .i64 k2 ∧ AF wr gn n (fun x => f x + wN x (p.take (k1 + 1))) ∧ AF wr ge m (fun j => h j + hK p k1 k2 (eu es j) (ev es j)) ∧ Same (fun k => k = gn ∨ k = ge) w1 wr) (fun i _ => m2 - (intOf i).toNat)
      case atStart => exact ⟨k1 + 1, by omega, by omega, by go_num, hfn, hhn.congr (fun j hj => by rw [hK_start hs (by have := hpl.out; omega) (ends_lt hc'.out (by have := hel.out; omega)).1]), hsn⟩
      case round =>
        obtain ⟨k2, hk12, hk2, rfl, hfr, hhr, hsr⟩ := hrel
        by_cases hlt2 : k2 < m2
        · have i2 : (k2 : Int) < (m2 : Int) := by omega
          have hSr := hsr.ri hS1 hA2
          obtain ⟨ad5', y2, he5, hy2, cy2⟩ := hSr.get hlt
          obtain rfl : ad5 = ad5' := Option.some.inj he5
          obtain ⟨ad5', y3, he6, hy3, cy3⟩ := hSr.get hlt2
          obtain rfl : ad5 = ad5' := Option.some.inj he6
          clear he5 he6
          obtain ⟨u', hu', rfl⟩ := nts_get hy2.out
          obtain rfl : u = u' := by rw [hu] at hu'; exact Option.some.inj hu'
          obtain ⟨v, hv, rfl⟩ := nts_get hy3.out
          obtain ⟨e2, hue⟩ := List.getElem?_eq_some_iff.1 hu
          obtain ⟨e3, hve⟩ := List.getElem?_eq_some_iff.1 hv
          have huv : u < v := by have := List.pairwise_iff_getElem.1 hs k1 k2 e2 e3 hk12; rw [hue, hve] at this; exact this
          have hadj : ad (rowsL n es) u v = true := by have := List.pairwise_iff_getElem.1 hq k1 k2 e2 e3 hk12; rw [hue, hve] at this; exact this
          have hgv : Hid (p.getD k2 0 = v) := Lib.hid (by rw [List.getD_eq_getElem?_getD, hv]; rfl)
          obtain ⟨j0, hj0, hF, hju⟩ := rfnd_yes hc'.out huv hadj
          have hj0m : j0 < m := by have := hel.out; omega
          have hGr := hsr.blk bg1 (fun e => by omega)
          obtain ⟨d0, d1⟩ := blkG hGr
          have hEr := Same.re hsr hE1 hA
          have kf := fun w h => kfi.out u v w h
          rw [hF] at kf
          have had5 : ad5.block < wr.heap.size := by
            obtain ⟨ad', e', hlt', _⟩ := hSr.2 (show 0 < m2 by omega)
            rw [show ad5 = ad' from Option.some.inj e']; exact hlt'
          have hadn := hA2 ad5 rfl (by omega)
          have cj := hhr.cell hj0m
          have fj := hhr.frozen j0
          have hgel' := hhr.lt
          have hKle : h j0 + hK p k1 k2 (eu es j0) (ev es j0) ≤ 1099511627777 := by
            have h1 := hhb j0
            have h2 := hK_le hs (i := k1) (by have := hpl.out; omega) (ends_lt hc'.out hj0).1 k2 (by have := hpl.out; omega)
            omega
          obtain ⟨Y, hY⟩ : ∃ Y, Y = h j0 + hK p k1 k2 (eu es j0) (ev es j0) := ⟨_, rfl⟩
          rw [← hY] at cj hKle
          have q0 : (0 : Int) ≤ (j0 : Int) := Int.natCast_nonneg _
          have q1 : (j0 : Int) < (m : Int) := by omega
          have hfin : Hid (∀ wf, Below wr.heap.size wr wf → AF (wf.setCell ⟨ge, j0, none⟩ (.int .i64 ((Y : Int) + 1))) gn n (fun x => f x + wN x (p.take (k1 + 1))) ∧ AF (wf.setCell ⟨ge, j0, none⟩ (.int .i64 ((Y : Int) + 1))) ge m (fun j => h j + hK p k1 (k2 + 1) (eu es j) (ev es j)) ∧ Same (fun k => k = gn ∨ k = ge) w1 (wf.setCell ⟨ge, j0, none⟩ (.int .i64 ((Y : Int) + 1)))) := Lib.hid fun wf hb => by
            refine ⟨(hfr.below hb hfr.lt).far (p := ⟨ge, j0, none⟩) hne _, ?_, (hsr.trans (Same.of_below hb (Nat.le_refl _) (fun k => k = gn ∨ k = ge)) (fun _ _ e => e)).trans (Same.set wf ge j0 _) (fun _ _ e => .inr e)⟩
            have h1 := (hhr.below hb hhr.lt).set j0 (Y + 1)
            refine (show AF (wf.setCell ⟨ge, j0, none⟩ (.int .i64 ((Y : Int) + 1))) ge m _ from h1).congr fun j hj => ?_
            have hjl : j < es.length := by have := hel.out; omega
            show (if j = j0 then Y + 1 else h j + hK p k1 k2 (eu es j) (ev es j)) = _
            rw [hK_step hs (by have := hpl.out; omega), hgu.out, hgv.out]
            by_cases e : j = j0
            · rw [if_pos e, if_pos ((hju j hjl).1 e), hY, e]; omega
            · rw [if_neg e, if_neg (fun hh => e ((hju j hjl).2 hh))]; omega
          have n0 : ∀ i j : Nat, (⟨ge, i, none⟩ : Addr) ≠ ⟨w.heap.size, j, none⟩ := fun i j e => by injection e with e; omega
          have n1 : ∀ i j : Nat, (⟨ge, i, none⟩ : Addr) ≠ ad5.add j := fun i j e => hadn (.inr (by have := congrArg Addr.block e; rw [block_of_add] at this; exact this.symm))
          replace n0 := Lib.hid n0
          replace n1 := Lib.hid n1
          replace hY := Lib.hid hY
          replace kf := Lib.hid kf
          have hgl := hGr.lt
          clear hSr hy2 hy3 hu' hv e2 e3 hue hve hF hfr hhr hsr hadj hju
          go_upto_region 9 with fail
          go_region_with (first
            | (go_at_call 26; with_reducible refine (kf.out _ (by first | exact hEr.drew | exact hEr | exact hEr.drewN _)).mono ?_; rintro e wf ⟨rfl, hbf0⟩
               have hbf : Below wr.heap.size wr wf := ((Below.refl wr.heap.size wr).drew).trans hbf0
               have cj2 := (hbf.cell (p := ⟨ge, j0, none⟩) hgel').trans cj
               have fj2 := (hbf.frozen (p := ⟨ge, j0, none⟩) hgel').trans fj)
            | fail)
          all_goals
            obtain ⟨r1, r2, r3⟩ := hfin.out wf hbf
            clear hfin hbf cj2 fj2 kf
            go_wp2_with fail
            go_roundw
            case rel => exact ⟨k2 + 1, by omega, by omega, by go_num, r1, r2, r3⟩
            case measure => simp [intOf]; omega
        · have i2 : ¬ (k2 : Int) < (m2 : Int) := by omega
          have hhe := hhr.congr (f' := fun j => h j + hI p (k1 + 1) (eu es j) (ev es j)) (fun j hj => by
            have e : k2 = p.length := by have := hpl.out; omega
            rw [e, hK_end hs (by have := hpl.out; omega)])
          go_wp2_with fail
          go_roundw
          case rel => exact ⟨k1 + 1, by omega, by go_num, hfr, hhe, hsr⟩
          case measure => simp [intOf]; omega
    · have i1 : ¬ (k1 : Int) < (m2 : Int) := by omega
      have hpk : p.take k1 = p := List.take_of_length_le (by have := hpl.out; omega)
      have hfe := hfr.congr (f' := fun x => f x + wN x p) (fun i _ => by rw [hpk])
      have hhe := hhr.congr (f' := fun j => h j + wE (eu es j) (ev es j) p) (fun i _ => by
        have : k1 = p.length := by have := hpl.out; omega
        rw [this, hI_all])
      clear hpk
      go_wp2_with fail
      go_ret
      exact ⟨rfl, hfe, hhe, hsame1.trans hsr (fun _ _ h => h)⟩
end Go.Proofs.YtknlmgcbdcepnaaDoor
