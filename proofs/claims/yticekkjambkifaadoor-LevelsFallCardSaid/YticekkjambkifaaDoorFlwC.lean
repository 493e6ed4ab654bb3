/- The network in memory; who reaches a node. -/
import Derived.Test.YticekkjambkifaaDoorZae
import Derived.BigQuiet
import Derived.Laws.BitsAllLaws
set_option linter.unusedVariables false
set_option linter.unusedSimpArgs false
namespace Go.Proofs.YticekkjambkifaaDoor.Fl
open Go.RowKit Go.Proofs.YticekkjambkifaaDoor

/-- Where the network lies. -/
structure NP where
  x : Nat
  hA : Option Addr
  gh : Nat
  ch : Nat
  go : Nat
  gl : Nat
  gn : Nat
  top : Nat
/-- The halves. -/
def HB (w : World) (g : Nat) (ac : List Ar) (L : List Nat) : Prop := ∃ cs : Array Value, Blk w g 176 cs ∧ ∀ i, i < 2 * ac.length → cs[i * 4]? = some (.int .i64 (fr ac i : Nat)) ∧ cs[i * 4 + 1]? = some (.int .i64 (hd ac i : Nat)) ∧ (∃ c : Int, cs[i * 4 + 2]? = some (.int .i64 c)) ∧ cs[i * 4 + 3]? = some (.int .i64 (L.getD i 0 : Nat))
theorem HB.lt {w : World} {g : Nat} {ac : List Ar} {L : List Nat} (h : HB w g ac L) : g < w.heap.size := by obtain ⟨cs, h, _⟩ := h; exact h.lt
theorem HB.frozen {w : World} {g : Nat} {ac : List Ar} {L : List Nat} (h : HB w g ac L) (i : Nat) : w.frozen? ⟨g, i, none⟩ = false := by obtain ⟨cs, h, _⟩ := h; exact h.frozen i
theorem HB.get {w : World} {g : Nat} {ac : List Ar} {L : List Nat} (h : HB w g ac L) {i : Nat} (hi : i < 2 * ac.length) : w.cell? ⟨g, i * 4, none⟩ = some (.int .i64 (fr ac i : Nat)) ∧ w.cell? ⟨g, i * 4 + 1, none⟩ = some (.int .i64 (hd ac i : Nat)) ∧ (∃ c : Int, w.cell? ⟨g, i * 4 + 2, none⟩ = some (.int .i64 c)) ∧ w.cell? ⟨g, i * 4 + 3, none⟩ = some (.int .i64 (L.getD i 0 : Nat)) := by
  obtain ⟨cs, hB, hc⟩ := h
  obtain ⟨h0, h1, ⟨c, h2⟩, h3⟩ := hc i hi
  exact ⟨(hB.cell _).trans h0, (hB.cell _).trans h1, ⟨c, (hB.cell _).trans h2⟩, (hB.cell _).trans h3⟩
theorem HB.same {w w' : World} {g : Nat} {ac : List Ar} {L : List Nat} {ex : Nat → Prop} (h : HB w g ac L) (hs : Same ex w w') (hx : ¬ ex g) : HB w' g ac L := by
  obtain ⟨cs, hB, hc⟩ := h
  exact ⟨cs, hs.blk hB hx, hc⟩
theorem HB.set {w : World} {g : Nat} {ac : List Ar} {L : List Nat} (h : HB w g ac L) (hl : L.length = 2 * ac.length) {i : Nat} (hi : i < 2 * ac.length) (v : Nat) : HB (w.setCell ⟨g, i * 4 + 3, none⟩ (.int .i64 (v : Nat))) g ac (L.set i v) := by
  obtain ⟨cs, hB, hc⟩ := h
  refine ⟨_, hB.set (i * 4 + 3) (.int .i64 (v : Nat)), fun j hj => ?_⟩
  obtain ⟨h0, h1, ⟨c, h2⟩, h3⟩ := hc j hj
  have hlt : ∀ {k : Nat} {u : Value}, cs[k]? = some u → k < cs.size := fun hu => (Array.getElem?_eq_some_iff.1 hu).1
  have far : ∀ {k : Nat} {u : Value}, cs[k]? = some u → k ≠ i * 4 + 3 → (cs.setIfInBounds (i * 4 + 3) (.int .i64 (v : Nat)))[k]? = some u := fun hu hk => by
    rw [Array.getElem?_setIfInBounds, if_neg (fun e => hk e.symm)]; exact hu
  refine ⟨far h0 (by omega), far h1 (by omega), ⟨c, far h2 (by omega)⟩, ?_⟩
  rw [getD_set_nat _ _ _ _ (by rw [hl]; exact hi)]
  by_cases e : j = i
  · subst e
    rw [if_pos rfl, Array.getElem?_setIfInBounds, if_pos rfl, if_pos (hlt h3)]
  · rw [if_neg e]; exact far h3 (by omega)
/-- The network. -/
structure NetM (w : World) (p : NP) (N : Nat) (ac : List Ar) (outs : List (List Nat)) (sink : Nat) (L : List Nat) (lev : List Int) (nx : List Nat) : Prop where
  net : Blk w p.x 180 #[.slice p.hA (2 * ac.length : Nat) p.ch, .slice (some ⟨p.go, 0, none⟩) N N, .slice (some ⟨p.gl, 0, none⟩) N N, .slice (some ⟨p.gn, 0, none⟩) N N, .int .i64 (sink : Nat)]
  half : 0 < ac.length → p.hA = some ⟨p.gh, 0, none⟩ ∧ HB w p.gh ac L
  rows : ∀ u, u < N → ∃ (A : Option Addr) (k c : Nat), w.cell? ⟨p.go, u, none⟩ = some (.slice A k c) ∧ RI w A k (nts (outs.getD u [])) ∧ ∀ ad, A = some ad → 0 < k → ad.block ≠ p.gh ∧ ad.block ≠ p.gl ∧ ad.block ≠ p.gn ∧ ad.block < p.top
  tops : p.x < p.top ∧ (0 < ac.length → p.gh < p.top) ∧ p.go < p.top ∧ p.gl < p.top ∧ p.gn < p.top ∧ p.top ≤ w.heap.size
  lev : AI w p.gl lev
  nxt : AI w p.gn (nts nx)
  dis : p.x ≠ p.gh ∧ p.x ≠ p.gl ∧ p.x ≠ p.gn ∧ p.go ≠ p.gh ∧ p.go ≠ p.gl ∧ p.go ≠ p.gn ∧ p.gh ≠ p.gl ∧ p.gh ≠ p.gn ∧ p.gl ≠ p.gn
theorem nts_getD (l : List Nat) (i : Nat) : (nts l).getD i 0 = (l.getD i 0 : Nat) := by
  unfold nts
  rw [List.getD_eq_getElem?_getD, List.getElem?_map, List.getD_eq_getElem?_getD]
  cases l[i]? <;> rfl
theorem nts_set (l : List Nat) (i v : Nat) : nts (l.set i v) = (nts l).set i (v : Nat) := by unfold nts; rw [List.map_set]
section
variable {w w' : World} {p : NP} {N : Nat} {ac : List Ar} {outs : List (List Nat)} {sink : Nat} {L nx : List Nat} {lev : List Int}
theorem NetM.golt (h : NetM w p N ac outs sink L lev nx) : p.go < w.heap.size := Nat.lt_of_lt_of_le h.tops.2.2.1 h.tops.2.2.2.2.2
theorem NetM.top_le (h : NetM w p N ac outs sink L lev nx) : p.top ≤ w.heap.size := h.tops.2.2.2.2.2
/-- Nothing of it has changed. -/
theorem NetM.bel {b : Nat} (h : NetM w p N ac outs sink L lev nx) (hb : Below b w w') (hw : p.top ≤ b) : NetM w' p N ac outs sink L lev nx := by
  obtain ⟨t1, t2, t3, t4, t5, t6⟩ := h.tops
  have hs : Same (fun k => b ≤ k) w w' := ⟨hb.os, hb.tape, hb.output, hb.size, fun k _ hk => hb.block k (by omega)⟩
  refine ⟨hs.blk h.net (by omega), fun hp => ⟨(h.half hp).1, (h.half hp).2.same hs (by have := t2 hp; omega)⟩, fun u hu => ?_, ⟨t1, t2, t3, t4, t5, Nat.le_trans t6 hs.size⟩, hs.blk h.lev (by omega), hs.blk h.nxt (by omega), h.dis⟩
  obtain ⟨A, k, c, h1, h2, h3⟩ := h.rows u hu
  exact ⟨A, k, c, (hs.cell (p := ⟨p.go, u, none⟩) h.golt (by simp; omega)).trans h1, hs.ri h2 (fun ad e hp => by have := (h3 ad e hp).2.2.2; omega), h3⟩
theorem NetM.drew (h : NetM w p N ac outs sink L lev nx) : NetM w.drew p N ac outs sink L lev nx := h.bel (Below.refl w.heap.size w).drew h.top_le
theorem NetM.drewN (h : NetM w p N ac outs sink L lev nx) (n : Nat) : NetM (w.drewN n) p N ac outs sink L lev nx := h.bel (below_drewN (Below.refl w.heap.size w) n) h.top_le
theorem NetM.alloc (h : NetM w p N ac outs sink L lev nx) (o : Obj) : NetM (w.alloc o) p N ac outs sink L lev nx := h.bel ((Below.refl w.heap.size w).alloc (Nat.le_refl _) o) h.top_le
theorem NetM.setL (h : NetM w p N ac outs sink L lev nx) (hl : L.length = 2 * ac.length) {i : Nat} (hi : i < 2 * ac.length) (v : Nat) : NetM (w.setCell ⟨p.gh, i * 4 + 3, none⟩ (.int .i64 (v : Nat))) p N ac outs sink (L.set i v) lev nx := by
  obtain ⟨d1, d2, d3, d4, d5, d6, d7, d8, d9⟩ := h.dis
  have hs : Same (fun k => k = p.gh) w (w.setCell ⟨p.gh, i * 4 + 3, none⟩ (.int .i64 (v : Nat))) := Same.set w p.gh _ _
  refine ⟨hs.blk h.net d1, fun hp => ⟨(h.half hp).1, (h.half hp).2.set hl hi v⟩, fun u hu => ?_, ⟨h.tops.1, h.tops.2.1, h.tops.2.2.1, h.tops.2.2.2.1, h.tops.2.2.2.2.1, Nat.le_trans h.top_le hs.size⟩, hs.blk h.lev (fun e => d7 e.symm), hs.blk h.nxt (fun e => d8 e.symm), h.dis⟩
  obtain ⟨A, k, c, h1, h2, h3⟩ := h.rows u hu
  exact ⟨A, k, c, (hs.cell (p := ⟨p.go, u, none⟩) h.golt d4).trans h1, hs.ri h2 (fun ad e hp => (h3 ad e hp).1), h3⟩
theorem NetM.setlev (h : NetM w p N ac outs sink L lev nx) (u : Nat) (v : Int) : NetM (w.setCell ⟨p.gl, u, none⟩ (.int .i64 v)) p N ac outs sink L (lev.set u v) nx := by
  obtain ⟨d1, d2, d3, d4, d5, d6, d7, d8, d9⟩ := h.dis
  have hs : Same (fun k => k = p.gl) w (w.setCell ⟨p.gl, u, none⟩ (.int .i64 v)) := Same.set w p.gl _ _
  refine ⟨hs.blk h.net d2, fun hp => ⟨(h.half hp).1, (h.half hp).2.same hs d7⟩, fun u hu => ?_, ⟨h.tops.1, h.tops.2.1, h.tops.2.2.1, h.tops.2.2.2.1, h.tops.2.2.2.2.1, Nat.le_trans h.top_le hs.size⟩, h.lev.set u v, hs.blk h.nxt (fun e => d9 e.symm), h.dis⟩
  obtain ⟨A, k, c, h1, h2, h3⟩ := h.rows u hu
  exact ⟨A, k, c, (hs.cell (p := ⟨p.go, u, none⟩) h.golt d5).trans h1, hs.ri h2 (fun ad e hp => (h3 ad e hp).2.1), h3⟩
theorem NetM.setnx (h : NetM w p N ac outs sink L lev nx) (u : Nat) (v : Nat) : NetM (w.setCell ⟨p.gn, u, none⟩ (.int .i64 (v : Nat))) p N ac outs sink L lev (nx.set u v) := by
  obtain ⟨d1, d2, d3, d4, d5, d6, d7, d8, d9⟩ := h.dis
  have hs : Same (fun k => k = p.gn) w (w.setCell ⟨p.gn, u, none⟩ (.int .i64 (v : Nat))) := Same.set w p.gn _ _
  refine ⟨hs.blk h.net d3, fun hp => ⟨(h.half hp).1, (h.half hp).2.same hs d8⟩, fun u hu => ?_, ⟨h.tops.1, h.tops.2.1, h.tops.2.2.1, h.tops.2.2.2.1, h.tops.2.2.2.2.1, Nat.le_trans h.top_le hs.size⟩, hs.blk h.lev d9, by rw [nts_set]; exact h.nxt.set u _, h.dis⟩
  obtain ⟨A, k, c, h1, h2, h3⟩ := h.rows u hu
  exact ⟨A, k, c, (hs.cell (p := ⟨p.go, u, none⟩) h.golt d6).trans h1, hs.ri h2 (fun ad e hp => (h3 ad e hp).2.2.1), h3⟩
theorem NetM.cells (h : NetM w p N ac outs sink L lev nx) : w.cell? ⟨p.x, 0, none⟩ = some (.slice p.hA (2 * ac.length : Nat) p.ch) ∧ w.cell? ⟨p.x, 1, none⟩ = some (.slice (some ⟨p.go, 0, none⟩) N N) ∧ w.cell? ⟨p.x, 2, none⟩ = some (.slice (some ⟨p.gl, 0, none⟩) N N) ∧ w.cell? ⟨p.x, 3, none⟩ = some (.slice (some ⟨p.gn, 0, none⟩) N N) ∧ w.cell? ⟨p.x, 4, none⟩ = some (.int .i64 (sink : Nat)) :=
  ⟨Blk.cell h.net 0, Blk.cell h.net 1, Blk.cell h.net 2, Blk.cell h.net 3, Blk.cell h.net 4⟩
end
theorem nat_xor1 (i : Nat) : i ^^^ 1 = mt i := by
  obtain ⟨k, rfl | rfl⟩ := half_cases i
  · rw [mt_even]
    refine Nat.eq_of_testBit_eq fun j => ?_
    rw [Nat.testBit_xor]
    cases j with
    | zero => simp
    | succ j => rw [Nat.testBit_succ, Nat.testBit_succ, Nat.testBit_succ, show 2 * k / 2 = k by omega, show (2 * k + 1) / 2 = k by omega]; simp
  · rw [mt_odd]
    refine Nat.eq_of_testBit_eq fun j => ?_
    rw [Nat.testBit_xor]
    cases j with
    | zero => simp
    | succ j => rw [Nat.testBit_succ, Nat.testBit_succ, Nat.testBit_succ, show 2 * k / 2 = k by omega, show (2 * k + 1) / 2 = k by omega]; simp
theorem i64_xor1 (i : Nat) (hi : i < 4611686018427387904) : bits .xor .i64 (i : Int) 1 = (mt i : Nat) := by
  show IntKind.i64.wrap ((BitVec.ofInt 64 (i : Int) ^^^ BitVec.ofInt 64 ((1 : Nat) : Int)).toNat : Int) = _
  rw [BitVec.toNat_xor, ofInt_u64 i (by omega), ofInt_u64 1 (by omega), nat_xor1]
  have h1 : mt i ≤ i + 1 := by unfold mt; split <;> omega
  simp [IntKind.wrap, IntKind.bits, IntKind.signed]
  omega
set_option maxRecDepth 100000 in
set_option maxHeartbeats 4000000 in
theorem reached_any (p : NP) (N : Nat) (ac : List Ar) (outs : List (List Nat)) (sink : Nat) (L nx : List Nat) (lev : List Int) (v : Nat) (hv : v < N) (w : World) (h : NetM w p N ac outs sink L lev nx) (hN : Net N ac outs) (hNm : N ≤ 1048576) (hM : ac.length ≤ 1048576) :
    Calls Tryd.prog 134 #[.pointer (some ⟨p.x, 0, none⟩), .int .i64 (v : Nat), .bool true] w fun e w' => ∃ g R, e = .returned (.slice (some ⟨g, 0, none⟩) N N) ∧ w.heap.size ≤ g ∧ AB w' g R ∧ Reach N ac L v R ∧ Below w.heap.size w w' := by
  obtain ⟨i0, hz0, hz1, hz2, hz3⟩ := info_parts bool_info
  obtain ⟨x0, x1, x2, x3, x4⟩ := h.cells
  have hxl := h.net.lt
  go_enter Tryd.func134, Tryd.ntmps134
  go_upto_region 2 with (at_make; refine wpList_makeB rfl _ _ rfl rfl rfl (n := N) (by omega) (by omega) (by omega) ?_; intro w2 hA2 hg2)
  have B2 := grown_none_below hg2 w.heap.size (Nat.le_refl _)
  have sA := hA2.lt
  have p0 := hA2.cell (i := v) (by rw [List.length_replicate]; exact hv)
  have p1 := hA2.frozen v
  have j0 : (0 : Int) ≤ (v : Int) := by omega
  have j1 : (v : Int) < (N : Int) := by omega
  clear hg2 x0 x1 x2 x3 x4
  go_upto_region 3 with fail
  have A3 := hA2.set v true
  have B3 := B2.setCell (p := ⟨w.heap.size, v, none⟩) (Nat.le_refl _) (.bool true)
  have s3 := A3.lt
  clear hA2 B2 p0 p1
  generalize w2.setCell ⟨w.heap.size, v, none⟩ (.bool true) = w3 at *
  have A4 := A3.alloc (.cells #[.int .i64 (v : Nat)] 3)
  have B4 := B3.alloc B3.size (.cells #[.int .i64 (v : Nat)] 3)
  have Q4 := OQ.new w3 (v : Nat) (B := w.heap.size + 1) (by omega)
  have hst := Lib.hid (BO.start (outs := outs) (ac := ac) (L := L) hv)
  clear A3 B3
  go_wp2_with fail
  go_loopg [8] (N + 1) (fun g vq wr => ∃ (R : List Bool) (qs : List Nat), AB wr w.heap.size R ∧ OQ wr (w.heap.size + 1) vq (nts qs) ∧ Hid (BO N ac outs L v R qs) ∧ Below w.heap.size w wr ∧ cntB (fun b => !b) R + qs.length ≤ g ∧ g ≤ N + 1)
  case atStart => exact ⟨_, [v], A4, Q4, hst, B4, by have := cntB_le (fun b => !b) ((List.replicate N false).set v true); rw [List.length_set, List.length_replicate] at this; simp; omega, Nat.le_refl _⟩
  case round =>
    obtain ⟨R, qs, hA, hQ, hbo, hb, hc, hgN⟩ := hrel
    obtain ⟨G, hG⟩ : ∃ G, G = gk := ⟨_, rfl⟩
    rw [← hG] at hc hgN
    replace hG := Lib.hid (And.intro hG True.intro)
    clear A4 Q4 B4 hst
    have hM' := h.bel hb h.top_le
    cases qs with
    | nil =>
      obtain ⟨gq, off, cap, rfl, hq1, hq2, hq3, hqr⟩ := hQ.form
      go_wp2_with fail
      go_ret
      exact ⟨_, R, rfl, Nat.le_refl _, hA, hbo.out.reach hN, hb⟩
    | cons y tl =>
      obtain ⟨gq, off, cap, hv, hq1, hq2, hq3, hqr⟩ := hQ.form
      have hy := (hbo.out.q y (List.mem_cons_self ..)).1
      have hin := Lib.hid hbo.out.inner
      have hlq : (nts (y :: tl)).length = tl.length + 1 := by rw [nts_length]; rfl
      obtain ⟨lq, hlq'⟩ : ∃ lq, lq = (nts (y :: tl)).length := ⟨_, rfl⟩
      have i0 : decide (0 < lq) = true := decide_eq_true (by omega)
      have i0i : (0 : Int) < (lq : Int) := by omega
      have c0 : wr.cell? ⟨gq, off, none⟩ = some (.int .i64 (y : Nat)) := by
        obtain ⟨ad, hA0, hc0⟩ := hqr.at_ (k := 0) (by omega)
        injection hA0 with hA0
        subst hA0
        exact hc0
      rw [← hlq'] at hv
      subst hv
      obtain ⟨x0, x1, x2, x3, x4⟩ := hM'.cells
      obtain ⟨Ar, m, c, r0', hri, hrne⟩ := h.rows y hy
      have r0 := (hb.cell (p := ⟨p.go, y, none⟩) h.golt).trans r0'
      obtain rfl : (outs.getD y []).length = m := by have := hri.len; rw [nts_length] at this; exact this
      obtain ⟨m, hm⟩ : ∃ m, m = (outs.getD y []).length := ⟨_, rfl⟩
      rw [← hm] at r0 hri
      have j2 : (0 : Int) ≤ (y : Int) := by omega
      have j3 : (y : Int) < (N : Int) := by omega
      have hmb : m ≤ 2097152 := by have := hN.small y; omega
      replace hm := Lib.hid (And.intro hm True.intro)
      replace hlq' := Lib.hid (And.intro hlq' hlq)
      clear hlq hqr r0' hrne
      go_wp2_with fail
      go_quiet (fail)
      have A1 := hA.drewN nq
      have Q1 := hQ.kept ((Same.refl (fun _ => False) wr).drewN nq) (fun _ _ e => e)
      have b1 := below_drewN hb nq
      clear hA hQ hb hM' x0 x1 x2 x3 x4 c0 r0 hbo
      generalize wr.drewN nq = W1 at *
      go_wp2_with fail
      go_loopg [8, 39] m (fun g' vq i wr => ∃ (k : Nat) (R' : List Bool) (qs' : List Nat), k + g' = m ∧ i = .int .i64 k ∧ AB wr w.heap.size R' ∧ OQ wr (w.heap.size + 1) vq (nts qs') ∧ Hid (BI N ac outs L v R' qs' y k) ∧ Below w.heap.size w wr ∧ cntB (fun b => !b) R' + qs'.length ≤ G)
      case atStart => exact ⟨0, R, _, by omega, rfl, A1, Q1, hin, b1, hc⟩
      case round =>
        clear A1 Q1 hin b1 hc W1
        obtain ⟨k, R', qs', hk, rfl, hA, hQ, hbi, hb, hc⟩ := hrel
        have hMw := h.bel hb h.top_le
        by_cases hlt : k < m
        · have i1 : (k : Int) < (m : Int) := by omega
          have i2 : (0 : Int) ≤ (k : Int) := by omega
          obtain ⟨ad, yv, rfl, hyv, hcy⟩ := (RI.below hri hb (Nat.le_refl _)).get hlt
          obtain ⟨i, rfl, hi⟩ : ∃ i : Nat, yv = (i : Nat) ∧ (outs.getD y [])[k]? = some i := by
            have := hyv.out
            unfold nts at this
            rw [List.getElem?_map] at this
            cases hh : (outs.getD y [])[k]? with
            | none => rw [hh] at this; cases this
            | some i => rw [hh] at this; injection this with this; exact ⟨i, this.symm, rfl⟩
          have hi2 := hN.out_mem y i (List.mem_of_getElem? hi)
          obtain ⟨hA0, hH⟩ := hMw.half (by omega)
          obtain ⟨f0, f1, ⟨fc, f2⟩, f3⟩ := hH.get hi2.1
          obtain ⟨e0, e1, ⟨ec, e2⟩, e3⟩ := hH.get (mt_lt hi2.1)
          obtain ⟨x0, x1, x2, x3, x4⟩ := hMw.cells
          rw [hA0] at x0
          obtain ⟨M2, hM2⟩ : ∃ M2, M2 = 2 * ac.length := ⟨_, rfl⟩
          rw [← hM2] at x0
          have j4 : (0 : Int) ≤ (i : Int) := by omega
          have j5 : (i : Int) < (M2 : Int) := by omega
          have j6 : (0 : Int) ≤ (mt i : Int) := by omega
          have j7 : (mt i : Int) < (M2 : Int) := by have := mt_lt hi2.1; omega
          have hxr := i64_xor1 i (by omega)
          replace hM2 := Lib.hid (And.intro hM2 True.intro)
          have hhd := (hN.fr_lt hi2.1).2
          have hrl : hd ac i < R'.length := by rw [hbi.out.bo.len]; exact hhd
          have p0 := hA.cell (i := hd ac i) hrl
          have p1 := hA.frozen (hd ac i)
          have hno := fun h => hbi.out.no hi h
          have hadd := fun h h' => hbi.out.add hN hi h h'
          have hql : qs'.length ≤ 1048577 := by omega
          generalize hHD : hd ac i = hh at *
          generalize L.getD (mt i) 0 = lm at *
          generalize R'.getD hh false = rb at *
          have j8 : (0 : Int) ≤ (hh : Int) := by omega
          have j9 : (hh : Int) < (N : Int) := by omega
          have Q2 := fun q => hQ.kept ((Same.refl (fun _ => False) wr).drewN q) (fun _ _ e => e)
          have A2 := fun q => hA.drewN q
          have b2 := fun q => below_drewN hb q
          have sA := hA.lt
          have hbs := hb.size
          replace hno := Lib.hid hno
          replace hadd := Lib.hid hadd
          replace Q2 := Lib.hid Q2
          replace A2 := Lib.hid A2
          replace b2 := Lib.hid b2
          clear hi hi2 hHD hyv hri hMw hH hbi hA hQ hb hrl hhd
          rcases Nat.eq_zero_or_pos lm with hl0 | hl0
          · have q0 : ¬ (0 : Int) < (lm : Int) := by omega
            have hno' := Lib.hid (hno.out (.inl hl0))
            clear hl0 hno hadd p0 p1
            go_wp2_with fail
            go_quiet (fail)
            have A3 := A2.out nq
            have Q3 := Q2.out nq
            have b3 := b2.out nq
            clear A2 Q2 b2
            go_wp2_with fail
            go_roundg (m - (k + 1))
            case rel => exact ⟨k + 1, R', qs', by omega, by go_num, A3, Q3, hno', b3, hc⟩
            case measure => omega
          · have q0 : (0 : Int) < (lm : Int) := by omega
            cases rb with
            | true =>
              have hno' := Lib.hid (hno.out (.inr rfl))
              clear hl0 hno hadd p1
              go_wp2_with fail
              go_quiet (fail)
              have A3 := A2.out nq
              have Q3 := Q2.out nq
              have b3 := b2.out nq
              clear A2 Q2 b2
              go_wp2_with fail
              go_roundg (m - (k + 1))
              case rel => exact ⟨k + 1, R', qs', by omega, by go_num, A3, Q3, hno', b3, hc⟩
              case measure => omega
            | false =>
              obtain ⟨hadd1, hadd2⟩ := hadd.out hl0 rfl
              replace hadd1 := Lib.hid hadd1
              clear hl0 hno hadd
              go_wp2_with fail
              go_quiet (fail)
              have A3 := (A2.out nq).set hh true
              have b3 := (b2.out nq).setCell (p := ⟨w.heap.size, hh, none⟩) (Nat.le_refl _) (.bool true)
              have Q3 := (Q2.out nq).kept (Same.set (wr.drewN nq) w.heap.size hh (.bool true)) (fun k hk e => by omega)
              have sz3 := b3.size
              clear A2 Q2 b2
              go_upto_region 14 with fail
              generalize (wr.drewN nq).setCell ⟨w.heap.size, hh, none⟩ (.bool true) = W3 at *
              have sA3 := A3.lt
              go_wp2_with (at_builtin; refine wpList_pushQ rfl _ _ rfl rfl rfl (by first | rfl | simp) Q3 (by rw [nts_length]; omega) (by omega) ?_; intro v7 wd Q7 hb7; have A7 := A3.below hb7 (by omega); have b7 := b3.trans (hb7.mono (by omega)))
              go_roundg (m - (k + 1))
              case rel => exact ⟨k + 1, _, qs' ++ [hh], by omega, by go_num, A7, by rw [nts_append]; exact Q7, hadd1, b7, by rw [List.length_append, List.length_singleton]; omega⟩
              case measure => omega
        · obtain rfl : k = m := by omega
          have i1 : ¬ (k : Int) < (k : Int) := by omega
          obtain ⟨tl', htl⟩ := hbi.out.fst
          subst htl
          have hfin := Lib.hid (by
            have h1 := hbi.out
            rw [hm.out.1] at h1
            exact h1.fin)
          obtain ⟨gq', off', cap', hv', hq1', hq2', hq3', hqr'⟩ := hQ.form
          have hlq2 : (nts (y :: tl')).length = (nts tl').length + 1 := by rw [nts_length, nts_length]; rfl
          rw [hlq2] at hv' hq3'
          subst hv'
          have Q5 := hQ.cut (xs := nts tl')
          have hcl : cntB (fun b => !b) R' + tl'.length + 1 ≤ G := by rw [List.length_cons] at hc; omega
          generalize hl2 : (nts tl').length = l2 at *
          replace hl2 := Lib.hid (And.intro hl2 True.intro)
          clear hqr' hQ hbi hMw hc
          by_cases hc1 : cap' = 1
          · subst hc1
            obtain rfl : l2 = 0 := by omega
            rw [if_pos rfl] at Q5
            go_wp2_with fail
            go_roundg (cntB (fun b => !b) R' + tl'.length)
            case rel => exact ⟨R', tl', hA, Q5, hfin, hb, Nat.le_refl _, by omega⟩
            case measure => have := hG.out.1; omega
          · rw [if_neg hc1] at Q5
            go_wp2_with fail
            go_roundg (cntB (fun b => !b) R' + tl'.length)
            case rel => exact ⟨R', tl', hA, Q5, hfin, hb, Nat.le_refl _, by omega⟩
            case measure => have := hG.out.1; omega
end Go.Proofs.YticekkjambkifaaDoor.Fl
