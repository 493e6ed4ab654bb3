/- motifs.Ending. -/
import Derived.Test.YtkcmbpokoijglaaMoaE
set_option linter.unusedVariables false
set_option linter.unusedSimpArgs false
namespace CoMot
/-- What Ending answers. -/
def endR (l : List Tick) (m : List Step) (w : Int) : Int := if chkA l m w = 0 then (endc l w m : Int) else 0
theorem endc_nil {w : Int} {M : List Step} (hM : 0 < M.length) : endc [] w M = 0 := by unfold endc; rw [inst_nil hM]; rfl
theorem endc_small {l : List Tick} {m : List Step} {w : Int} (hl : l.length ≤ 4096) (hm : m.length ≤ 4) : endc l w m ≤ 281474976710656 := Nat.le_trans (List.length_filter_le _ _) (inst_small hl hm)
end CoMot
namespace Go.Proofs.Ytkcmbpokoijglaa
open Go.RowKit CoMot

theorem wrap_id {a : Nat} (h : a ≤ 281474976710656) : wrap64 (a : Int) = (a : Int) := by unfold wrap64; omega
set_option maxRecDepth 100000 in
set_option maxHeartbeats 4000000 in
theorem ending_any (A B : Option Addr) (n c m d : Nat) (l : List Tick) (s : List Step) (v : Int) (w : World) (h : RS TE w A n l) (h' : RS SE w B m s) (hn : n ≤ 1099511627776) (hnc : n ≤ c) (hmd : m ≤ d) :
    Calls Try.prog 28 #[.slice A n c, .slice B m d, .int .i64 v] w fun r w' => r = .returned (.tuple #[.int .i64 (endR l s v), .int .i64 (chkA l s v)]) ∧ Below w.heap.size w w' := by
  have kc := Lib.hid fun W (q : W = (w.alloc (.cells #[.slice A n c] 27)).alloc (.cells #[.int .i64 v] 3)) => (show Calls _ _ _ _ _ from by rw [q]; exact mcheckA_any A B n c m d l s v _ ((h.alloc (.cells #[.slice A n c] 27)).alloc (.cells #[.int .i64 v] 3)) ((h'.alloc (.cells #[.slice A n c] 27)).alloc (.cells #[.int .i64 v] 3)) hn hmd : Calls Try.prog 40 #[.slice A n c, .slice B m d, .int .i64 v] W fun r w' => r = .returned (.int .i64 (chkA l s v)) ∧ Below W.heap.size W w')
  have z1 : (w.alloc (.cells #[.slice A n c] 27)).heap.size = w.heap.size + 1 := by simp
  have z2 : ((w.alloc (.cells #[.slice A n c] 27)).alloc (.cells #[.int .i64 v] 3)).heap.size = w.heap.size + 2 := by simp
  have hb0 : Below w.heap.size w ((w.alloc (.cells #[.slice A n c] 27)).alloc (.cells #[.int .i64 v] 3)) := ((Below.refl _ _).alloc (Nat.le_refl _) _).alloc (by omega) _
  have B0 : Blk ((w.alloc (.cells #[.slice A n c] 27)).alloc (.cells #[.int .i64 v] 3)) w.heap.size 27 #[.slice A n c] := (Blk.new' _ _ _ rfl).alloc _
  have B1 : Blk ((w.alloc (.cells #[.slice A n c] 27)).alloc (.cells #[.int .i64 v] 3)) (w.heap.size + 1) 3 #[.int .i64 v] := Blk.new' _ _ _ z1.symm
  have hl := h.len
  have hl' := h'.len
  by_cases e1 : chkA l s v = 0
  · obtain ⟨f1, f2, f3⟩ := chkA_zero e1
    obtain ⟨t1, t2, t3, _⟩ := chkL_zero f1
    obtain ⟨v1, v2⟩ := vld_len f2
    have hR : Hid (endR l s v = (endc l v s : Int)) := Lib.hid (by unfold endR; rw [if_pos e1])
    rw [e1] at kc
    have hE := Lib.hid e1
    by_cases h0 : n = 0
    · subst h0
      obtain rfl : l = [] := List.eq_nil_of_length_eq_zero hl
      have hR0 : Hid (endR [] s v = 0) := Lib.hid (by rw [hR.out, endc_nil (by omega)]; rfl)
      clear t1 t2 t3 v1 v2 f1 f2 f3 hl hl' e1 hR
      go_enter Try.func28, Try.ntmps28
      have c0 := Blk.cell B0 0
      have c1 := Blk.cell B1 0
      simp at c0 c1
      go_wp2_with fail
      clear c0 c1
      (with_reducible refine (kc.out _ rfl).mono ?_); rintro e w1 ⟨rfl, hb1⟩
      have hb := hb0.trans (hb1.mono (by omega))
      have c0 := Blk.cell (B0.below hb1 (by omega)) 0
      simp at c0
      go_wp2_with fail
      go_ret2
      rw [hR0.out, hE.out]
      exact ⟨rfl, hb⟩
    · have hn4 : n ≤ 4096 := by omega
      have ha3 : ∀ i j, i ≤ j → j < n → tim l i ≤ tim l j := fun i j hij hj => t3 i j hij (by omega)
      have ki : Hid (∀ w1, Below (w.heap.size + 2) ((w.alloc (.cells #[.slice A n c] 27)).alloc (.cells #[.int .i64 v] 3)) w1 → Calls Try.prog 55 #[.slice A n c, .func (.func 56) #[] #[.pointer (some ⟨w.heap.size, 0, none⟩), .pointer (some ⟨w.heap.size + 1, 0, none⟩)]] w1 fun e w' => ∃ o : Nat, e = .returned (.int .i64 (o : Int)) ∧ o < n ∧ Hid (∀ i, i < o → v < tim l (n - 1) - tim l i) ∧ Below w1.heap.size w1 w') := Lib.hid fun w1 hb1 =>
        endix_any w.heap.size (w.heap.size + 1) A n c l v w1 (h.below (hb0.trans (hb1.mono (by omega))) (Nat.le_refl _)) (by omega) hn4 (B0.below hb1 (by omega)) (B1.below hb1 (by omega)) t2 f3.1
      clear t1 f1 f2 e1
      go_enter Try.func28, Try.ntmps28
      go_wp2_with fail
      (with_reducible refine (kc.out _ rfl).mono ?_); rintro e w1 ⟨rfl, hb1⟩
      rw [z2] at hb1
      have hb := hb0.trans (hb1.mono (by omega))
      have B0a := B0.below hb1 (by omega)
      have B1a := B1.below hb1 (by omega)
      have c0 := Blk.cell B0a 0
      simp at c0
      have q3 : ((n : Int) == 0) = false := by simp; omega
      have kj := Lib.hid (ki.out w1 hb1)
      clear ki kc
      go_wp2_with fail
      (with_reducible refine (kj.out).mono ?_); rintro e w2 ⟨o, rfl, ho, hold, hb2⟩
      have hs1 := hb1.size
      have hs2 := hb2.size
      have B0b := B0a.below hb2 B0a.lt
      have B1b := B1a.below hb2 B1a.lt
      have hbB := hb.trans (hb2.mono (by omega))
      clear kj B0a B1a c0
      go_upto_region 8 with fail
      have hl4 : ((w2.alloc (.cells #[.int .i64 (o : Int)] 3)).alloc (.cells #[.int .i64 0] 3)).heap.size = w2.heap.size + 2 := by simp
      have hbW : Below w.heap.size w ((w2.alloc (.cells #[.int .i64 (o : Int)] 3)).alloc (.cells #[.int .i64 0] 3)) := (hbB.alloc (by omega) _).alloc (by simp; omega) _
      have C0 := (B0b.alloc (.cells #[.int .i64 (o : Int)] 3)).alloc (.cells #[.int .i64 0] 3)
      have C1 := (B1b.alloc (.cells #[.int .i64 (o : Int)] 3)).alloc (.cells #[.int .i64 0] 3)
      have C2 : Blk ((w2.alloc (.cells #[.int .i64 (o : Int)] 3)).alloc (.cells #[.int .i64 0] 3)) w2.heap.size 3 #[.int .i64 (o : Int)] := (Blk.new' _ _ _ rfl).alloc _
      have C3 : Blk ((w2.alloc (.cells #[.int .i64 (o : Int)] 3)).alloc (.cells #[.int .i64 0] 3)) (w2.heap.size + 1) 3 #[.int .i64 0] := Blk.new' _ _ _ (by simp)
      generalize (w2.alloc (.cells #[.int .i64 (o : Int)] 3)).alloc (.cells #[.int .i64 0] 3) = W4 at *
      have hz1 : w.heap.size + 2 ≤ w2.heap.size := by omega
      clear hb1 hb2 hs1 hs2 hbB B0b B1b hb hb0 B0 B1 z1 z2 q3
      generalize hH : w2.heap.size = H at *
      generalize hG : w.heap.size = G at *
      have hw0 : wrap64 ((0 : Nat) : Int) = 0 := by unfold wrap64; rfl
      have hco : ¬ c = o := by omega
      have hec : ((inst (l.drop o) v s).filter (fun p => lastB (n - o - 1) p)).length = endc l v s := by
        have := endc_drop (l := l) (w := v) (M := s) f3.1 (fun y hy => (t2 y hy).1) (o := o) (by omega) (by rw [hl]; exact hold.out)
        rw [hl] at this; exact this
      have hes := endc_small (l := l) (m := s) (w := v) (by omega) v2
      have ke : Hid (∀ W5, Below (H + 2) W4 W5 → Blk W5 (H + 2) 29 #[.slice B m d] → Calls Try.prog 41 #[.slice (A.map (fun x => x.add (o * 3))) (n - o) (c - o), .int .i64 (m : Int), .int .i64 v, .func (.func 65) #[] #[.pointer (some ⟨H + 2, 0, none⟩)], .func (.func 57) #[] #[.pointer (some ⟨G, 0, none⟩), .pointer (some ⟨H, 0, none⟩), .pointer (some ⟨H + 1, 0, none⟩)]] W5
          fun r W' => (∃ x, r = .returned x) ∧ Same (fun k => k = H + 1) W5 W' ∧ W'.cell? ⟨H + 1, 0, none⟩ = some (.int .i64 (endc l v s : Int))) := Lib.hid fun W5 hb5 D5 => by
        have hs5 := hb5.size
        have hbb := hbW.trans (hb5.mono (by omega))
        have hdr := (h.below hbb (by omega)).cut (show o ≤ n by omega) hnc
        rw [if_neg hco] at hdr
        have kk := each_any _ _ _ _ (tk_end (W := W5) (g := H + 1) (gf := H + 2) (ga := G) (go := H) (A := A) (n := n) (c := c) (c' := c - o) (wd := v) hdr (by omega) hn4 rfl ho (h'.below hbb (by omega)) hmd (by omega) (by omega) (by omega)
          (fun ad he hp => by
            obtain ⟨ad', he', hb', _⟩ := h.2 (by omega)
            have hb'' : ad'.block < w.heap.size := hb'
            rw [he'] at he
            injection he with he
            rw [← he, block_of_add]; omega) (h'.farg (by omega)) (by omega) D5 (by omega) (C0.below hb5 (by omega)) (by omega) (C2.below hb5 (by omega))
          (fun x hx => t2 x (List.mem_of_mem_drop hx)) (fun i j hij hj => by rw [tim_drop, tim_drop]; exact ha3 _ _ (by omega) (by omega)) f3) rfl (fun k hk => by simp only at hk ⊢; omega) ⟨fun k => Iff.rfl, by show Blk _ _ _ #[.int .i64 (wrap64 ((0 : Nat) : Int))]; rw [hw0]; exact C3.below hb5 (by omega)⟩
        refine Calls.mono kk ?_
        rintro r W' ⟨ow', hr, hS, hJ⟩
        refine ⟨hr, hS, ?_⟩
        rcases hJ with hJ | ⟨q, t, _, hx⟩
        · have h2 := Blk.cell hJ.2 0
          simp only [List.size_toArray, List.length_cons, List.length_nil] at h2
          have hj : ((sub (l.drop o) v (pre s) m [] [] []).filter (lastB (n - o - 1))).length = endc l v s := by rw [← hec, ← hl']; rfl
          rw [← wrap_id hes, ← hj]
          exact h2
        · exact hx.elim
      have hKS : Hid (∀ W', Same (fun k => k = H + 1) W4 W' → W'.cell? ⟨G, 0, none⟩ = some (.slice A n c) ∧ W'.cell? ⟨H, 0, none⟩ = some (.int .i64 (o : Int)) ∧ W'.cell? ⟨G + 1, 0, none⟩ = some (.int .i64 v)) := Lib.hid fun W' hs =>
        ⟨Blk.cell (hs.blk C0 (by omega)) 0, Blk.cell (hs.blk C2 (by omega)) 0, Blk.cell (hs.blk C1 (by omega)) 0⟩
      clear hec hes t2 t3 hl' hl hold ha3 C0 C1 C2 C3 v1 v2
      have km := fun W => mof_any B m d W
      replace km := Lib.hid km
      have i2 : (0 : Int) ≤ (o : Int) := Int.natCast_nonneg _
      have i3 : (o : Int) ≤ (n : Int) := by omega
      have hS4 : Same (fun k => k = H + 1) W4 W4 := Same.refl _ _
      have hP5 : Below (H + 2) W4 (W4.alloc (.cells #[.slice B m d] 29)).drew := ((Below.refl _ _).alloc (by omega) _).drew
      have hP6 : Blk (W4.alloc (.cells #[.slice B m d] 29)).drew (H + 2) 29 #[.slice B m d] := (Blk.new' _ _ _ (by omega)).drew
      go_loud (go_region_held3 (fun W' => W'.cell? ⟨G, 0, none⟩ = some (.slice A n c) ∧ W'.cell? ⟨H, 0, none⟩ = some (.int .i64 (o : Int)) ∧ W'.cell? ⟨G + 1, 0, none⟩ = some (.int .i64 v))
        ((first | exact hKS.out _ hS6 | exact hKS.out _ hS5 | exact hKS.out _ hS4 | exact hKS.out _ hS4.drew))
        ((first
          | (go_at_call 42; (with_reducible refine (km.out _).mono ?_); rintro e w5 ⟨rfl, hQ⟩; obtain rfl := hQ.symm; have hS5 := (hS4.alloc (.cells #[.slice B m d] 29)).drew)
          | (go_at_call 41; (with_reducible refine (ke.out _ hP5 hP6).mono ?_); rintro e w6 ⟨⟨x6, rfl⟩, hS6', hc6⟩; have hS6 := hS5.trans hS6' (fun k _ h => h))
          | fail)))
      all_goals
        clear ke hKS km
        go_wp2_with fail
        go_ret2
        rw [hR.out, hE.out, hG]
        exact ⟨rfl, hbW.trans (hS6.below (by omega) (fun k hk e => by omega))⟩
  · have hR : Hid (endR l s v = 0) := Lib.hid (by unfold endR; rw [if_neg e1])
    have q : (chkA l s v != 0) = true := by simpa using e1
    replace e1 := Lib.hid e1
    rw [hR.out]
    go_enter Try.func28, Try.ntmps28
    go_wp2_with fail
    (with_reducible refine (kc.out _ rfl).mono ?_); rintro e w1 ⟨rfl, hb1⟩
    have hb := hb0.trans (hb1.mono (by omega))
    go_wp2_with fail
    go_ret2
    exact ⟨rfl, hb⟩
end Go.Proofs.Ytkcmbpokoijglaa
