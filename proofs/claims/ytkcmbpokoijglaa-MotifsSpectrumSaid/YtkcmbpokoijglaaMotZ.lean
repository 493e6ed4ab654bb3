/- motifs.Instances. -/
import Derived.Test.YtkcmbpokoijglaaMotY
set_option linter.unusedVariables false
set_option linter.unusedSimpArgs false
namespace CoMot
/-- The error of Instances, and what it lists. -/
def insE (l : List Tick) (m : List Step) (w most : Int) : Int := if chkA l m w = 0 then (if most < 0 ∨ 4096 < most then 1 else if most < ((inst l w m).length : Int) then 3 else 0) else chkA l m w
def insL (l : List Tick) (m : List Step) (w most : Int) : List (List Nat) := if insE l m w most = 0 then (inst l w m).map (·.1) else []
end CoMot
namespace Go.Proofs.Ytkcmbpokoijglaa
open Go.RowKit CoMot

theorem enter_inst1 (args : Array Value) (w : World) : Sem.run Try.prog (callFunc 44 args) w = .ok (.enter 44 args) w := by
  have h1 : ¬ Try.f44.name = "runtime.NumGoroutine" := fun h => by
    have h2 : ( Try.f44.name == "runtime.NumGoroutine") = false := by kernel_rfl
    rw [h] at h2; simp at h2
  have h3 : ¬ Try.f44.body = none := by
    have h2 : Try.f44.body.isNone = false := by kernel_rfl
    intro h; rw [h] at h2; cases h2
  simp [callFunc, go_sem, Try.func44, h1, h3]
def iJ (g : Nat) (pre : List (List Nat × List Step)) (W : World) (ow : Nat → Prop) : Prop := ∃ ov Q, (∀ k, ow k ↔ k = g ∨ Q k) ∧ ¬ Q g ∧ Blk W g 42 #[ov] ∧ LO NE 22 W ov (pre.map (·.1)) Q
theorem iJ.keep {g : Nat} {pre : List (List Nat × List Step)} {W W' : World} {ow : Nat → Prop} (h : iJ g pre W ow) (hs : Same (fun k => ¬ ow k) W W') : iJ g pre W' ow := by
  obtain ⟨ov, Q, h1, h2, h3, h4⟩ := h
  exact ⟨ov, Q, h1, h2, hs.blk h3 (fun hn => hn ((h1 g).2 (.inl rfl))), h4.keep (hs.mono (fun k _ hk hq => hk ((h1 k).2 (.inr hq))))⟩
set_option maxHeartbeats 2000000 in
theorem tk_inst {W : World} {g gf gm : Nat} {A B : Option Addr} {n c m d : Nat} {l : List Tick} {M : List Step} {wd most : Int} (h : RS TE W A n l) (hnc : n ≤ c) (hn : n ≤ 4096) (hM : RS SE W B m M) (hmd : m ≤ d) (hm4 : m ≤ 4) (hg : g < W.heap.size) (hgl : ∀ ad, A = some ad → 0 < n → ad.block ≠ g) (hgB : ∀ ad, B = some ad → 0 < m → ad.block ≠ g) (hgf : gf ≠ g) (hfB : Blk W gf 29 #[.slice B m d])
    (hgm : gm ≠ g) (hmB : Blk W gm 3 #[.int .i64 most]) (hmo : most ≤ 4096)
    (ht : ∀ x ∈ l, 0 ≤ x.t ∧ x.t ≤ 1048576) (hs : ∀ i j, i ≤ j → j < n → tim l i ≤ tim l j) (hw : 0 ≤ wd ∧ wd ≤ 1048576) :
    TK ⟨l, A, n, c, m, wd, 65, #[.pointer (some ⟨gf, 0, none⟩)], 44, #[.pointer (some ⟨g, 0, none⟩), .pointer (some ⟨gm, 0, none⟩)], W.heap.size, W, fun k => k = g⟩ (pre M) (fun p W ow => iJ g p W ow ∧ (p.length : Int) ≤ max most 0) (fun p W ow => iJ g p W ow ∧ most < (p.length : Int)) where
  keep := fun p W W' ow hJ hs => ⟨hJ.1.keep hs, hJ.2⟩
  keepx := fun p W W' ow hJ hs => ⟨hJ.1.keep hs, hJ.2⟩
  call := fun at' ms s p hI hK _ hJ => by
    obtain ⟨⟨ov, Q, h1, h2, h3, h4⟩, hp⟩ := hJ
    obtain ⟨A9, n9, c9, e9, hn9, hnc9, -, hr9, -⟩ := hI.oa.form
    have hmB' := hI.kp.blk hmB hgm
    have hQm : ¬ Q gm := fun hq => hgm ((hI.lt gm ((h1 gm).2 (.inr hq))).2 (by have := hmB.lt; show gm < W.heap.size + 8; omega))
    have hK' : at'.length = m := hK
    have hp' : p.length ≤ 1000000000 := by omega
    have e : (#[s.av, s.mv] ++ #[.pointer (some ⟨g, 0, none⟩), .pointer (some ⟨gm, 0, none⟩)] : Array Value) = #[.slice A9 n9 c9, s.mv, .pointer (some ⟨g, 0, none⟩), .pointer (some ⟨gm, 0, none⟩)] := by rw [e9]; rfl
    have q1 : n9 ≤ 1099511627776 := by omega
    have q2 : (p.map (·.1)).length ≤ 1000000000 := by simp only [List.length_map]; omega
    have kl := take_leaf g gm most s.W A9 n9 c9 s.mv ov at' (p.map (·.1)) Q hr9 hnc9 q1 h3 hmB' hgm h4 h2 hQm q2
    rw [← e] at kl
    refine kl.mono ?_
    rintro r W' ⟨hr, ov', Q', g1, g2, g3, g4, g5⟩
    have hlen : (List.map (fun x => x.1) p ++ [at']).length = p.length + 1 := by simp
    rw [hlen] at hr
    have hJ' : iJ g (p ++ [(at', ms)]) W' (fun k => k = g ∨ Q' k) := ⟨ov', Q', fun k => Iff.rfl, g3, g1, by rw [List.map_append]; exact g2⟩
    refine ⟨fun k => k = g ∨ Q' k, g4.mono (fun k _ hk => (h1 k).2 hk), fun k hk => ?_, fun k hk => ?_, ?_⟩
    · rcases hk with hk | hk
      · exact .inl ((h1 k).2 (.inl hk))
      · rcases g5 k hk with hk | hk
        · exact .inl ((h1 k).2 (.inr hk))
        · exact .inr hk
    · rcases hk with hk | hk
      · rw [hk]; exact g1.lt
      · exact g2.lt k hk
    · by_cases hle : ((p.length + 1 : Nat) : Int) ≤ most
      · rw [decide_eq_true hle] at hr
        exact .inl ⟨hr, hJ', by rw [List.length_append, List.length_singleton]; omega⟩
      · rw [decide_eq_false hle] at hr
        exact .inr ⟨hr, hJ', by rw [List.length_append, List.length_singleton]; omega⟩
  fits := fun at' ms s A' n' c' xs hI hr hc hn' => by
    have hsz : W.heap.size ≤ s.W.heap.size := hI.kp.size
    have hMs : RS SE s.W B m M := hM.same hI.kp hgB
    exact of1_any gf A' B n' c' m d xs M s.W hr (hI.kp.blk hfB hgf) hMs hmd hn' (by have h4 : n' ≤ m := hn'; omega)
  enterT := enter_inst1
  enterF := enter_of1
  four := hm4
  tick := h
  cap := hnc
  lim := hn
  far := hgl
  time := ht
  asc := hs
  wide := hw
def RetIn (w : World) (L : List (List Nat)) (e : Int) (r : Ending) (w' : World) : Prop := ∃ A k c, r = .returned (.tuple #[.slice A k c, .int .i64 e]) ∧ k ≤ c ∧ RL NE w' A k L ∧ Below w.heap.size w w'
set_option maxRecDepth 100000 in
set_option maxHeartbeats 4000000 in
theorem instances_any (A B : Option Addr) (n c m d : Nat) (l : List Tick) (s : List Step) (v most : Int) (w : World) (h : RS TE w A n l) (h' : RS SE w B m s) (hn : n ≤ 1099511627776) (hnc : n ≤ c) (hmd : m ≤ d) :
    Calls Try.prog 18 #[.slice A n c, .slice B m d, .int .i64 v, .int .i64 most] w (RetIn w (insL l s v most) (insE l s v most)) := by
  have kc := Lib.hid fun W (q : W = w.alloc (.cells #[.int .i64 most] 3)) => (show Calls _ _ _ _ _ from by rw [q]; exact mcheckA_any A B n c m d l s v _ (h.alloc (.cells #[.int .i64 most] 3)) (h'.alloc (.cells #[.int .i64 most] 3)) hn hmd : Calls Try.prog 40 #[.slice A n c, .slice B m d, .int .i64 v] W fun r w' => r = .returned (.int .i64 (chkA l s v)) ∧ Below W.heap.size W w')
  have hz : (w.alloc (.cells #[.int .i64 most] 3)).heap.size = w.heap.size + 1 := by simp
  have hb0 : Below w.heap.size w (w.alloc (.cells #[.int .i64 most] 3)) := (Below.refl _ _).alloc (Nat.le_refl _) _
  by_cases e1 : chkA l s v = 0
  · obtain ⟨f1, f2, f3⟩ := chkA_zero e1
    obtain ⟨t1, t2, t3, _⟩ := chkL_zero f1
    obtain ⟨v1, v2⟩ := vld_len f2
    have hl := h.len
    have hl' := h'.len
    by_cases e2 : most < 0 ∨ 4096 < most
    · have hR : Hid (insE l s v most = 1) := Lib.hid (by unfold insE; rw [if_pos e1, if_pos e2])
      have hL : Hid (insL l s v most = []) := Lib.hid (by unfold insL; rw [if_neg (by rw [hR.out]; decide)])
      rw [e1] at kc
      rw [hR.out, hL.out]
      have B0 : Blk (w.alloc (.cells #[.int .i64 most] 3)) w.heap.size 3 #[.int .i64 most] := Blk.new' _ _ _ rfl
      clear t1 t2 t3 v1 v2 f1 f2 f3 hl hl' e1
      go_enter Try.func18, Try.ntmps18
      go_wp2_with fail
      (with_reducible refine (kc.out _ rfl).mono ?_); rintro e w1 ⟨rfl, hb1⟩
      have hb := hb0.trans (hb1.mono (by omega))
      have c0 := Blk.cell (B0.below hb1 (by omega)) 0
      simp at c0
      replace hz := Lib.hid hz
      by_cases e3 : most < 0
      · clear e2
        go_wp2_with fail
        go_ret2
        exact ⟨none, 0, 0, rfl, Nat.le_refl _, RL.none_, hb⟩
      · have e4 : 4096 < most := by omega
        clear e2
        go_wp2_with fail
        go_ret2
        exact ⟨none, 0, 0, rfl, Nat.le_refl _, RL.none_, hb⟩
    · have hR : Hid (∀ q : Nat, (q = (inst l v s).length → (q : Int) ≤ most → insE l s v most = 0 ∧ insL l s v most = (inst l v s).map (·.1)) ∧ (q ≤ (inst l v s).length → most < (q : Int) → insE l s v most = 3 ∧ insL l s v most = [])) := Lib.hid fun q => by
        refine ⟨fun q1 q2 => ?_, fun q1 q2 => ?_⟩
        · have : insE l s v most = 0 := by unfold insE; rw [if_pos e1, if_neg e2, if_neg (by omega)]
          exact ⟨this, by unfold insL; rw [if_pos this]⟩
        · have : insE l s v most = 3 := by unfold insE; rw [if_pos e1, if_neg e2, if_pos (by omega)]
          exact ⟨this, by unfold insL; rw [if_neg (by rw [this]; decide)]⟩
      have ke : Hid (∀ w1, Below (w.heap.size + 1) (w.alloc (.cells #[.int .i64 most] 3)) w1 → Calls Try.prog 41 #[.slice A n c, .int .i64 m, .int .i64 v, .func (.func 65) #[] #[.pointer (some ⟨w1.heap.size + 1, 0, none⟩)], .func (.func 44) #[] #[.pointer (some ⟨w1.heap.size, 0, none⟩), .pointer (some ⟨w.heap.size, 0, none⟩)]]
          ((w1.alloc (.cells #[.slice none 0 0] 42)).alloc (.cells #[.slice B m d] 29)) fun r W' => (∃ x, r = .returned x) ∧ Below w.heap.size w W' ∧ ∃ A5 k5 c5 L5, W'.cell? ⟨w1.heap.size, 0, none⟩ = some (.slice A5 k5 c5) ∧ W'.cell? ⟨w.heap.size, 0, none⟩ = some (.int .i64 most) ∧ k5 ≤ c5 ∧ Hid (RL NE W' A5 k5 L5) ∧ ((((k5 : Int) ≤ most) ∧ Hid (insE l s v most = 0 ∧ insL l s v most = L5)) ∨ (most < (k5 : Int) ∧ Hid (insE l s v most = 3 ∧ insL l s v most = [])))) := Lib.hid fun w1 hb => by
        have hs := hb.size
        have B0 : Blk (w.alloc (.cells #[.int .i64 most] 3)) w.heap.size 3 #[.int .i64 most] := Blk.new' _ _ _ rfl
        have B0' := B0.below hb (by omega)
        have z1 : (w1.alloc (.cells #[.slice none 0 0] 42)).heap.size = w1.heap.size + 1 := by simp
        have z2 : ((w1.alloc (.cells #[.slice none 0 0] 42)).alloc (.cells #[.slice B m d] 29)).heap.size = w1.heap.size + 2 := by simp
        have B1 : Blk (w1.alloc (.cells #[.slice none 0 0] 42)) w1.heap.size 42 #[.slice none 0 0] := Blk.new' _ _ _ rfl
        have B1' := B1.alloc (.cells #[.slice B m d] 29)
        have B0'' := (B0'.alloc (.cells #[.slice none 0 0] 42)).alloc (.cells #[.slice B m d] 29)
        have B2 : Blk ((w1.alloc (.cells #[.slice none 0 0] 42)).alloc (.cells #[.slice B m d] 29)) (w1.heap.size + 1) 29 #[.slice B m d] := Blk.new' _ _ _ z1.symm
        have hbA := ((hb0.trans (hb.mono (by omega))).alloc (by omega) (.cells #[.slice none 0 0] 42)).alloc (by omega) (.cells #[.slice B m d] 29)
        have kk := each_any _ _ _ _ (tk_inst (h.below hbA (Nat.le_refl _)) hnc (by omega) (h'.below hbA (Nat.le_refl _)) hmd (by omega) (g := w1.heap.size) (gf := w1.heap.size + 1) (gm := w.heap.size) (by omega) (h.farg (by omega)) (h'.farg (by omega)) (by omega) B2 (by omega) B0'' (by omega : most ≤ 4096) t2 (fun i j hij hj => t3 i j hij (by omega)) f3) rfl (fun k hk => by simp only at hk ⊢; omega)
          ⟨⟨.slice none 0 0, fun _ => False, fun k => by simp, fun h => h, B1', LO.nil_.keep (((Same.refl _ _).mono (fun k _ h => h)))⟩, by simp; omega⟩
        refine Calls.mono kk ?_
        rintro r W' ⟨ow', hr, hS, hJ⟩
        have hE : ∃ q : List (List Nat × List Step), iJ w1.heap.size q W' ow' ∧ ((q = inst l v s ∧ (q.length : Int) ≤ most) ∨ (q.length ≤ (inst l v s).length ∧ most < (q.length : Int))) := by
          rcases hJ with ⟨hJ, hq⟩ | ⟨q, t, hqt, hJ, hq⟩
          · simp only [inst, ← hl'] at hJ hq ⊢
            exact ⟨_, hJ, .inl ⟨rfl, by omega⟩⟩
          · have : inst l v s = q ++ t := by simp only [inst, ← hl'] at hqt ⊢; exact hqt
            exact ⟨q, hJ, .inr ⟨by rw [this, List.length_append]; omega, hq⟩⟩
        obtain ⟨q, ⟨ov, Q, g1, g2, g3, g4⟩, hq⟩ := hE
        obtain ⟨A5, c5, rfl, g5, g6⟩ := g4.len
        have hc5 := Blk.cell g3 0
        have hc0 := Blk.cell (hS.blk B0'' (by show ¬ w.heap.size = w1.heap.size; omega)) 0
        rw [List.length_map] at g5 g6 hc5
        refine ⟨hr, hbA.trans (hS.below (by show w.heap.size ≤ ((w1.alloc (.cells #[.slice none 0 0] 42)).alloc (.cells #[.slice B m d] 29)).heap.size; omega) (fun k hk he => ?_)), A5, q.length, c5, q.map (·.1), hc5, hc0, g5, Lib.hid g6, ?_⟩
        · simp only at he; omega
        · rcases hq with ⟨rfl, hq⟩ | ⟨hq1, hq2⟩
          · exact .inl ⟨hq, Lib.hid ((hR.out _).1 rfl hq)⟩
          · exact .inr ⟨hq2, Lib.hid ((hR.out _).2 hq1 hq2)⟩
      rw [e1] at kc
      have B0 : Blk (w.alloc (.cells #[.int .i64 most] 3)) w.heap.size 3 #[.int .i64 most] := Blk.new' _ _ _ rfl
      have i1 : ¬ most < 0 := by omega
      have i2 : ¬ 4096 < most := by omega
      clear t1 t2 t3 v1 v2 f1 f2 f3 hl hl' e1 e2 hR
      go_enter Try.func18, Try.ntmps18
      go_wp2_with fail
      (with_reducible refine (kc.out _ rfl).mono ?_); rintro e w1 ⟨rfl, hb1⟩
      have hb := hb0.trans (hb1.mono (by omega))
      have c0 := Blk.cell (B0.below hb1 (by omega)) 0
      simp at c0
      have ke1 := Lib.hid (ke.out w1 (by rw [← hz]; exact hb1))
      clear ke
      replace hz := Lib.hid hz
      have km := fun W => mof_any B m d W
      replace km := Lib.hid km
      go_wp2_with fail
      (with_reducible refine (km.out _).mono ?_); rintro e w2 ⟨rfl, hQ⟩; obtain rfl := hQ.symm; clear hQ
      rw [show (w1.alloc (.cells #[.slice none 0 0] 42)).heap.size = w1.heap.size + 1 by simp]
      go_wp2_with fail
      (with_reducible refine (ke1.out).mono ?_); rintro e w2 ⟨⟨x, rfl⟩, hb2, A5, k5, c5, L5, d1, d2, d3, d4, d5⟩
      rcases d5 with ⟨d5, d6⟩ | ⟨d5, d6⟩
      · have d7 : ¬ most < (k5 : Int) := by omega
        go_wp2_with fail
        go_ret2
        rw [d6.out.1, d6.out.2]
        exact ⟨A5, k5, c5, rfl, d3, d4.out, hb2⟩
      · go_wp2_with fail
        go_ret2
        rw [d6.out.1, d6.out.2]
        exact ⟨none, 0, 0, rfl, Nat.le_refl _, RL.none_, hb2⟩
  · have hR : Hid (insE l s v most = chkA l s v) := Lib.hid (by unfold insE; rw [if_neg e1])
    have hL : Hid (insL l s v most = []) := Lib.hid (by unfold insL; rw [if_neg (by rw [hR.out]; exact e1)])
    have q : (chkA l s v != 0) = true := by simpa using e1
    replace e1 := Lib.hid e1
    rw [hR.out, hL.out]
    go_enter Try.func18, Try.ntmps18
    go_wp2_with fail
    (with_reducible refine (kc.out _ rfl).mono ?_); rintro e w1 ⟨rfl, hb1⟩
    have hb := hb0.trans (hb1.mono (by omega))
    go_wp2_with fail
    go_ret2
    exact ⟨none, 0, 0, rfl, Nat.le_refl _, RL.none_, hb⟩
end Go.Proofs.Ytkcmbpokoijglaa
