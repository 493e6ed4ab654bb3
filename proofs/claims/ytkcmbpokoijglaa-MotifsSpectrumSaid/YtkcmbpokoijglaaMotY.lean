/- motifs.Instances: slices.Clone of numbers, and the function that collects. -/
import Derived.Test.YtkcmbpokoijglaaMotT
import Derived.Test.YtkcmbpokoijglaaMotK
set_option linter.unusedVariables false
set_option linter.unusedSimpArgs false
namespace Go.Proofs.Ytkcmbpokoijglaa
open Go.RowKit CoMot

set_option maxRecDepth 100000 in
set_option maxHeartbeats 2000000 in
theorem iclone_any (A : Option Addr) (n c : Nat) (xs : List Nat) (w : World) (h : RS NE w A n xs) (hn : n ≤ 1099511627776) :
    Calls Try.prog 45 #[.slice A n c] w (RetG NE w xs) := by
  have kq := fun (w : World) (a : Option Addr) (l c n' c' : Nat) => Lib.run_eql_slice_nil (P := Try.prog) w 22 3 a l c n' c' Try.underlying22
  cases A with
  | none =>
    have h0 : n = 0 := by
      rcases Nat.eq_zero_or_pos n with h0 | h0
      · exact h0
      · obtain ⟨ad, e, _⟩ := h.block_lt h0; cases e
    subst h0
    have hx : xs = [] := List.eq_nil_of_length_eq_zero h.len
    subst hx
    go_enter Try.func45, Try.ntmps45
    go_wp2_with fail
    go_ret
    exact ⟨none, 0, 0, rfl, Nat.le_refl _, RS.none_, Below.refl _ _, Fr.none_⟩
  | some ad =>
    go_enter Try.func45, Try.ntmps45
    have ho : OS NE 3 (w.alloc (.cells #[] 3)) w.heap.size (.slice (some ⟨w.heap.size, 0, none⟩) 0 0) [] :=
      ⟨rfl, .inr ⟨w.heap.size, 0, #[], rfl, Nat.le_refl _, heap_alloc_new w _, Nat.le_refl _, Nat.zero_le _, rfl, rfl⟩⟩
    have hr := h.alloc (.cells #[] 3)
    have hb0 : Below w.heap.size w (w.alloc (.cells #[] 3)) := (Below.refl _ _).alloc (Nat.le_refl _) _
    go_wp2_with (at_builtin; refine wpList_catG tyN rfl _ _ rfl rfl rfl ho hr (by unfold maxLen; simp; omega) (by simp; omega) (by simp) ?_; intro v1 w1 ho1 hb1 hg1)
    go_ret
    exact RetG.own ho1 (hb0.trans hb1) (Nat.le_refl _)
/-- What the collecting function leaves. -/
def CPost (g : Nat) (W : World) (L : List (List Nat)) (Q : Nat → Prop) (most : Int) (r : Ending) (W' : World) : Prop :=
  r = .returned (.bool (decide ((L.length : Int) ≤ most))) ∧ ∃ ov' Q', Blk W' g 42 #[ov'] ∧ LO NE 22 W' ov' L Q' ∧ ¬ Q' g ∧ Same (fun k => k = g ∨ Q k) W W' ∧ ∀ k, Q' k → Q k ∨ W.heap.size ≤ k
set_option maxRecDepth 100000 in
set_option maxHeartbeats 4000000 in
theorem take_leaf (g gm : Nat) (most : Int) (W : World) (A : Option Addr) (n c : Nat) (u ov : Value) (M : List Nat) (L : List (List Nat)) (Q : Nat → Prop) (hr : RS NE W A n M) (hnc : n ≤ c) (hn : n ≤ 1099511627776) (hB : Blk W g 42 #[ov]) (hm : Blk W gm 3 #[.int .i64 most]) (hgm : gm ≠ g) (hl : LO NE 22 W ov L Q) (hQg : ¬ Q g) (hQm : ¬ Q gm) (hL : L.length ≤ 1000000000) :
    Calls Try.prog 44 #[.slice A n c, u, .pointer (some ⟨g, 0, none⟩), .pointer (some ⟨gm, 0, none⟩)] W (CPost g W (L ++ [M]) Q most) := by
  have c1 := Blk.cell hB 0
  have f1 := Blk.frozen hB 0
  have hbl := hB.lt
  simp at c1 f1
  have kc := Lib.hid fun w h => iclone_any A n c M w h hn
  have hKS : Hid (∀ W', Same (fun _ => False) W W' → W'.cell? ⟨g, 0, none⟩ = some ov ∧ RS NE W' A n M ∧ LO NE 22 W' ov L Q) := Lib.hid fun W' hs => ⟨hs.cell (p := ⟨g, 0, none⟩) hbl (fun h => h) c1, hr.same hs (fun _ _ _ h => h), hl.keep (hs.mono (fun _ _ h => h.elim))⟩
  have hGo : Hid (∀ W' ov' Q', Same Q W W' → LO NE 22 W' ov' (L ++ [M]) Q' → (∀ k, Q' k → Q k ∨ W.heap.size ≤ k) → (W'.setCell ⟨g, 0, none⟩ ov').cell? ⟨g, 0, none⟩ = some ov' ∧ (W'.setCell ⟨g, 0, none⟩ ov').cell? ⟨gm, 0, none⟩ = some (.int .i64 most) ∧ ∀ k, CPost g W (L ++ [M]) Q most (.returned (.bool (decide (((L ++ [M]).length : Int) ≤ most)))) ((W'.setCell ⟨g, 0, none⟩ ov').drewN k)) := Lib.hid fun W' ov' Q' hs hl' hq => by
    have hs2 := Same.set W' g 0 ov'
    have hb2 := Blk.set (hs.blk hB hQg) 0 ov'
    have hq' : ¬ Q' g := fun hk => by
      rcases hq g hk with h1 | h1
      · exact hQg h1
      · omega
    have hm2 := hs2.blk (hs.blk hm hQm) hgm
    have hS := (hs.mono (ex' := fun k => k = g ∨ Q k) (fun k _ h => .inr h)).trans hs2 (fun k _ h => .inl h)
    have hlo := hl'.keep (hs2.mono (fun k _ hk hn => by subst hk; exact hq' hn))
    refine ⟨Blk.cell hb2 0, Blk.cell hm2 0, fun k => ⟨rfl, ov', Q', hb2, hlo.keep ((Same.refl _ _).drewN k), hq', hS.drewN k, hq⟩⟩
  have hown := hl.own
  have hQl := hl.lt
  have BX : Same (fun _ => False) W W := Same.refl _ _
  have hNe : Hid (∀ A4 : Option Addr, Fr W.heap.size A4 → (∀ (k : Nat) ad, A4 = some ad → 0 < k → some ad.block ≠ ov.ownBlock) ∧ ∀ (k : Nat) (Q7 : Nat → Prop) (sz : Nat), W.heap.size ≤ sz → (∀ b, Q7 b → Q b ∨ (∃ ad, A4 = some ad ∧ 0 < k ∧ ad.block = b) ∨ sz ≤ b) → ∀ b, Q7 b → Q b ∨ W.heap.size ≤ b) := Lib.hid fun A4 hf => ⟨fun k ad he hp hx => by
    have h1 := hQl _ (hown _ hx.symm)
    have h2 := hf ad he
    omega, fun k Q7 sz hsz hq b hb => by
    rcases hq b hb with h1 | ⟨ad, he, _, rfl⟩ | h1
    · exact .inl h1
    · exact .inr (hf ad he)
    · exact .inr (Nat.le_trans hsz h1)⟩
  have hB7 : Hid (∀ W', Same Q W W' → W'.cell? ⟨g, 0, none⟩ = some ov ∧ W'.frozen? ⟨g, 0, none⟩ = false ∧ g < W'.heap.size) := Lib.hid fun W' hs => by
    have hB := hs.blk hB hQg
    exact ⟨Blk.cell hB 0, Blk.frozen hB 0, hB.lt⟩
  clear hB hm hl
  go_enter Try.func44, Try.ntmps44
  go_wp2_with fail
  refine wp_region_noPanic ?_
  obtain ⟨TT, hTT⟩ : ∃ TT : Nat → World → Prop, ∀ j w', TT j w' ↔ (j = 5 ∨ w'.cell? ⟨g, 0, none⟩ = some ov) := ⟨fun j w' => _, fun _ _ => Iff.rfl⟩
  replace hTT := Lib.hid hTT
  refine wp_region_T (T := TT) (by kernel_rfl) ?_
  obtain ⟨c2, hr2, hl2⟩ := hKS.out W.drew BX.drew
  refine wpAnyT_take (i := 0) (S := fun w' => w'.cell? ⟨g, 0, none⟩ = some ov) (v := ov) rfl (by kernel_rfl) (by kernel_rfl) (by kernel_rfl) (fun _ _ _ h => h) (fun w' h => (hTT.out _ _).2 (.inr h)) (fun j oj hoj hji hun hno w' hT => ?_) (Or.inl ⟨by rfl, ?_⟩) c2 ?_
  case refine_1 =>
    rcases (hTT.out _ _).1 hT with h9 | h9
    · subst h9
      obtain rfl := Option.some.inj hoj
      exact ((hno ⟨0, .phase⟩ (by simp) rfl) rfl).elim
    · exact h9
  case refine_2 =>
    intro w' hS
    go_simp
  (try simp only [Act.put, List.setIfInBounds_toArray, List.set_cons_zero, List.set_cons_succ])
  refine wpAnyT_take (i := 1) (S := fun w' => w'.cell? ⟨g, 0, none⟩ = some ov) (v := .slice A n c) rfl (by kernel_rfl) (by kernel_rfl) (by kernel_rfl) (fun _ _ _ h => h) (fun w' h => (hTT.out _ _).2 (.inr h)) (fun j oj hoj hji hun hno w' hT => ?_) (Or.inl ⟨by rfl, ?_⟩) c2 ?_
  case refine_1 =>
    rcases (hTT.out _ _).1 hT with h9 | h9
    · subst h9
      obtain rfl := Option.some.inj hoj
      exact ((hno ⟨1, .phase⟩ (by simp) rfl) rfl).elim
    · exact h9
  case refine_2 =>
    intro w' hS
    go_simp
  (try simp only [Act.put, List.setIfInBounds_toArray, List.set_cons_zero, List.set_cons_succ])
  refine wpAnyT_ready (rs := [2]) (by kernel_rfl) (by simp) ?_
  intro j hj; rw [List.mem_singleton] at hj; subst hj
  refine wpOpT_step (by rfl) (fun K hK => ?_)
  go_simp
  (with_reducible refine (kc.out _ hr2).mono ?_)
  rintro e w1 ⟨A4, n4, c4, rfl, hc4, hr4, hb4, hf4⟩
  have hB1 : Same (fun _ => False) W w1 := BX.drew.trans (Same.of_below hb4 (Nat.le_refl _) _) (fun _ _ h => h)
  obtain ⟨d1, -, hl1⟩ := hKS.out w1 hB1
  have hs1 := hB1.size
  refine hK.out _ _ ?_ ?_
  · exact (hTT.out _ _).2 (.inr d1)
  clear hK K hl2 c2 hr2
  (try simp only [Act.put, List.setIfInBounds_toArray, List.set_cons_zero, List.set_cons_succ])
  refine wpAnyT_ready (rs := [3]) (by kernel_rfl) (by simp) ?_
  intro j hj; rw [List.mem_singleton] at hj; subst hj
  refine wpOpT_step (by rfl) (fun K hK => ?_)
  go_simp
  have hr5 := hr4.alloc (.cells #[.slice A4 n4 c4] 22)
  have hl5 := hl1.keep ((Same.refl _ _).alloc (.cells #[.slice A4 n4 c4] 22))
  have hB5 := hB1.alloc (.cells #[.slice A4 n4 c4] 22)
  have hN5 := Blk.new w1 22 #[.slice A4 n4 c4]
  have hd5 := (hKS.out _ hB5).1
  have hs5 := hB5.size
  refine hK.out _ _ ?_ ?_
  · exact (hTT.out _ _).2 (.inr hd5)
  clear hK K
  generalize w1.alloc (.cells #[.slice A4 n4 c4] 22) = w5 at *
  generalize w1.heap.size = H5 at *
  (try simp only [Act.put, List.setIfInBounds_toArray, List.set_cons_zero, List.set_cons_succ])
  refine wpAnyT_ready (rs := [4]) (by kernel_rfl) (by simp) ?_
  intro j hj; rw [List.mem_singleton] at hj; subst hj
  refine wpOpT_step (by rfl) (fun K hK => ?_)
  refine step_pushLO (st := 42) Try.underlying42 (by kernel_rfl) (by rfl) (.tmp 7) (.tmp 10) (by rfl) (by rfl) (by rfl) hl5 hc4 hr5 (fun ad he hp => (hNe.out A4 hf4).1 n4 ad he hp) (reads_one hN5) (by omega) ?_
  intro v6 w6 Q6 hl6 hg6 hq6
  have hS6 : Same Q W w6 := (hB5.mono (fun _ _ h => h.elim)).trans hg6 (fun k _ h => hown k h)
  have hq6' := (hNe.out A4 hf4).2 n4 Q6 w5.heap.size hs5 hq6
  obtain ⟨d6, e6, hfin⟩ := hGo.out w6 v6 Q6 hS6 hl6 hq6'
  replace hfin := Lib.hid hfin
  obtain ⟨g1, g2, g3⟩ := hB7.out w6 hS6
  obtain ⟨A6, c6, rfl, -, -⟩ := hl6.len
  clear hl6 hg6 hq6 hl5 hN5 hr5 hr4 hr
  refine hK.out _ _ ?_ ?_
  · exact (hTT.out _ _).2 (.inr g1)
  clear hK K
  (try simp only [Act.put, List.setIfInBounds_toArray, List.set_cons_zero, List.set_cons_succ])
  refine wpAnyT_ready (rs := [5]) (by kernel_rfl) (by simp) ?_
  intro j hj; rw [List.mem_singleton] at hj; subst hj
  refine wpOpT_step (by rfl) (fun K hK => ?_)
  go_simp
  refine hK.out _ _ ?_ ?_
  · exact (hTT.out _ _).2 (.inl rfl)
  clear hK K
  (try simp only [Act.put, List.setIfInBounds_toArray, List.set_cons_zero, List.set_cons_succ])
  refine wpAnyT_done (by kernel_rfl) ?_ _
  refine NoPanic.normal ?_
  clear hTT TT hB7 hNe hGo hKS kc
  simp only [List.length_append, List.length_singleton] at d6 e6 hfin ⊢
  generalize L.length + 1 = K9 at *
  generalize w6.setCell ⟨g, 0, none⟩ (.slice A6 K9 c6) = w7 at *
  go_wp2_with fail
  go_ret
  exact hfin.out 0
end Go.Proofs.Ytkcmbpokoijglaa
