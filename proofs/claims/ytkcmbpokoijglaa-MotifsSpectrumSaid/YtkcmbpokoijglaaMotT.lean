/- motifs.Motifs: the recursive function that grows motifs. -/
import Derived.Test.YtkcmbpokoijglaaMotO
import Derived.Deep.DeepCutAuto
import Derived.Test.YtkcmbpokoijglaaWpt
set_option linter.unusedVariables false
set_option linter.unusedSimpArgs false
namespace CoMot
def gOne (rec : List Step → Nat → List (List Step)) (M : List Step) (v a b : Nat) : List (List Step) := match vs v ((a : Int), (b : Int)) with
  | none => []
  | some n => rec (M ++ [((a : Int), (b : Int))]) n
/-- The motifs that begin with M (of so many variables) and have k steps more. -/
def growL : Nat → List Step → Nat → List (List Step)
  | 0, M, _ => [M]
  | k + 1, M, v => (List.range (v + 1)).flatMap fun a => (List.range (v + 1)).flatMap fun b => gOne (growL k) M v a b
theorem vs_le {v n : Nat} {x : Step} (h : vs v x = some n) (hv : 1 ≤ v) : v ≤ n ∧ n ≤ v + 1 := by
  unfold vs at h
  rw [if_neg (by omega)] at h
  split at h
  · cases h
  · injection h with h
    split at h <;> omega
theorem flat_up {α : Type} (f : Nat → List α) (a : Nat) : (List.range (a + 1)).flatMap f = (List.range a).flatMap f ++ f a := by
  rw [List.range_succ, List.flatMap_append]; simp
theorem flat_le {α : Type} (f : Nat → List α) {a b : Nat} (hab : a ≤ b) : ((List.range a).flatMap f).length ≤ ((List.range b).flatMap f).length := by
  obtain ⟨d, rfl⟩ := Nat.exists_eq_add_of_le hab
  rw [List.range_add, List.flatMap_append, List.length_append]; omega
theorem flat_small {α : Type} {f : Nat → List α} {a m : Nat} (h : ∀ i, i < a → (f i).length ≤ m) : ((List.range a).flatMap f).length ≤ a * m := by
  induction a with
  | zero => simp
  | succ a ih =>
    rw [flat_up, List.length_append, Nat.add_mul]
    have h1 := ih fun i hi => h i (by omega)
    have h2 := h a (by omega)
    omega
theorem growL_small : ∀ k M v, 1 ≤ v → v + k ≤ 7 → (growL k M v).length ≤ 64 ^ k := by
  intro k
  induction k with
  | zero => intro M v _ _; simp [growL]
  | succ k ih =>
    intro M v hv hk
    have h1 : ∀ a b, (gOne (growL k) M v a b).length ≤ 64 ^ k := fun a b => by
      unfold gOne
      split
      · simp
      · rename_i n hn
        have := vs_le hn hv
        exact ih _ _ (by omega) (by omega)
    have h2 : ∀ a, ((List.range (v + 1)).flatMap fun b => gOne (growL k) M v a b).length ≤ 8 * 64 ^ k := fun a => Nat.le_trans (flat_small (m := 64 ^ k) fun b _ => h1 a b) (Nat.mul_le_mul_right _ (by omega))
    have h3 : (growL (k + 1) M v).length ≤ (v + 1) * (8 * 64 ^ k) := flat_small (fun a _ => h2 a)
    have h4 : (v + 1) * (8 * 64 ^ k) ≤ 8 * (8 * 64 ^ k) := Nat.mul_le_mul_right _ (by omega)
    rw [Nat.pow_succ]
    omega
end CoMot
namespace Go.Proofs.Ytkcmbpokoijglaa
open Go.RowKit CoMot

set_option maxRecDepth 100000 in
set_option maxHeartbeats 2000000 in
theorem mclone_any (A : Option Addr) (n c : Nat) (xs : List Step) (w : World) (h : RS SE w A n xs) (hn : n ≤ 1099511627776) :
    Calls Try.prog 59 #[.slice A n c] w (RetG SE w xs) := by
  have kq := fun (w : World) (a : Option Addr) (l c n' c' : Nat) => Lib.run_eql_slice_nil (P := Try.prog) w 29 34 a l c n' c' Try.underlying29
  cases A with
  | none =>
    have h0 : n = 0 := by
      rcases Nat.eq_zero_or_pos n with h0 | h0
      · exact h0
      · obtain ⟨ad, e, _⟩ := h.block_lt h0; cases e
    subst h0
    have hx : xs = [] := List.eq_nil_of_length_eq_zero h.len
    subst hx
    go_enter Try.func59, Try.ntmps59
    go_wp2_with fail
    go_ret
    exact ⟨none, 0, 0, rfl, Nat.le_refl _, RS.none_, Below.refl _ _, Fr.none_⟩
  | some ad =>
    go_enter Try.func59, Try.ntmps59
    have ho : OS SE 34 (w.alloc (.cells #[] 34)) w.heap.size (.slice (some ⟨w.heap.size, 0, none⟩) 0 0) [] :=
      ⟨rfl, .inr ⟨w.heap.size, 0, #[], rfl, Nat.le_refl _, heap_alloc_new w _, Nat.le_refl _, Nat.zero_le _, rfl, rfl⟩⟩
    have hr := h.alloc (.cells #[] 34)
    have hb0 : Below w.heap.size w (w.alloc (.cells #[] 34)) := (Below.refl _ _).alloc (Nat.le_refl _) _
    go_wp2_with (at_builtin; refine wpList_catG tyS rfl _ _ rfl rfl rfl ho hr (by unfold maxLen; simp; omega) (by simp; omega) (by simp) ?_; intro v1 w1 ho1 hb1 hg1)
    go_ret
    exact RetG.own ho1 (hb0.trans hb1) (Nat.le_refl _)

/-- What holds between two steps of grow. -/
structure GI (b steps : Nat) (W : World) (mv : Value) (M : List Step) (ov : Value) (L : List (List Step)) (Q : Nat → Prop) : Prop where
  bs : Blk W b 3 #[.int .i64 steps]
  bo : Blk W (b + 1) 52 #[ov]
  bg : Blk W (b + 2) 88 #[.func (.func 58) #[] #[.pointer (some ⟨b, 0, none⟩), .pointer (some ⟨b + 1, 0, none⟩), .pointer (some ⟨b + 2, 0, none⟩)]]
  om : OS SE 34 W (b + 3) mv M
  ol : LO SE 29 W ov L Q
  q3 : ∀ k, Q k → b + 3 ≤ k
  qm : ∀ k, mv.ownBlock = some k → ¬ Q k
def GPost (b steps : Nat) (W : World) (mv : Value) (M : List Step) (Q : Nat → Prop) (R : List (List Step)) (r : Ending) (W' : World) : Prop :=
  r = .returned (.tuple #[]) ∧ ∃ ov' Q', GI b steps W' mv M ov' R Q' ∧ Same (fun k => k = b + 1 ∨ Q k ∨ mv.ownBlock = some k) W W' ∧ ∀ k, Q' k → Q k ∨ W.heap.size ≤ k
set_option maxRecDepth 100000 in
set_option maxHeartbeats 4000000 in
theorem grow_leaf (b steps v : Nat) (W : World) (mv ov : Value) (M : List Step) (L : List (List Step)) (Q : Nat → Prop) (h : GI b steps W mv M ov L Q) (hM : M.length = steps) (h4 : steps ≤ 4) (hL : L.length ≤ 1000000000) :
    Calls Try.prog 58 #[mv, .int .i64 v, .pointer (some ⟨b, 0, none⟩), .pointer (some ⟨b + 1, 0, none⟩), .pointer (some ⟨b + 2, 0, none⟩)] W (GPost b steps W mv M Q (L ++ [M])) := by
  obtain ⟨A, n, c, rfl, hn, hnc, -, hr, -⟩ := h.om.form
  have c0 := Blk.cell h.bs 0
  have c1 := Blk.cell h.bo 0
  have f1 := Blk.frozen h.bo 0
  have hbl := h.bo.lt
  simp at c0 c1 f1
  have hns : n = steps := by omega
  subst hns
  have e1 : ((n : Int) == (n : Int)) = true := by simp
  have kc := Lib.hid fun w h => mclone_any A n c M w h (by omega)
  have hKS : Hid (∀ W', Same (fun _ => False) W W' → W'.cell? ⟨b + 1, 0, none⟩ = some ov ∧ RS SE W' A n M ∧ LO SE 29 W' ov L Q) := Lib.hid fun W' hs => ⟨hs.cell (p := ⟨b + 1, 0, none⟩) hbl (fun h => h) c1, hr.same hs (fun _ _ _ h => h), h.ol.keep (hs.mono (fun _ _ h => h.elim))⟩
  have hGo : Hid (∀ W' ov' Q', Same Q W W' → LO SE 29 W' ov' (L ++ [M]) Q' → (∀ k, Q' k → Q k ∨ W.heap.size ≤ k) → GPost b n W (.slice A n c) M Q (L ++ [M]) (.returned (.tuple #[])) (W'.setCell ⟨b + 1, 0, none⟩ ov')) := Lib.hid fun W' ov' Q' hs hl hq => by
    have hx : ∀ k, k < b + 3 → ¬ Q k := fun k hk hh => by have := h.q3 k hh; omega
    have hs2 := Same.set W' (b + 1) 0 ov'
    have hsz := h.bg.lt
    have hq' : ∀ k, Q' k → b + 3 ≤ k := fun k hk => by
      rcases hq k hk with h1 | h1
      · exact h.q3 k h1
      · omega
    refine ⟨rfl, ov', Q', ⟨hs2.blk (hs.blk h.bs (hx _ (by omega))) (by omega), Blk.set (hs.blk h.bo (hx _ (by omega))) 0 ov', hs2.blk (hs.blk h.bg (hx _ (by omega))) (by omega), hs2.os_ (hs.os_ h.om (fun k hk => h.qm k hk)) (fun k hk => by have := (h.om.block_lt k hk).1; omega), hl.keep (hs2.mono (fun k _ hk hn => ?_)), hq', fun k hk hn => ?_⟩, (hs.mono (fun k _ h => .inr (.inl h))).trans hs2 (fun k _ h => .inl h), hq⟩
    · have := hq' k hn; omega
    · rcases hq k hn with h1 | h1
      · exact h.qm k hk h1
      · have := (h.om.block_lt k hk).2; omega
  have hown := h.ol.own
  have hQl := h.ol.lt
  have BX : Same (fun _ => False) W W := Same.refl _ _
  have hNe : Hid (∀ A4 : Option Addr, Fr W.heap.size A4 → (∀ (k : Nat) ad, A4 = some ad → 0 < k → some ad.block ≠ ov.ownBlock) ∧ ∀ (k : Nat) (Q7 : Nat → Prop) (sz : Nat), W.heap.size ≤ sz → (∀ b, Q7 b → Q b ∨ (∃ ad, A4 = some ad ∧ 0 < k ∧ ad.block = b) ∨ sz ≤ b) → ∀ b, Q7 b → Q b ∨ W.heap.size ≤ b) := Lib.hid fun A4 hf => ⟨fun k ad he hp hx => by
    have h1 := hQl _ (hown _ hx.symm)
    have h2 := hf ad he
    omega, fun k Q7 sz hsz hq b hb => by
    rcases hq b hb with h1 | ⟨ad, he, _, rfl⟩ | h1
    · exact .inl h1
    · exact .inr (hf ad he)
    · exact .inr (Nat.le_trans hsz h1)⟩
  have hB7 : Hid (∀ W', Same Q W W' → W'.cell? ⟨b + 1, 0, none⟩ = some ov ∧ W'.frozen? ⟨b + 1, 0, none⟩ = false ∧ b + 1 < W'.heap.size) := Lib.hid fun W' hs => by
    have hB := hs.blk h.bo (fun hh => by have := h.q3 _ hh; omega)
    exact ⟨Blk.cell hB 0, Blk.frozen hB 0, hB.lt⟩
  clear hn h
  go_enter Try.func58, Try.ntmps58
  go_wp2_with fail
  refine wp_region_noPanic ?_
  obtain ⟨TT, hTT⟩ : ∃ TT : Nat → World → Prop, ∀ j w', TT j w' ↔ (j = 5 ∨ w'.cell? ⟨b + 1, 0, none⟩ = some ov) := ⟨fun j w' => _, fun _ _ => Iff.rfl⟩
  replace hTT := Lib.hid hTT
  refine wp_region_T (T := TT) (by kernel_rfl) ?_
  obtain ⟨c2, hr2, hl2⟩ := hKS.out W.drew BX.drew
  refine wpAnyT_take (i := 0) (S := fun w' => w'.cell? ⟨b + 1, 0, none⟩ = some ov) (v := ov) rfl (by kernel_rfl) (by kernel_rfl) (by kernel_rfl) (fun _ _ _ h => h) (fun w' h => (hTT.out _ _).2 (.inr h)) (fun j oj hoj hji hun hno w' hT => ?_) (Or.inl ⟨by rfl, ?_⟩) c2 ?_
  case refine_1 =>
    rcases (hTT.out _ _).1 hT with h9 | h9
    · subst h9
      obtain rfl := Option.some.inj hoj
      exact ((hno ⟨0, .phase⟩ (by simp) rfl) rfl).elim
    · exact h9
  case refine_2 =>
    intro w' hS
    go_simp
  (try simp only [Act.put, List.setIfInBounds_toArray, List.set_cons_zero, List.set_cons_succ])
  refine wpAnyT_take (i := 1) (S := fun w' => w'.cell? ⟨b + 1, 0, none⟩ = some ov) (v := .slice A n c) rfl (by kernel_rfl) (by kernel_rfl) (by kernel_rfl) (fun _ _ _ h => h) (fun w' h => (hTT.out _ _).2 (.inr h)) (fun j oj hoj hji hun hno w' hT => ?_) (Or.inl ⟨by rfl, ?_⟩) c2 ?_
  case refine_1 =>
    rcases (hTT.out _ _).1 hT with h9 | h9
    · subst h9
      obtain rfl := Option.some.inj hoj
      exact ((hno ⟨1, .phase⟩ (by simp) rfl) rfl).elim
    · exact h9
  case refine_2 =>
    intro w' hS
    go_simp
  (try simp only [Act.put, List.setIfInBounds_toArray, List.set_cons_zero, List.set_cons_succ])
  refine wpAnyT_ready (rs := [2]) (by kernel_rfl) (by simp) ?_
  intro j hj; rw [List.mem_singleton] at hj; subst hj
  refine wpOpT_step (by rfl) (fun K hK => ?_)
  go_simp
  (with_reducible refine (kc.out _ hr2).mono ?_)
  rintro e w1 ⟨A4, n4, c4, rfl, hc4, hr4, hb4, hf4⟩
  have hB1 : Same (fun _ => False) W w1 := BX.drew.trans (Same.of_below hb4 (Nat.le_refl _) _) (fun _ _ h => h)
  obtain ⟨d1, -, hl1⟩ := hKS.out w1 hB1
  have hs1 := hB1.size
  refine hK.out _ _ ?_ ?_
  · exact (hTT.out _ _).2 (.inr d1)
  clear hK K hl2 c2 hr2
  (try simp only [Act.put, List.setIfInBounds_toArray, List.set_cons_zero, List.set_cons_succ])
  refine wpAnyT_ready (rs := [3]) (by kernel_rfl) (by simp) ?_
  intro j hj; rw [List.mem_singleton] at hj; subst hj
  refine wpOpT_step (by rfl) (fun K hK => ?_)
  go_simp
  have hr5 := hr4.alloc (.cells #[.slice A4 n4 c4] 29)
  have hl5 := hl1.keep ((Same.refl _ _).alloc (.cells #[.slice A4 n4 c4] 29))
  have hB5 := hB1.alloc (.cells #[.slice A4 n4 c4] 29)
  have hN5 := Blk.new w1 29 #[.slice A4 n4 c4]
  have hd5 := (hKS.out _ hB5).1
  have hs5 := hB5.size
  refine hK.out _ _ ?_ ?_
  · exact (hTT.out _ _).2 (.inr hd5)
  clear hK K
  generalize w1.alloc (.cells #[.slice A4 n4 c4] 29) = w5 at *
  generalize w1.heap.size = H5 at *
  (try simp only [Act.put, List.setIfInBounds_toArray, List.set_cons_zero, List.set_cons_succ])
  refine wpAnyT_ready (rs := [4]) (by kernel_rfl) (by simp) ?_
  intro j hj; rw [List.mem_singleton] at hj; subst hj
  refine wpOpT_step (by rfl) (fun K hK => ?_)
  refine step_pushLO (st := 52) Try.underlying52 (by kernel_rfl) (by rfl) (.tmp 15) (.tmp 18) (by rfl) (by rfl) (by rfl) hl5 hc4 hr5 (fun ad he hp => (hNe.out A4 hf4).1 n4 ad he hp) (reads_one hN5) (by omega) ?_
  intro v6 w6 Q6 hl6 hg6 hq6
  have hS6 : Same Q W w6 := (hB5.mono (fun _ _ h => h.elim)).trans hg6 (fun k _ h => hown k h)
  have hq6' := (hNe.out A4 hf4).2 n4 Q6 w5.heap.size hs5 hq6
  have hfin := Lib.hid (hGo.out w6 v6 Q6 hS6 hl6 hq6')
  obtain ⟨g1, g2, g3⟩ := hB7.out w6 hS6
  obtain ⟨A6, c6, rfl, -, -⟩ := hl6.len
  clear hl6 hg6 hq6 hl5 hN5 hr5 hr4 hr
  refine hK.out _ _ ?_ ?_
  · exact (hTT.out _ _).2 (.inr g1)
  clear hK K
  (try simp only [Act.put, List.setIfInBounds_toArray, List.set_cons_zero, List.set_cons_succ])
  refine wpAnyT_ready (rs := [5]) (by kernel_rfl) (by simp) ?_
  intro j hj; rw [List.mem_singleton] at hj; subst hj
  refine wpOpT_step (by rfl) (fun K hK => ?_)
  go_simp
  refine hK.out _ _ ?_ ?_
  · exact (hTT.out _ _).2 (.inl rfl)
  clear hK K
  (try simp only [Act.put, List.setIfInBounds_toArray, List.set_cons_zero, List.set_cons_succ])
  refine wpAnyT_done (by kernel_rfl) ?_ _
  refine NoPanic.normal ?_
  go_wp2_with fail
  refine bodyPost_ret (results_none rfl _ _ _) rfl ?_
  have h9 := hfin.out
  rw [show (L ++ [M]).length = L.length + 1 by simp] at h9
  exact h9

theorem OS.back {α : Type} {E : El α} {t : TypeId} {B : Nat} {v v2 : Value} {xs : List α} {y : α} {W W2 : World} (h1 : OS E t W B v xs) (h2 : OS E t W B v2 (xs ++ [y])) (hv : v2.ownBlock = v.ownBlock) (h3 : OS E t W2 B v2 (xs ++ [y])) : OS E t W2 B v xs := by
  rcases h1.2 with ⟨rfl, h0⟩ | ⟨g, cap, cur, rfl, b1, b2, b3, b4, b5, b6⟩
  · exact ⟨h1.1, .inl ⟨rfl, h0⟩⟩
  · rcases h2.2 with ⟨rfl, h0⟩ | ⟨g', cap', cur', rfl, c1, c2, c3, c4, c5, c6⟩
    · simp at h0
    · injection hv with hv
      subst hv
      have e := b2.symm.trans c2
      injection e with e; injection e with e1 e2
      subst e1
      have hc : cap = cap' := Nat.eq_of_mul_eq_mul_right E.pos (b5.symm.trans c5)
      subst hc
      have := OS.trunc (n := (xs ++ [y]).length) h3
      simpa using this
/-- What the slice of steps was is the same behind the call. -/
theorem GI.fwd {b steps : Nat} {W W1 W2 : World} {mv mv2 ov ov2 : Value} {M : List Step} {s : Step} {L L2 : List (List Step)} {Q Q2 : Nat → Prop} (h : GI b steps W mv M ov L Q)
    (ho : OS SE 34 W1 (b + 3) mv M) (ho2 : OS SE 34 W1 (b + 3) mv2 (M ++ [s])) (hv : mv2.ownBlock = mv.ownBlock ∨ ∃ k, mv2.ownBlock = some k ∧ W.heap.size ≤ k ∧ k < W1.heap.size)
    (hs : Same (fun k => mv.ownBlock = some k) W W1) (h2 : GI b steps W2 mv2 (M ++ [s]) ov2 L2 Q2) (hs2 : Same (fun k => k = b + 1 ∨ Q k ∨ mv2.ownBlock = some k) W1 W2) (hq : ∀ k, Q2 k → Q k ∨ W1.heap.size ≤ k) :
    GI b steps W2 mv M ov2 L2 Q2 ∧ Same (fun k => k = b + 1 ∨ Q k ∨ mv.ownBlock = some k) W W2 ∧ ∀ k, Q2 k → Q k ∨ W.heap.size ≤ k := by
  have hsz := hs.size
  have hq' : ∀ k, Q2 k → Q k ∨ W.heap.size ≤ k := fun k hk => by
    rcases hq k hk with h1 | h1
    · exact .inl h1
    · exact .inr (Nat.le_trans hsz h1)
  have hom : OS SE 34 W2 (b + 3) mv M := by
    by_cases he : mv2.ownBlock = mv.ownBlock
    · exact ho.back ho2 he h2.om
    · refine hs2.os_ ho (fun k hk hx => ?_)
      rcases hx with hx | hx | hx
      · have := (ho.block_lt k hk).1; omega
      · exact h.qm k hk hx
      · exact he (hx.trans hk.symm)
  refine ⟨⟨h2.bs, h2.bo, h2.bg, hom, h2.ol, h2.q3, fun k hk hn => ?_⟩, (hs.mono (fun k _ h => .inr (.inr h))).trans hs2 (fun k hk hx => ?_), hq'⟩
  · rcases hq' k hn with h1 | h1
    · exact h.qm k hk h1
    · have := (h.om.block_lt k hk).2; omega
  · rcases hx with hx | hx | hx
    · exact .inl hx
    · exact .inr (.inl hx)
    · rcases hv with h1 | ⟨j, h1, h3, h4⟩
      · exact .inr (.inr (h1 ▸ hx))
      · rw [hx] at h1; injection h1 with h1; omega
theorem GI.same {b steps : Nat} {W W1 : World} {mv ov : Value} {M : List Step} {L : List (List Step)} {Q : Nat → Prop} {ex : Nat → Prop} (h : GI b steps W mv M ov L Q) (hs : Same ex W W1) (h3 : ∀ k, ex k → b + 3 ≤ k) (hq : ∀ k, ex k → ¬ Q k) (hm : ∀ k, mv.ownBlock = some k → ¬ ex k) : GI b steps W1 mv M ov L Q :=
  ⟨hs.blk h.bs (fun e => by have := h3 _ e; omega), hs.blk h.bo (fun e => by have := h3 _ e; omega), hs.blk h.bg (fun e => by have := h3 _ e; omega), hs.os_ h.om hm, h.ol.keep (hs.mono (fun k _ e => hq k e)), h.q3, h.qm⟩
theorem GI.none {b steps : Nat} {W W1 : World} {mv ov : Value} {M : List Step} {L : List (List Step)} {Q : Nat → Prop} (h : GI b steps W mv M ov L Q) (hs : Same (fun _ => False) W W1) : GI b steps W1 mv M ov L Q := h.same hs (fun _ e => e.elim) (fun _ e => e.elim) (fun _ _ e => e)
/-- A longer slice of steps. -/
theorem GI.longer {b steps : Nat} {W W1 : World} {mv mv2 ov : Value} {M : List Step} {s : Step} {L : List (List Step)} {Q : Nat → Prop} (h : GI b steps W mv M ov L Q) (ho2 : OS SE 34 W1 (b + 3) mv2 (M ++ [s])) (hs : Same (fun k => mv.ownBlock = some k) W W1) (hv : mv2.ownBlock = mv.ownBlock ∨ ∃ k, mv2.ownBlock = some k ∧ W.heap.size ≤ k ∧ k < W1.heap.size) : GI b steps W1 mv2 (M ++ [s]) ov L Q :=
  ⟨hs.blk h.bs (fun e => by have := (h.om.block_lt _ e).1; omega), hs.blk h.bo (fun e => by have := (h.om.block_lt _ e).1; omega), hs.blk h.bg (fun e => by have := (h.om.block_lt _ e).1; omega), ho2, h.ol.keep (hs.mono (fun k _ e => h.qm k e)), h.q3, fun k hk hq => by
    rcases hv with h1 | ⟨j, h1, h3, h4⟩
    · exact h.qm k (h1 ▸ hk) hq
    · rw [hk] at h1; injection h1 with h1; have := h.ol.lt k hq; omega⟩

theorem enter_grow (args : Array Value) (w : World) : Sem.run Try.prog (callFunc 58 args) w = .ok (.enter 58 args) w := by
  have h1 : ¬ Try.f58.name = "runtime.NumGoroutine" := fun h => by
    have h2 : ( Try.f58.name == "runtime.NumGoroutine") = false := by kernel_rfl
    rw [h] at h2; simp at h2
  have h3 : ¬ Try.f58.body = none := by
    have h2 : Try.f58.body.isNone = false := by kernel_rfl
    intro h; rw [h] at h2; cases h2
  simp [callFunc, go_sem, Try.func58, h1, h3]
/-- The loops' sums. -/
def sumB (k : Nat) (M : List Step) (v a j : Nat) : List (List Step) := (List.range j).flatMap fun b => gOne (growL k) M v a b
def sumA (k : Nat) (M : List Step) (v j : Nat) : List (List Step) := (List.range j).flatMap fun a => sumB k M v a (v + 1)
theorem sumB_up (k : Nat) (M : List Step) (v a j : Nat) : sumB k M v a (j + 1) = sumB k M v a j ++ gOne (growL k) M v a j := flat_up _ _
theorem sumA_up (k : Nat) (M : List Step) (v j : Nat) : sumA k M v (j + 1) = sumA k M v j ++ sumB k M v j (v + 1) := flat_up _ _
theorem growL_succ (k : Nat) (M : List Step) (v : Nat) : growL (k + 1) M v = sumA k M v (v + 1) := rfl
theorem sum_small {k : Nat} {M : List Step} {v a j : Nat} (ha : a ≤ v) (hj : j ≤ v + 1) : (sumA k M v a ++ sumB k M v a j).length ≤ (growL (k + 1) M v).length := by
  have h1 : (sumB k M v a j).length ≤ (sumB k M v a (v + 1)).length := flat_le _ hj
  have h2 : (sumA k M v (a + 1)).length ≤ (sumA k M v (v + 1)).length := flat_le _ (by omega)
  rw [sumA_up, List.length_append] at h2
  rw [growL_succ, List.length_append]
  omega
set_option maxRecDepth 100000 in
set_option maxHeartbeats 4000000 in
theorem grow_step (b steps k : Nat) (h4 : steps ≤ 4)
    (ih : ∀ (v : Nat) (W : World) (mv ov : Value) (M : List Step) (L : List (List Step)) (Q : Nat → Prop), M.length + k = steps → 1 ≤ v → v ≤ M.length + 1 → GI b steps W mv M ov L Q → L.length + (growL k M v).length ≤ 1000000000 →
      Calls Try.prog 58 #[mv, .int .i64 v, .pointer (some ⟨b, 0, none⟩), .pointer (some ⟨b + 1, 0, none⟩), .pointer (some ⟨b + 2, 0, none⟩)] W (GPost b steps W mv M Q (L ++ growL k M v)))
    (v : Nat) (W : World) (mv ov : Value) (M : List Step) (L : List (List Step)) (Q : Nat → Prop) (hM : M.length + (k + 1) = steps) (hv : 1 ≤ v) (hvM : v ≤ M.length + 1) (h : GI b steps W mv M ov L Q) (hL : L.length + (growL (k + 1) M v).length ≤ 1000000000) :
      Calls Try.prog 58 #[mv, .int .i64 v, .pointer (some ⟨b, 0, none⟩), .pointer (some ⟨b + 1, 0, none⟩), .pointer (some ⟨b + 2, 0, none⟩)] W (GPost b steps W mv M Q (L ++ growL (k + 1) M v)) := by
  obtain ⟨A, n, c, rfl, hn, hnc, -, hr, -⟩ := h.om.form
  have c0 := Blk.cell h.bs 0
  simp at c0
  have e1 : ((n : Int) == (steps : Int)) = false := by simp; omega
  have ks := Lib.hid fun a b w => step_any a b v w hv (by omega)
  have hn' := Lib.hid hn
  clear hn hr
  go_enter Try.func58, Try.ntmps58
  go_wp2_with fail
  go_loopw [22] (fun i wr => ∃ (a : Nat) (ov' : Value) (Q' : Nat → Prop), i = .int .i64 a ∧ a ≤ v + 1 ∧ GI b steps wr (.slice A n c) M ov' (L ++ sumA k M v a) Q' ∧ Same (fun k => k = b + 1 ∨ Q k ∨ (Value.slice A n c).ownBlock = some k) W wr ∧ Hid (∀ k, Q' k → Q k ∨ W.heap.size ≤ k)) (fun i _ => v + 1 - (intOf i).toNat)
  case atStart => exact ⟨0, ov, Q, rfl, by omega, (by have : L ++ sumA k M v 0 = L := List.append_nil _; rw [this]; exact h), Same.refl _ _, Lib.hid fun _ h => .inl h⟩
  case round =>
    obtain ⟨a, ov1, Q1, rfl, ha, hG, hS, hQ⟩ := hrel
    by_cases hlt : a < v + 1
    · have i3 : (a : Int) < (v : Int) + 1 := by omega
      go_wp2_with fail
      go_loopw [27] (fun i wx => ∃ (j : Nat) (ov' : Value) (Q' : Nat → Prop), i = .int .i64 j ∧ j ≤ v + 1 ∧ GI b steps wx (.slice A n c) M ov' (L ++ (sumA k M v a ++ sumB k M v a j)) Q' ∧ Same (fun k => k = b + 1 ∨ Q k ∨ (Value.slice A n c).ownBlock = some k) W wx ∧ Hid (∀ k, Q' k → Q k ∨ W.heap.size ≤ k)) (fun i _ => v + 1 - (intOf i).toNat)
      case atStart => exact ⟨0, ov1, Q1, rfl, by omega, (by have : sumA k M v a ++ sumB k M v a 0 = sumA k M v a := List.append_nil _; rw [this]; exact hG), hS, hQ⟩
      case round =>
        clear hG hS hQ
        obtain ⟨j, ov2, Q2, rfl, hj, hG, hS, hQ⟩ := hrel
        by_cases hlj : j < v + 1
        · have i4 : (j : Int) < (v : Int) + 1 := by omega
          go_wp2_with fail
          (with_reducible refine (ks.out _ _ _).mono ?_)
          rintro e w3 ⟨rfl, hb3⟩
          have hS3 := Same.of_below hb3 (Nat.le_refl _) (fun _ => False)
          have hG3 := hG.none hS3
          have hS3' := hS.trans hS3 (fun _ _ e => e.elim)
          clear hG hS hb3 hS3
          cases hvs : vs v ((a : Int), (j : Int)) with
          | none =>
            have h1 : gOne (growL k) M v a j = [] := by unfold gOne; rw [hvs]
            have h2 := Lib.hid (sumB_up k M v a j)
            rw [h1, List.append_nil] at h2
            clear h1 hvs
            go_wp2_with fail
            go_roundw
            case rel => exact ⟨j + 1, ov2, Q2, by go_num, by omega, by rw [h2.out]; exact hG3, hS3', hQ⟩
            case measure => simp [intOf]; omega
          | some n2 =>
            have h1 : gOne (growL k) M v a j = growL k (M ++ [((a : Int), (j : Int))]) n2 := by unfold gOne; rw [hvs]
            have h2 := Lib.hid (sumB_up k M v a j)
            rw [h1] at h2
            have hn2 := vs_le hvs hv
            have hsm := sum_small (k := k) (M := M) (v := v) (a := a) (j := j + 1) (by omega) (by omega)
            rw [sumB_up, h1, ← List.append_assoc, List.length_append] at hsm
            have ihc := fun W2 mv2 (hG : GI b steps W2 mv2 (M ++ [((a : Int), (j : Int))]) ov2 (L ++ (sumA k M v a ++ sumB k M v a j)) Q2) => ih n2 W2 mv2 ov2 (M ++ [((a : Int), (j : Int))]) (L ++ (sumA k M v a ++ sumB k M v a j)) Q2 (by simp; omega) (by omega) (by simp; omega) hG (by simp only [List.length_append] at hsm ⊢; omega)
            replace ihc := Lib.hid ihc
            clear h1 hvs hsm
            have hom3 := hG3.om
            have hen : ∀ (args : Array Value) (w : World), Sem.run Try.prog (callFunc 58 args) w = .ok (.enter 58 args) w := enter_grow
            have hwb : b + 3 ≤ w3.heap.size := by have := hG3.bg.lt; omega
            have hKS : Hid (∀ W', Same (fun k => (Value.slice A n c).ownBlock = some k) w3 W' → W'.cell? ⟨b + 2, 0, none⟩ = some (.func (.func 58) #[] #[.pointer (some ⟨b, 0, none⟩), .pointer (some ⟨b + 1, 0, none⟩), .pointer (some ⟨b + 2, 0, none⟩)])) := Lib.hid fun W' hs => Blk.cell (hs.blk hG3.bg (fun e => by have := (hG3.om.block_lt _ e).1; omega)) 0
            have hGo : Hid (∀ W1 mv2, OS SE 34 W1 (b + 3) mv2 (M ++ [((a : Int), (j : Int))]) → OS SE 34 W1 (b + 3) (.slice A n c) M → Same (fun k => (Value.slice A n c).ownBlock = some k) w3 W1 → (mv2.ownBlock = (Value.slice A n c).ownBlock ∨ ∃ k, mv2.ownBlock = some k ∧ w3.heap.size ≤ k ∧ k < W1.heap.size) →
                Calls Try.prog 58 #[mv2, .int .i64 n2, .pointer (some ⟨b, 0, none⟩), .pointer (some ⟨b + 1, 0, none⟩), .pointer (some ⟨b + 2, 0, none⟩)] W1 fun r W2 => r = .returned (.tuple #[]) ∧ ∃ ov' Q', GI b steps W2 (.slice A n c) M ov' (L ++ (sumA k M v a ++ sumB k M v a (j + 1))) Q' ∧ Same (fun k => k = b + 1 ∨ Q k ∨ (Value.slice A n c).ownBlock = some k) W W2 ∧ Hid (∀ k, Q' k → Q k ∨ W.heap.size ≤ k)) := Lib.hid fun W1 mv2 h1 h3 h4 h5 => by
              refine Calls.mono (ihc.out W1 mv2 (hG3.longer h1 h4 h5)) ?_
              rintro r W2 ⟨rfl, ov', Q', g1, g2, g3⟩
              obtain ⟨f1, f2, f3⟩ := hG3.fwd h3 h1 h5 h4 g1 g2 g3
              refine ⟨rfl, ov', Q', by rw [h2.out, ← List.append_assoc (sumA k M v a), ← List.append_assoc L]; exact f1, hS3'.trans f2 (fun k hk e => ?_), Lib.hid fun k hk => ?_⟩
              · rcases e with e | e | e
                · exact .inl e
                · rcases hQ.out k e with e2 | e2
                  · exact .inr (.inl e2)
                  · omega
                · exact .inr (.inr e)
              · rcases f3 k hk with e | e
                · exact hQ.out k e
                · exact .inr (Nat.le_trans hS3'.size e)
            clear ihc h2 hG3 hS3' hQ hn2
            go_upto_region 10 with fail
            have BX : Same (fun k => (Value.slice A n c).ownBlock = some k) w3 w3 := Same.refl _ _
            go_loud (go_region_held3 (fun W' => W'.cell? ⟨b + 2, 0, none⟩ = some (.func (.func 58) #[] #[.pointer (some ⟨b, 0, none⟩), .pointer (some ⟨b + 1, 0, none⟩), .pointer (some ⟨b + 2, 0, none⟩)]))
              ((first | exact hKS.out _ BX | exact hKS.out _ BX.drew | exact hKS.out _ (BX.drew.alloc _) | exact hKS.out _ (BX.alloc _).drew | exact hkeep))
              ((first
                | (refine step_push_keep tyS (by rfl) (.tmp 40) (.tmp 44) (by rfl) (by rfl) (by rfl) (hom3.alloc _).drew (RS.blk (xs := [((a : Int), (j : Int))]) (Blk.new _ _ _).drew rfl rfl) (by unfold maxLen; omega) (by omega) (by simp; omega) ?_; intro v7 w7 ho7 hm7 hg7 hat7; replace BX : Same (fun k => (Value.slice A n c).ownBlock = some k) w3 w7 := ((BX.alloc _).drew.trans (Same.of_grown hg7) (fun k _ h => h)); have hc7 := hGo.out w7 v7 ho7 hm7 BX (by rcases hat7 with h | h; (exact .inl h); exact .inr ⟨_, h, by simp, (ho7.block_lt _ h).2⟩); replace hc7 := Lib.hid hc7; obtain ⟨A7, n7, c7, rfl, -, -, -, -, -⟩ := ho7.form)
                | ((with_reducible refine (hc7.out).mono ?_); rintro r w8 ⟨rfl, ov8, Q8, hG8, hS8, hQ8⟩; have hkeep := Blk.cell hG8.bg 0; simp at hkeep)
                | fail)))
            go_wp2_with fail
            go_roundw
            case rel => exact ⟨j + 1, ov8, Q8, by go_num, by omega, hG8, hS8, hQ8⟩
            case measure => simp [intOf]; omega
        · have i4 : ¬ (j : Int) < (v : Int) + 1 := by omega
          obtain rfl : j = v + 1 := by omega
          go_wp2_with fail
          go_roundw
          case rel => exact ⟨a + 1, ov2, Q2, by go_num, by omega, by rw [sumA_up]; exact hG, hS, hQ⟩
          case measure => simp [intOf]; omega
    · have i3 : ¬ (a : Int) < (v : Int) + 1 := by omega
      obtain rfl : a = v + 1 := by omega
      go_wp2_with fail
      refine bodyPost_ret (results_none rfl _ _ _) rfl ?_
      exact ⟨rfl, ov1, Q1, hG, hS, hQ.out⟩
theorem grow_any (b steps : Nat) (h4 : steps ≤ 4) : ∀ (k v : Nat) (W : World) (mv ov : Value) (M : List Step) (L : List (List Step)) (Q : Nat → Prop), M.length + k = steps → 1 ≤ v → v ≤ M.length + 1 → GI b steps W mv M ov L Q → L.length + (growL k M v).length ≤ 1000000000 →
      Calls Try.prog 58 #[mv, .int .i64 v, .pointer (some ⟨b, 0, none⟩), .pointer (some ⟨b + 1, 0, none⟩), .pointer (some ⟨b + 2, 0, none⟩)] W (GPost b steps W mv M Q (L ++ growL k M v)) := by
  intro k
  induction k with
  | zero => intro v W mv ov M L Q hM hv hvM h hL; exact grow_leaf b steps v W mv ov M L Q h (by omega) h4 (by omega)
  | succ k ih => intro v W mv ov M L Q hM hv hvM h hL; exact grow_step b steps k h4 ih v W mv ov M L Q hM hv hvM h hL
/-- All motifs with so many steps. -/
def motR (s : Int) : List (List Step) := if 1 ≤ s ∧ s ≤ 4 then growL (s.toNat - 1) [(0, 1)] 2 else []
def motE (s : Int) : Int := if 1 ≤ s ∧ s ≤ 4 then 0 else 1
theorem motR_small (s : Int) : (motR s).length ≤ 262144 := by
  unfold motR
  split
  · have h1 := growL_small (s.toNat - 1) [((0 : Int), (1 : Int))] 2 (by omega) (by omega)
    have h2 : 64 ^ (s.toNat - 1) ≤ 64 ^ 3 := Nat.pow_le_pow_right (by omega) (by omega)
    omega
  · simp
def RetMs (w : World) (s : Int) (e : Ending) (w' : World) : Prop := ∃ A c, e = .returned (.tuple #[.slice A (motR s).length c, .int .i64 (motE s)]) ∧ (motR s).length ≤ c ∧ RL SE w' A (motR s).length (motR s) ∧ Below w.heap.size w w'
set_option maxRecDepth 100000 in
set_option maxHeartbeats 4000000 in
theorem motifs_any (s : Int) (w : World) : Calls Try.prog 31 #[.int .i64 s] w (RetMs w s) := by
  by_cases h1 : s < 1
  · have e1 : Hid (motR s = []) := Lib.hid (by unfold motR; rw [if_neg (by omega)])
    have e2 : Hid (motE s = 1) := Lib.hid (by unfold motE; rw [if_neg (by omega)])
    go_enter Try.func31, Try.ntmps31
    go_wp2_with fail
    go_ret2
    exact ⟨none, 0, by rw [e1.out, e2.out]; rfl, by rw [e1.out]; exact Nat.le_refl _, by rw [e1.out]; exact RL.none_, by go_grown⟩
  by_cases h2 : 4 < s
  · have e1 : Hid (motR s = []) := Lib.hid (by unfold motR; rw [if_neg (by omega)])
    have e2 : Hid (motE s = 1) := Lib.hid (by unfold motE; rw [if_neg (by omega)])
    go_enter Try.func31, Try.ntmps31
    go_wp2_with fail
    go_ret2
    exact ⟨none, 0, by rw [e1.out, e2.out]; rfl, by rw [e1.out]; exact Nat.le_refl _, by rw [e1.out]; exact RL.none_, by go_grown⟩
  obtain ⟨n, rfl⟩ : ∃ n : Nat, s = n := ⟨s.toNat, by omega⟩
  have e2 : Hid (motE n = 0) := Lib.hid (by unfold motE; rw [if_pos (by omega)])
  have e3 : growL (n - 1) [(0, 1)] 2 = motR n := by unfold motR; rw [if_pos (by omega)]; rfl
  have kk : Hid (Calls Try.prog 58 #[.slice (some ⟨w.heap.size + 1 + 1 + 1, 0, none⟩) 1 1, .int .i64 2, .pointer (some ⟨w.heap.size, 0, none⟩), .pointer (some ⟨w.heap.size + 1, 0, none⟩), .pointer (some ⟨w.heap.size + 1 + 1, 0, none⟩)] ((((w.alloc (.cells #[.int .i64 (n : Int)] 3)).alloc (.cells #[.slice none 0 0] 52)).alloc (.cells #[.func (.func 58) #[] #[.pointer (some ⟨w.heap.size, 0, none⟩), .pointer (some ⟨w.heap.size + 1, 0, none⟩), .pointer (some ⟨w.heap.size + 1 + 1, 0, none⟩)]] 88)).alloc (.cells #[.int .i64 0, .int .i64 1] 34))
      fun r W' => r = .returned (.tuple #[]) ∧ ∃ A c, W'.cell? ⟨w.heap.size + 1, 0, none⟩ = some (.slice A (motR n).length c) ∧ (motR n).length ≤ c ∧ RL SE W' A (motR n).length (motR n) ∧ Below w.heap.size w W') := Lib.hid (by
    have hz : w.heap.size = w.heap.size := rfl
    have B0 : Blk ((((w.alloc (.cells #[.int .i64 (n : Int)] 3)).alloc (.cells #[.slice none 0 0] 52)).alloc (.cells #[.func (.func 58) #[] #[.pointer (some ⟨w.heap.size, 0, none⟩), .pointer (some ⟨w.heap.size + 1, 0, none⟩), .pointer (some ⟨w.heap.size + 1 + 1, 0, none⟩)]] 88)).alloc (.cells #[.int .i64 0, .int .i64 1] 34)) w.heap.size 3 #[.int .i64 (n : Int)] := by repeat (first | (refine Blk.new' _ _ _ ?_; (simp; done)) | refine Blk.alloc ?_ _)
    have B1 : Blk ((((w.alloc (.cells #[.int .i64 (n : Int)] 3)).alloc (.cells #[.slice none 0 0] 52)).alloc (.cells #[.func (.func 58) #[] #[.pointer (some ⟨w.heap.size, 0, none⟩), .pointer (some ⟨w.heap.size + 1, 0, none⟩), .pointer (some ⟨w.heap.size + 1 + 1, 0, none⟩)]] 88)).alloc (.cells #[.int .i64 0, .int .i64 1] 34)) (w.heap.size + 1) 52 #[.slice none 0 0] := by repeat (first | (refine Blk.new' _ _ _ ?_; (simp; done)) | refine Blk.alloc ?_ _)
    have B2 : Blk ((((w.alloc (.cells #[.int .i64 (n : Int)] 3)).alloc (.cells #[.slice none 0 0] 52)).alloc (.cells #[.func (.func 58) #[] #[.pointer (some ⟨w.heap.size, 0, none⟩), .pointer (some ⟨w.heap.size + 1, 0, none⟩), .pointer (some ⟨w.heap.size + 1 + 1, 0, none⟩)]] 88)).alloc (.cells #[.int .i64 0, .int .i64 1] 34)) (w.heap.size + 2) 88 #[.func (.func 58) #[] #[.pointer (some ⟨w.heap.size, 0, none⟩), .pointer (some ⟨w.heap.size + 1, 0, none⟩), .pointer (some ⟨w.heap.size + 1 + 1, 0, none⟩)]] := by repeat (first | (refine Blk.new' _ _ _ ?_; (simp; done)) | refine Blk.alloc ?_ _)
    have B3 : Blk ((((w.alloc (.cells #[.int .i64 (n : Int)] 3)).alloc (.cells #[.slice none 0 0] 52)).alloc (.cells #[.func (.func 58) #[] #[.pointer (some ⟨w.heap.size, 0, none⟩), .pointer (some ⟨w.heap.size + 1, 0, none⟩), .pointer (some ⟨w.heap.size + 1 + 1, 0, none⟩)]] 88)).alloc (.cells #[.int .i64 0, .int .i64 1] 34)) (w.heap.size + 3) 34 #[.int .i64 0, .int .i64 1] := by repeat (first | (refine Blk.new' _ _ _ ?_; (simp; done)) | refine Blk.alloc ?_ _)
    have hO : OS SE 34 ((((w.alloc (.cells #[.int .i64 (n : Int)] 3)).alloc (.cells #[.slice none 0 0] 52)).alloc (.cells #[.func (.func 58) #[] #[.pointer (some ⟨w.heap.size, 0, none⟩), .pointer (some ⟨w.heap.size + 1, 0, none⟩), .pointer (some ⟨w.heap.size + 1 + 1, 0, none⟩)]] 88)).alloc (.cells #[.int .i64 0, .int .i64 1] 34)) (w.heap.size + 3) (.slice (some ⟨w.heap.size + 3, 0, none⟩) 1 1) [(0, 1)] := ⟨rfl, .inr ⟨w.heap.size + 3, 1, #[.int .i64 0, .int .i64 1], rfl, Nat.le_refl _, B3, Nat.le_refl _, by decide, rfl, rfl⟩⟩
    have hbW : Below w.heap.size w ((((w.alloc (.cells #[.int .i64 (n : Int)] 3)).alloc (.cells #[.slice none 0 0] 52)).alloc (.cells #[.func (.func 58) #[] #[.pointer (some ⟨w.heap.size, 0, none⟩), .pointer (some ⟨w.heap.size + 1, 0, none⟩), .pointer (some ⟨w.heap.size + 1 + 1, 0, none⟩)]] 88)).alloc (.cells #[.int .i64 0, .int .i64 1] 34)) := by repeat (first | exact Below.refl _ _ | refine Below.alloc ?_ (by simp; try omega) _)
    have hS : Same (fun _ => False) w ((((w.alloc (.cells #[.int .i64 (n : Int)] 3)).alloc (.cells #[.slice none 0 0] 52)).alloc (.cells #[.func (.func 58) #[] #[.pointer (some ⟨w.heap.size, 0, none⟩), .pointer (some ⟨w.heap.size + 1, 0, none⟩), .pointer (some ⟨w.heap.size + 1 + 1, 0, none⟩)]] 88)).alloc (.cells #[.int .i64 0, .int .i64 1] 34)) := Same.of_below hbW (Nat.le_refl _) _
    have hG : GI w.heap.size n ((((w.alloc (.cells #[.int .i64 (n : Int)] 3)).alloc (.cells #[.slice none 0 0] 52)).alloc (.cells #[.func (.func 58) #[] #[.pointer (some ⟨w.heap.size, 0, none⟩), .pointer (some ⟨w.heap.size + 1, 0, none⟩), .pointer (some ⟨w.heap.size + 1 + 1, 0, none⟩)]] 88)).alloc (.cells #[.int .i64 0, .int .i64 1] 34)) (.slice (some ⟨w.heap.size + 3, 0, none⟩) 1 1) [(0, 1)] (.slice none 0 0) [] (fun _ => False) := ⟨B0, B1, B2, hO, LO.nil_, fun _ h => h.elim, fun _ _ h => h⟩
    have kg := grow_any w.heap.size n (by omega) (n - 1) 2 _ _ _ [(0, 1)] [] _ (by simp; omega) (by omega) (by simp) hG (by rw [e3]; have := motR_small n; simp; omega)
    rw [e3] at kg
    refine Calls.mono kg ?_
    rintro r W' ⟨rfl, ov', Q', g1, g2, g3⟩
    have hc := Blk.cell g1.bo 0
    simp at hc
    obtain ⟨A, c, rfl, q1, q2⟩ := g1.ol.len
    rw [List.nil_append] at hc q1 q2
    refine ⟨rfl, A, c, hc, q1, q2, hbW.trans (g2.below (by simp; omega) (fun k hk hx => ?_))⟩
    rcases hx with hx | hx | hx
    · omega
    · exact hx
    · injection hx with hx; simp only at hx; omega)
  clear e3
  go_enter Try.func31, Try.ntmps31
  go_wp2_with fail
  (with_reducible refine (kk.out).mono ?_)
  rintro r W' ⟨rfl, A, c, hc, q1, q2, hb⟩
  replace q1 := Lib.hid q1
  clear kk
  go_wp2_with fail
  go_ret2
  exact ⟨A, c, by rw [e2.out]; rfl, q1.out, q2, hb⟩
end Go.Proofs.Ytkcmbpokoijglaa
