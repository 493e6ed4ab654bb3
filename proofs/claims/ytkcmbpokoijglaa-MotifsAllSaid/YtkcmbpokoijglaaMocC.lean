/- motifs.Spectrum: the function that counts in the map. -/
import Derived.Test.YtkcmbpokoijglaaMocB
import Derived.Test.YtkcmbpokoijglaaMotK
import Derived.Test.YtkcmbpokoijglaaWpt
set_option linter.unusedVariables false
set_option linter.unusedSimpArgs false
namespace CoMot
/-- The eight numbers of a motif's key. -/
def k8 (M : List Step) : List Int := (pd M).flatMap fun s => [s.1, s.2]
theorem k8_inj {M N : List Step} (hl : M.length = N.length) (h : k8 M = k8 N) : M = N := by
  refine pd_inj hl ?_
  unfold k8 at h
  have : ∀ a b : List Step, a.flatMap (fun s => [s.1, s.2]) = b.flatMap (fun s => [s.1, s.2]) → a = b := by
    intro a
    induction a with
    | nil => intro b h; cases b with
      | nil => rfl
      | cons y b => simp at h
    | cons x a ih => intro b h; cases b with
      | nil => simp at h
      | cons y b =>
        simp only [List.flatMap_cons, List.cons_append, List.nil_append] at h
        injection h with h1 h; injection h with h2 h
        rw [ih b h]
        exact congrArg (· :: b) (Prod.ext h1 h2)
  exact this _ _ h
end CoMot
namespace Go.Proofs.Ytkcmbpokoijglaa
open Go.RowKit CoMot

theorem wrap_eq (a : Int) : IntKind.i64.wrap a = wrap64 a := IntWalk.i64_left a
theorem key_cells {w : World} {gk : Nat} {M : List Step} (hM : M.length ≤ 4) (h : RS SE w (some ⟨gk, 0, none⟩) 4 (pd M)) : ∃ a0 a1 a2 a3 a4 a5 a6 a7, k8 M = [a0, a1, a2, a3, a4, a5, a6, a7] ∧
    w.cell? ⟨gk, 0, none⟩ = some (.int .i64 a0) ∧ w.cell? ⟨gk, 1, none⟩ = some (.int .i64 a1) ∧ w.cell? ⟨gk, 2, none⟩ = some (.int .i64 a2) ∧ w.cell? ⟨gk, 3, none⟩ = some (.int .i64 a3) ∧
    w.cell? ⟨gk, 4, none⟩ = some (.int .i64 a4) ∧ w.cell? ⟨gk, 5, none⟩ = some (.int .i64 a5) ∧ w.cell? ⟨gk, 6, none⟩ = some (.int .i64 a6) ∧ w.cell? ⟨gk, 7, none⟩ = some (.int .i64 a7) := by
  obtain ⟨ad, he, hb, hc⟩ := h.2 (by omega)
  injection he with he
  subst he
  have hl := pd_len hM
  match hp : pd M, hl with
  | [(a0, a1), (a2, a3), (a4, a5), (a6, a7)], _ =>
    rw [hp] at hc
    have hadd : ∀ j, (⟨gk, 0, none⟩ : Addr).add j = ⟨gk, j, none⟩ := fun j => by unfold Addr.add; split <;> simp_all
    refine ⟨a0, a1, a2, a3, a4, a5, a6, a7, by unfold k8; rw [hp]; rfl, ?_, ?_, ?_, ?_, ?_, ?_, ?_, ?_⟩
    · rw [← hadd]; exact hc 0 _ rfl
    · rw [← hadd]; exact hc 1 _ rfl
    · rw [← hadd]; exact hc 2 _ rfl
    · rw [← hadd]; exact hc 3 _ rfl
    · rw [← hadd]; exact hc 4 _ rfl
    · rw [← hadd]; exact hc 5 _ rfl
    · rw [← hadd]; exact hc 6 _ rfl
    · rw [← hadd]; exact hc 7 _ rfl
set_option maxRecDepth 100000 in
set_option maxHeartbeats 4000000 in
theorem spec2_any (gb g : Nat) (F : List Int → Int) (A : Option Addr) (n c : Nat) (M : List Step) (u : Value) (W : World) (h : RS SE W A n M) (hn : n ≤ 4) (hB : Blk W gb 78 #[.map (some g)]) (hF : MF W g F) (hX : OKK (k8 M)) (hgb : gb ≠ g) :
    Calls Try.prog 48 #[u, .slice A n c, .pointer (some ⟨gb, 0, none⟩)] W fun e w' => e = .returned (.bool true) ∧ MF w' g (upF F (k8 M) (wrap64 (F (k8 M) + 1))) ∧ Same (fun k => k = g) W w' := by
  have kp := Lib.hid fun w h => padded_any A n c M w h hn
  have c1 := Blk.cell hB 0
  simp at c1
  go_enter Try.func48, Try.ntmps48
  go_wp2_with fail
  refine wp_region_noPanic ?_
  obtain ⟨TT, hTT⟩ : ∃ TT : Nat → World → Prop, ∀ j w', TT j w' ↔ (j = 9 ∨ (w'.cell? ⟨gb, 0, none⟩ = some (.map (some g)) ∧ (Instr.lookup 78 (.map (some g)) (kv (k8 M)) false).run Try.prog w' = .ok (.int .i64 (F (k8 M))) w')) := ⟨fun j w' => _, fun _ _ => Iff.rfl⟩
  replace hTT := Lib.hid hTT
  have hgl := hB.lt
  have hml := hF.lt
  have hFd : MF W.drew g F := hF.keep ((Same.refl (fun _ => False) W).drew) (fun h => h)
  have hkeep : Hid (∀ w', Same (fun k => k = g) W w' → w'.cell? ⟨gb, 0, none⟩ = some (.map (some g))) := Lib.hid fun w' hs => hs.cell (p := ⟨gb, 0, none⟩) hgl hgb c1
  have hS0 : Same (fun k => k = g) W W := Same.refl _ _
  refine wp_region_T (T := TT) (by kernel_rfl) ?_
  have c2 := hkeep.out W.drew hS0.drew
  refine wpAnyT_take (i := 0) (S := fun w' => w'.cell? ⟨gb, 0, none⟩ = some (.map (some g)) ∧ (Instr.lookup 78 (.map (some g)) (kv (k8 M)) false).run Try.prog w' = .ok (.int .i64 (F (k8 M))) w') (v := .map (some g)) rfl (by kernel_rfl) (by kernel_rfl) (by kernel_rfl) (fun _ _ _ h => h) (fun w' h => (hTT.out _ _).2 (.inr h)) (fun j oj hoj hji hun hno w' hT => ?_) (Or.inl ⟨by rfl, ?_⟩) ⟨c2, hFd.look hX⟩ ?_
  case refine_1 =>
    rcases (hTT.out _ _).1 hT with h9 | h9
    · subst h9
      obtain rfl := Option.some.inj hoj
      exact ((hno ⟨0, .phase⟩ (by simp) rfl) rfl).elim
    · exact h9
  case refine_2 =>
    intro w' hS
    obtain ⟨hS1, -⟩ := hS
    go_simp
  (try simp only [Act.put, List.setIfInBounds_toArray, List.set_cons_zero, List.set_cons_succ])
  refine wpAnyT_ready (rs := [1]) (by kernel_rfl) (by simp) ?_
  intro j hj; rw [List.mem_singleton] at hj; subst hj
  refine wpOpT_step (by rfl) (fun K hK => ?_)
  go_simp
  refine hK.out _ _ ((hTT.out _ _).2 (.inr ⟨c2, hFd.look hX⟩)) ?_
  clear hK K
  (try simp only [Act.put, List.setIfInBounds_toArray, List.set_cons_zero, List.set_cons_succ])
  refine wpAnyT_ready (rs := [2]) (by kernel_rfl) (by simp) ?_
  intro j hj; rw [List.mem_singleton] at hj; subst hj
  refine wpOpT_step (by rfl) (fun K hK => ?_)
  go_simp
  (with_reducible refine (kp.out _ h.drew).mono ?_)
  rintro e w1 ⟨gk, c', rfl, hc', hr', hb', hk1, hk2⟩
  have hS1 : Same (fun k => k = g) W w1 := hS0.drew.trans (Same.of_below hb' (Nat.le_refl _) _) (fun _ _ h => h)
  have hF1 : MF w1 g F := hFd.keep (Same.of_below hb' (Nat.le_refl _) (fun _ => False)) (fun h => h)
  have d1 := hkeep.out w1 hS1
  obtain ⟨a0, a1, a2, a3, a4, a5, a6, a7, hk8, q0, q1, q2, q3, q4, q5, q6, q7⟩ := key_cells (by rw [h.len]; exact hn) hr'
  have hkv : Hid (kv (k8 M) = .agg #[.int .i64 a0, .int .i64 a1, .int .i64 a2, .int .i64 a3, .int .i64 a4, .int .i64 a5, .int .i64 a6, .int .i64 a7]) := Lib.hid (by rw [hk8]; rfl)
  replace hk8 := Lib.hid hk8
  refine hK.out _ _ ((hTT.out _ _).2 (.inr ⟨d1, hF1.look hX⟩)) ?_
  clear hK K c2 hFd
  (try simp only [Act.put, List.setIfInBounds_toArray, List.set_cons_zero, List.set_cons_succ])
  refine wpAnyT_ready (rs := [3]) (by kernel_rfl) (by simp) ?_
  intro j hj; rw [List.mem_singleton] at hj; subst hj
  refine wpOpT_step (by rfl) (fun K hK => ?_)
  go_simp
  refine hK.out _ _ ((hTT.out _ _).2 (.inr ⟨d1, hF1.look hX⟩)) ?_
  clear hK K
  (try simp only [Act.put, List.setIfInBounds_toArray, List.set_cons_zero, List.set_cons_succ])
  refine wpAnyT_ready (rs := [4]) (by kernel_rfl) (by simp) ?_
  intro j hj; rw [List.mem_singleton] at hj; subst hj
  refine wpOpT_step (by rfl) (fun K hK => ?_)
  go_simp
  refine hK.out _ _ ((hTT.out _ _).2 (.inr ⟨d1, hF1.look hX⟩)) ?_
  clear hK K
  (try simp only [Act.put, List.setIfInBounds_toArray, List.set_cons_zero, List.set_cons_succ])
  refine wpAnyT_take (i := 5) (S := fun w' => w'.cell? ⟨gb, 0, none⟩ = some (.map (some g)) ∧ (Instr.lookup 78 (.map (some g)) (kv (k8 M)) false).run Try.prog w' = .ok (.int .i64 (F (k8 M))) w') (v := .int .i64 (F (k8 M))) rfl (by kernel_rfl) (by kernel_rfl) (by kernel_rfl) (fun _ _ _ h => h) (fun w' h => (hTT.out _ _).2 (.inr h)) (fun j oj hoj hji hun hno w' hT => ?_) (Or.inl ⟨by rfl, ?_⟩) ⟨d1, hF1.look hX⟩ ?_
  case refine_1 =>
    rcases (hTT.out _ _).1 hT with h9 | h9
    · subst h9
      obtain rfl := Option.some.inj hoj
      exact ((hno ⟨5, .phase⟩ (by simp) rfl) rfl).elim
    · exact h9
  case refine_2 =>
    intro w' hS
    obtain ⟨-, hS2⟩ := hS
    rw [hkv.out] at hS2
    go_simp
  (try simp only [Act.put, List.setIfInBounds_toArray, List.set_cons_zero, List.set_cons_succ])
  refine wpAnyT_take (i := 6) (S := fun w' => w'.cell? ⟨gb, 0, none⟩ = some (.map (some g)) ∧ (Instr.lookup 78 (.map (some g)) (kv (k8 M)) false).run Try.prog w' = .ok (.int .i64 (F (k8 M))) w') (v := .int .i64 (wrap64 (F (k8 M) + 1))) rfl (by kernel_rfl) (by kernel_rfl) (by kernel_rfl) (fun _ _ _ h => h) (fun w' h => (hTT.out _ _).2 (.inr h)) (fun j oj hoj hji hun hno w' hT => ?_) (Or.inl ⟨by rfl, ?_⟩) ⟨d1, hF1.look hX⟩ ?_
  case refine_1 =>
    rcases (hTT.out _ _).1 hT with h9 | h9
    · subst h9
      obtain rfl := Option.some.inj hoj
      exact ((hno ⟨6, .phase⟩ (by simp) rfl) rfl).elim
    · exact h9
  case refine_2 =>
    intro w' hS
    clear hS
    go_simp
    exact wrap_eq _
  (try simp only [Act.put, List.setIfInBounds_toArray, List.set_cons_zero, List.set_cons_succ])
  obtain ⟨v0, b, w2, hrun, hFe, hs2⟩ := hF1.entry hX
  have hS2 := hS1.trans hs2 (fun _ _ h => h)
  have d2 := hkeep.out w2 hS2
  rw [hkv.out] at hrun
  refine wpAnyT_ready (rs := [7]) (by kernel_rfl) (by simp) ?_
  intro j hj; rw [List.mem_singleton] at hj; subst hj
  refine wpOpT_step (by rfl) (fun K hK => ?_)
  go_simp
  refine hK.out _ _ ((hTT.out _ _).2 (.inr ⟨d2, hFe.mf.look hX⟩)) ?_
  clear hK K hrun
  (try simp only [Act.put, List.setIfInBounds_toArray, List.set_cons_zero, List.set_cons_succ])
  refine wpAnyT_ready (rs := [8]) (by kernel_rfl) (by simp) ?_
  intro j hj; rw [List.mem_singleton] at hj; subst hj
  refine wpOpT_step (by rfl) (fun K hK => ?_)
  go_simp
  refine hK.out _ _ ((hTT.out _ _).2 (.inr ⟨d2, hFe.mf.look hX⟩)) ?_
  clear hK K
  (try simp only [Act.put, List.setIfInBounds_toArray, List.set_cons_zero, List.set_cons_succ])
  obtain ⟨w3, hrun3, hF3, hs3⟩ := hFe.store (wrap64 (F (k8 M) + 1))
  have hS3 := hS2.trans hs3 (fun _ _ h => h)
  refine wpAnyT_ready (rs := [9]) (by kernel_rfl) (by simp) ?_
  intro j hj; rw [List.mem_singleton] at hj; subst hj
  refine wpOpT_step (by rfl) (fun K hK => ?_)
  go_simp
  refine hK.out _ _ ((hTT.out _ _).2 (.inl rfl)) ?_
  clear hK K hrun3
  (try simp only [Act.put, List.setIfInBounds_toArray, List.set_cons_zero, List.set_cons_succ])
  refine wpAnyT_done (by kernel_rfl) ?_ _
  refine NoPanic.normal ?_
  clear hTT TT hkeep kp
  go_wp2_with fail
  go_ret
  exact ⟨rfl, hF3, hS3⟩
end Go.Proofs.Ytkcmbpokoijglaa
