/- motifs.Spectrum: what is counted, and what it does in motifs.each. -/
import Derived.Test.YtkcmbpokoijglaaMocC
import Derived.Test.YtkcmbpokoijglaaMotQ
set_option linter.unusedVariables false
set_option linter.unusedSimpArgs false
namespace CoMot
/-- How many of these have the key X. -/
def cntM (L : List (List Nat × List Step)) (X : List Int) : Nat := (L.filter (fun p => decide (k8 p.2 = X))).length
theorem cntM_snoc (L : List (List Nat × List Step)) (p : List Nat × List Step) (X : List Int) : cntM (L ++ [p]) X = cntM L X + if k8 p.2 = X then 1 else 0 := by
  unfold cntM
  rw [List.filter_append, List.length_append]
  congr 1
  by_cases h : k8 p.2 = X
  · rw [if_pos h]; simp [h]
  · rw [if_neg h]; simp [h]
theorem mem_all {l : List Tick} {w : Int} (hw : 0 ≤ w) (hl : ∀ y ∈ l, 0 ≤ y.t) {K : Nat} (p : List Nat × List Step) : p ∈ sub l w (fun _ => true) K [] [] [] ↔ p.1.length = K ∧ Good l w p.1 ∧ ofL (ends l p.1) = some p.2 := by
  rw [mem_sub hw hl K [] [] [] ⟨by simp, by simp, by simp⟩ rfl]
  simp only [List.nil_append, List.length_nil]
  constructor
  · rintro ⟨c, ns', hc, h1, h2, h3, h4⟩
    exact ⟨by rw [h1, hc], h2, by rw [ofL_eq, h3]; rfl⟩
  · rintro ⟨h1, h2, h3⟩
    rw [ofL_eq] at h3
    cases h5 : ofS (ends l p.1) with
    | none => rw [h5] at h3; cases h3
    | some q =>
      obtain ⟨ns', m⟩ := q
      rw [h5] at h3
      simp only [Option.map_some, Option.some.injEq] at h3
      exact ⟨p.1, ns', h1, rfl, h2, by rw [h3], fun _ _ _ => trivial⟩
theorem all_nodup (l : List Tick) (w : Int) (K : Nat) : ((sub l w (fun _ => true) K [] [] []).map (·.1)).Nodup := by
  have := (sub_nodup l w (fun _ => true) K [] [] []).2
  rw [List.nodup_iff_pairwise_ne, List.pairwise_map]
  exact this
/-- All instances of one number of steps, told apart by their keys. -/
theorem cnt_inst {l : List Tick} {w : Int} (hw : 0 ≤ w) (hl : ∀ y ∈ l, 0 ≤ y.t) {K : Nat} {M : List Step} (hM : M.length = K) : cntM (sub l w (fun _ => true) K [] [] []) (k8 M) = (inst l w M).length := by
  unfold cntM
  refine same_len (filter_nodup (all_nodup l w K)) (inst_nodup l w M) (fun p => ?_)
  rw [List.mem_filter, decide_eq_true_eq, mem_all hw hl, mem_inst hw hl]
  constructor
  · rintro ⟨⟨h1, h2, h3⟩, h4⟩
    have hlen := ofL_len h3
    have he : (ends l p.1).length = p.1.length := by simp [ends]
    have h5 : p.2 = M := k8_inj (by omega) h4
    exact ⟨by omega, h2, by rw [h3, h5], h5⟩
  · rintro ⟨h1, h2, h3, h4⟩
    exact ⟨⟨by omega, h2, by rw [h3, h4]⟩, by rw [h4]⟩
end CoMot
namespace Go.Proofs.Ytkcmbpokoijglaa
open Go.RowKit CoMot

/-- What Spectrum answers. -/
def specE (l : List Tick) (s w : Int) : Int := if chkL l ≠ 0 then chkL l else if motE s ≠ 0 then motE s else spn w
def specL (l : List Tick) (s w : Int) : List Nat := if specE l s w = 0 then (motR s).map fun M => (inst l w M).length else []
theorem growL_mem : ∀ k M v, 1 ≤ v → v + k ≤ 50 → ∀ N ∈ growL k M v, N.length = M.length + k ∧ (Stp M → Stp N) := by
  intro k
  induction k with
  | zero => intro M v _ _ N hN; simp only [growL, List.mem_singleton] at hN; subst hN; exact ⟨rfl, fun h => h⟩
  | succ k ih =>
    intro M v hv hk N hN
    unfold growL at hN
    obtain ⟨a, ha, hN⟩ := List.mem_flatMap.1 hN
    obtain ⟨b, hb, hN⟩ := List.mem_flatMap.1 hN
    rw [List.mem_range] at ha hb
    unfold gOne at hN
    cases hvs : vs v ((a : Int), (b : Int)) with
    | none => rw [hvs] at hN; cases hN
    | some n =>
      rw [hvs] at hN
      have hn := vs_le hvs hv
      obtain ⟨h1, h2⟩ := ih _ n (by omega) (by omega) N hN
      refine ⟨by rw [h1, List.length_append, List.length_singleton]; omega, fun h => h2 (fun x hx => ?_)⟩
      rcases List.mem_append.1 hx with hx | hx
      · exact h x hx
      · rw [List.mem_singleton] at hx; subst hx; simp only; omega
theorem motR_mem {s : Int} {M : List Step} (h : M ∈ motR s) : (M.length : Int) = s ∧ Stp M ∧ 1 ≤ s ∧ s ≤ 4 := by
  unfold motR at h
  split at h
  · rename_i hs
    obtain ⟨h1, h2⟩ := growL_mem (s.toNat - 1) [(0, 1)] 2 (by omega) (by omega) M h
    refine ⟨by rw [h1, List.length_singleton]; omega, h2 (by intro x hx; rw [List.mem_singleton] at hx; subst hx; decide), hs⟩
  · cases h
theorem enter_spec1 (args : Array Value) (w : World) : Sem.run Try.prog (callFunc 47 args) w = .ok (.enter 47 args) w := by
  have h1 : ¬ Try.f47.name = "runtime.NumGoroutine" := fun h => by
    have h2 : ( Try.f47.name == "runtime.NumGoroutine") = false := by kernel_rfl
    rw [h] at h2; simp at h2
  have h3 : ¬ Try.f47.body = none := by
    have h2 : Try.f47.body.isNone = false := by kernel_rfl
    intro h; rw [h] at h2; cases h2
  simp [callFunc, go_sem, Try.func47, h1, h3]
theorem enter_spec2 (args : Array Value) (w : World) : Sem.run Try.prog (callFunc 48 args) w = .ok (.enter 48 args) w := by
  have h1 : ¬ Try.f48.name = "runtime.NumGoroutine" := fun h => by
    have h2 : ( Try.f48.name == "runtime.NumGoroutine") = false := by kernel_rfl
    rw [h] at h2; simp at h2
  have h3 : ¬ Try.f48.body = none := by
    have h2 : Try.f48.body.isNone = false := by kernel_rfl
    intro h; rw [h] at h2; cases h2
  simp [callFunc, go_sem, Try.func48, h1, h3]
set_option maxHeartbeats 1000000 in
theorem spec1_any (v : Value) (w : World) : Calls Try.prog 47 #[v] w fun e w' => e = .returned (.bool true) ∧ Below w.heap.size w w' := by
  go_enter Try.func47, Try.ntmps47
  go_wp2_with fail
  go_ret
  exact ⟨rfl, Below.refl _ _⟩
theorem ok_k8 {M : List Step} (h : Stp M) (hl : M.length ≤ 4) : OKK (k8 M) := by
  unfold k8
  refine ⟨?_, fun x hx => ?_⟩
  · have : ∀ a : List Step, (a.flatMap fun s => [s.1, s.2]).length = 2 * a.length := by
      intro a
      induction a with
      | nil => rfl
      | cons y a ih => simp only [List.flatMap_cons, List.length_append, ih]; simp; omega
    rw [this, pd_len hl]
  · obtain ⟨s, hs, hx⟩ := List.mem_flatMap.1 hx
    unfold pd at hs
    have h3 : (0 ≤ s.1 ∧ s.1 < 100) ∧ (0 ≤ s.2 ∧ s.2 < 100) := by
      rcases List.mem_append.1 hs with hs | hs
      · exact h s hs
      · rw [(List.mem_replicate.1 hs).2]; decide
    simp only [List.mem_cons, List.not_mem_nil, or_false] at hx
    rcases hx with rfl | rfl
    · exact h3.1
    · exact h3.2
/-- Spectrum's J: the map holds how many there were of each. -/
def sJ (g : Nat) (pre : List (List Nat × List Step)) (W : World) (ow : Nat → Prop) : Prop := (∀ k, ow k ↔ k = g) ∧ MF W g (fun X => wrap64 ((cntM pre X : Nat) : Int))
theorem MF.ext {W : World} {g : Nat} {F G : List Int → Int} (h : MF W g F) (he : ∀ X, F X = G X) : MF W g G := by
  obtain ⟨E, clock, h0, hF⟩ := h
  exact ⟨E, clock, h0, fun X => (hF X).trans (he X)⟩
theorem wrap_up' (a : Nat) : wrap64 (wrap64 (a : Int) + 1) = wrap64 ((a + 1 : Nat) : Int) := by unfold wrap64; omega
theorem tk_spec {W : World} {g gb : Nat} {A : Option Addr} {n c K : Nat} {l : List Tick} {wd : Int} (h : RS TE W A n l) (hnc : n ≤ c) (hn : n ≤ 4096) (hm4 : K ≤ 4) (hg : g < W.heap.size) (hgl : ∀ ad, A = some ad → 0 < n → ad.block ≠ g) (hgb : gb ≠ g) (hB : Blk W gb 78 #[.map (some g)])
    (ht : ∀ x ∈ l, 0 ≤ x.t ∧ x.t ≤ 1048576) (hs : ∀ i j, i ≤ j → j < n → tim l i ≤ tim l j) (hw : 0 ≤ wd ∧ wd ≤ 1048576) :
    TK ⟨l, A, n, c, K, wd, 47, #[], 48, #[.pointer (some ⟨gb, 0, none⟩)], W.heap.size, W, fun k => k = g⟩ (fun _ => true) (sJ g) (fun _ _ _ => False) where
  keep := fun p W W' ow hJ hs => ⟨hJ.1, hJ.2.keep hs (fun hn => hn ((hJ.1 g).2 rfl))⟩
  keepx := fun _ _ _ _ h _ => h
  call := fun at' ms s p hI hK hst hJ => by
    obtain ⟨hst, hml⟩ := hst
    obtain ⟨A9, n9, c9, e9, hn9, hnc9, -, hr9, -⟩ := hI.om.form
    have hK' : at'.length = K := hK
    have q1 : n9 ≤ 4 := by omega
    have kl := spec2_any gb g _ A9 n9 c9 ms s.av s.W hr9 q1 (hI.kp.blk hB hgb) hJ.2 (ok_k8 hst (by omega)) hgb
    have e : (#[s.av, s.mv] ++ #[.pointer (some ⟨gb, 0, none⟩)] : Array Value) = #[s.av, .slice A9 n9 c9, .pointer (some ⟨gb, 0, none⟩)] := by rw [e9]; rfl
    rw [← e] at kl
    refine kl.mono ?_
    rintro r W' ⟨rfl, h1, h2⟩
    refine ⟨s.ow, h2.mono (fun k _ hk => (hJ.1 k).2 hk), fun k hk => .inl hk, fun k hk => ?_, .inl ⟨rfl, hJ.1, ?_⟩⟩
    · rw [(hJ.1 k).1 hk]; exact h1.lt
    · refine h1.ext (fun X => ?_)
      unfold upF
      rw [cntM_snoc]
      by_cases hX : X = k8 ms
      · subst hX
        rw [if_pos rfl, if_pos rfl, wrap_up']
      · rw [if_neg hX, if_neg (fun e => hX e.symm), Nat.add_zero]
  fits := fun at' ms s A' n' c' xs hI hr hc hn' => by
    have k1 := spec1_any (.slice A' n' c') s.W
    exact k1
  enterT := enter_spec2
  enterF := enter_spec1
  four := hm4
  tick := h
  cap := hnc
  lim := hn
  far := hgl
  time := ht
  asc := hs
  wide := hw
end Go.Proofs.Ytkcmbpokoijglaa
