/- motifs.Count: the function that counts. -/
import Derived.Test.YtkcmbpokoijglaaMotI
set_option linter.unusedVariables false
set_option linter.unusedSimpArgs false
namespace CoMot
theorem flatMap_len {α β : Type} {f : α → List β} {b : Nat} : ∀ (l : List α), (∀ x ∈ l, (f x).length ≤ b) → (l.flatMap f).length ≤ l.length * b := by
  intro l
  induction l with
  | nil => intro _; simp
  | cons x l ih =>
    intro h
    rw [List.flatMap_cons, List.length_append, List.length_cons, Nat.add_mul]
    have h1 := h x (by simp)
    have h2 := ih fun y hy => h y (by simp [hy])
    omega
theorem sub_len (l : List Tick) (w : Int) (fits : List Step → Bool) : ∀ k at' m ns, (sub l w fits k at' m ns).length ≤ l.length ^ k := by
  intro k
  induction k with
  | zero => intro at' m ns; simp [sub]
  | succ k ih =>
    intro at' m ns
    rw [sub_succ, Nat.pow_succ, Nat.mul_comm]
    have := flatMap_len (f := one l w fits k at' m ns) (b := l.length ^ k) (List.range l.length) (fun i _ => by
      unfold one
      split
      · simp
      · split
        · split
          · simp
          · split
            · exact ih _ _ _
            · simp
        · simp)
    rwa [List.length_range] at this
end CoMot
namespace Go.Proofs.Ytkcmbpokoijglaa
open Go.RowKit CoMot

theorem enter_of1 (args : Array Value) (w : World) : Sem.run Try.prog (callFunc 65 args) w = .ok (.enter 65 args) w := by
  have h1 : ¬ Try.f65.name = "runtime.NumGoroutine" := fun h => by
    have h2 : ( Try.f65.name == "runtime.NumGoroutine") = false := by kernel_rfl
    rw [h] at h2; simp at h2
  have h3 : ¬ Try.f65.body = none := by
    have h2 : Try.f65.body.isNone = false := by kernel_rfl
    intro h; rw [h] at h2; cases h2
  simp [callFunc, go_sem, Try.func65, h1, h3]
theorem enter_count1 (args : Array Value) (w : World) : Sem.run Try.prog (callFunc 43 args) w = .ok (.enter 43 args) w := by
  have h1 : ¬ Try.f43.name = "runtime.NumGoroutine" := fun h => by
    have h2 : ( Try.f43.name == "runtime.NumGoroutine") = false := by kernel_rfl
    rw [h] at h2; simp at h2
  have h3 : ¬ Try.f43.body = none := by
    have h2 : Try.f43.body.isNone = false := by kernel_rfl
    intro h; rw [h] at h2; cases h2
  simp [callFunc, go_sem, Try.func43, h1, h3]
theorem count1_any (g a : Nat) (u v : Value) (w : World) (hg : Blk w g 3 #[.int .i64 (wrap64 (a : Int))]) :
    Calls Try.prog 43 #[u, v, .pointer (some ⟨g, 0, none⟩)] w fun e w' => e = .returned (.bool true) ∧ Same (fun k => k = g) w w' ∧ Blk w' g 3 #[.int .i64 (wrap64 ((a + 1 : Nat) : Int))] := by
  have b0 := Blk.cell hg 0
  have f0 := Blk.frozen hg 0
  simp at b0 f0
  have hw : Hid (wrap64 (wrap64 (a : Int) + 1) = wrap64 ((a + 1 : Nat) : Int)) := Lib.hid (by unfold wrap64; omega)
  have hs := fun x => Same.set w g 0 x
  have hb := fun x => Blk.set hg 0 x
  replace hs := Lib.hid hs
  replace hb := Lib.hid hb
  generalize wrap64 (a : Int) = x at *
  go_enter Try.func43, Try.ntmps43
  go_wp2_with fail
  go_ret
  rw [hw.out]
  exact ⟨rfl, hs.out _, hb.out _⟩
/-- Count's J: the counter's block holds how many there were. -/
def cJ (g : Nat) (pre : List (List Nat × List Step)) (W : World) (ow : Nat → Prop) : Prop := (∀ k, ow k ↔ k = g) ∧ Blk W g 3 #[.int .i64 (wrap64 ((pre.length : Nat) : Int))]
theorem tk_count {W : World} {g gf : Nat} {A B : Option Addr} {n c m d : Nat} {l : List Tick} {M : List Step} {wd : Int} (h : RS TE W A n l) (hnc : n ≤ c) (hn : n ≤ 4096) (hM : RS SE W B m M) (hmd : m ≤ d) (hm4 : m ≤ 4) (hg : g < W.heap.size) (hgl : ∀ ad, A = some ad → 0 < n → ad.block ≠ g) (hgm : ∀ ad, B = some ad → 0 < m → ad.block ≠ g) (hgf : gf ≠ g) (hfB : Blk W gf 29 #[.slice B m d])
    (ht : ∀ x ∈ l, 0 ≤ x.t ∧ x.t ≤ 1048576) (hs : ∀ i j, i ≤ j → j < n → tim l i ≤ tim l j) (hw : 0 ≤ wd ∧ wd ≤ 1048576) :
    TK ⟨l, A, n, c, m, wd, 65, #[.pointer (some ⟨gf, 0, none⟩)], 43, #[.pointer (some ⟨g, 0, none⟩)], W.heap.size, W, fun k => k = g⟩ (pre M) (cJ g) (fun _ _ _ => False) where
  keep := fun p W W' ow hJ hs => ⟨hJ.1, hs.blk hJ.2 (fun hn => hn ((hJ.1 g).2 rfl))⟩
  keepx := fun _ _ _ _ h _ => h
  call := fun at' ms s p hI hK _ hJ => by
    refine (count1_any g p.length s.av s.mv s.W hJ.2).mono ?_
    rintro r W' ⟨rfl, h1, h2⟩
    refine ⟨s.ow, h1.mono (fun k _ hk => (hJ.1 k).2 hk), fun k hk => .inl hk, fun k hk => ?_, .inl ⟨rfl, hJ.1, ?_⟩⟩
    · rw [(hJ.1 k).1 hk]; exact h2.lt
    · rw [List.length_append, List.length_singleton]; exact h2
  fits := fun at' ms s A' n' c' xs hI hr hc hn' => by
    have hsz : W.heap.size ≤ s.W.heap.size := hI.kp.size
    have hMs : RS SE s.W B m M := ⟨hM.1, fun hp => by
      obtain ⟨ad, he, hb, hc⟩ := hM.2 hp
      have hlt : ad.block < W.heap.size := hb
      exact ⟨ad, he, Nat.lt_of_lt_of_le hb hsz, fun j u hu => (World.cell?_of_block (hI.kp.block (ad.add j).block (by rw [block_of_add]; exact hlt) (by rw [block_of_add]; exact hgm ad he hp))).trans (hc j u hu)⟩⟩
    exact of1_any gf A' B n' c' m d xs M s.W hr (hI.kp.blk hfB hgf) hMs hmd hn' (by have h4 : n' ≤ m := hn'; omega)
  enterT := enter_count1
  enterF := enter_of1
  four := hm4
  tick := h
  cap := hnc
  lim := hn
  far := hgl
  time := ht
  asc := hs
  wide := hw
end Go.Proofs.Ytkcmbpokoijglaa
