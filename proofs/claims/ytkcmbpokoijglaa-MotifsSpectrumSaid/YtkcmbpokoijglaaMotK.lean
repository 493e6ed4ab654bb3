/- motifs.Count. -/
import Derived.Test.YtkcmbpokoijglaaMotJ
import Derived.Laws.EntriesVeiled
set_option linter.unusedVariables false
set_option linter.unusedSimpArgs false
namespace CoMot
theorem chkT_all : ∀ (l : List Tick) (last : Int), chkT last l = 0 → (∀ x ∈ l, last ≤ x.t ∧ x.t ≤ 1048576) ∧ l.Pairwise (fun x y => x.t ≤ y.t) ∧ (∀ x ∈ l, nd x.u = true ∧ nd x.v = true ∧ x.u ≠ x.v) := by
  intro l
  induction l with
  | nil => intro last _; simp
  | cons x r ih =>
    intro last h
    unfold chkT at h
    split at h
    · omega
    · rename_i h1
      split at h
      · omega
      · rename_i h2
        obtain ⟨i1, i2, i3⟩ := ih _ h
        refine ⟨fun y hy => ?_, ?_, fun y hy => ?_⟩
        · rcases List.mem_cons.1 hy with rfl | hy
          · omega
          · have := i1 y hy; omega
        · exact List.pairwise_cons.2 ⟨fun y hy => (i1 y hy).1, i2⟩
        · rcases List.mem_cons.1 hy with rfl | hy
          · refine ⟨?_, ?_, fun e => h1 (.inr (.inr e))⟩
            · cases e : nd y.u with
              | true => rfl
              | false => exact absurd (.inl e) h1
            · cases e : nd y.v with
              | true => rfl
              | false => exact absurd (.inr (.inl e)) h1
          · exact i3 y hy
theorem tim_of {l : List Tick} {i : Nat} (hi : i < l.length) : tim l i = l[i].t := by unfold tim; rw [List.getElem?_eq_getElem hi]; rfl
theorem tim_asc {l : List Tick} (h : l.Pairwise (fun x y => x.t ≤ y.t)) {i j : Nat} (hij : i ≤ j) (hj : j < l.length) : tim l i ≤ tim l j := by
  rcases Nat.lt_or_ge i j with hlt | hge
  · rw [tim_of (by omega), tim_of hj]
    exact List.pairwise_iff_getElem.1 h i j (by omega) hj hlt
  · obtain rfl : i = j := by omega
    exact Int.le_refl _
theorem chkL_zero {l : List Tick} (h : chkL l = 0) : l.length ≤ 4096 ∧ (∀ x ∈ l, 0 ≤ x.t ∧ x.t ≤ 1048576) ∧ (∀ i j, i ≤ j → j < l.length → tim l i ≤ tim l j) ∧ (∀ x ∈ l, nd x.u = true ∧ nd x.v = true ∧ x.u ≠ x.v) := by
  unfold chkL at h
  split at h
  · omega
  · obtain ⟨h1, h2, h3⟩ := chkT_all l 0 h
    exact ⟨by omega, h1, fun i j hij hj => tim_asc h2 hij hj, h3⟩
theorem chkA_zero {l : List Tick} {m : List Step} {w : Int} (h : chkA l m w = 0) : chkL l = 0 ∧ vld m = true ∧ 0 ≤ w ∧ w ≤ 1048576 := by
  unfold chkA at h
  split at h
  · omega
  · split at h
    · omega
    · rename_i h1 h2
      unfold spn at h
      split at h
      · omega
      · refine ⟨by omega, ?_, by omega, by omega⟩
        cases e : vld m with
        | true => rfl
        | false => exact absurd e h2
/-- What Count answers. -/
def cntR (l : List Tick) (m : List Step) (w : Int) : Int := if chkA l m w = 0 then ((inst l w m).length : Int) else 0
theorem inst_small {l : List Tick} {m : List Step} {w : Int} (hl : l.length ≤ 4096) (hm : m.length ≤ 4) : (inst l w m).length ≤ 281474976710656 := by
  have h := sub_len l w (pre m) m.length [] [] []
  have h1 : l.length ^ m.length ≤ 4096 ^ m.length := Nat.pow_le_pow_left hl _
  have h2 : 4096 ^ m.length ≤ 4096 ^ 4 := Nat.pow_le_pow_right (by omega) hm
  unfold inst
  omega
end CoMot
namespace Go.Proofs.Ytkcmbpokoijglaa
open Go.RowKit CoMot

theorem wrap_inst {l : List Tick} {m : List Step} {w : Int} (hl : l.length ≤ 4096) (hm : m.length ≤ 4) : wrap64 (((inst l w m).length : Nat) : Int) = ((inst l w m).length : Int) := by
  have := inst_small (w := w) hl hm
  generalize (inst l w m).length = a at *
  unfold wrap64
  omega
theorem vld_len {m : List Step} (h : vld m = true) : 1 ≤ m.length ∧ m.length ≤ 4 := by
  have := (vld_iff m).1 h
  exact ⟨this.1, this.2.1⟩
theorem RS.farg {α : Type} {E : El α} {W : World} {A : Option Addr} {n : Nat} {l : List α} {g : Nat} (h : RS E W A n l) (hg : W.heap.size ≤ g) : ∀ ad, A = some ad → 0 < n → ad.block ≠ g := fun ad he hp => by
  obtain ⟨ad', he', hb, _⟩ := h.2 hp
  rw [he] at he'
  injection he' with he'
  subst he'
  have hb' : ad.block < W.heap.size := hb
  omega
/-- The function value of of. -/
theorem mof_any (B : Option Addr) (m d : Nat) (w : World) :
    Calls Try.prog 42 #[.slice B m d] w fun r w' => r = .returned (.func (.func 65) #[] #[.pointer (some ⟨w.heap.size, 0, none⟩)]) ∧ w' = w.alloc (.cells #[.slice B m d] 29) := by
  go_enter Try.func42, Try.ntmps42
  go_wp2_with fail
  go_ret
  exact ⟨rfl, rfl⟩
set_option maxRecDepth 100000 in
set_option maxHeartbeats 4000000 in
theorem count_any (A B : Option Addr) (n c m d : Nat) (l : List Tick) (s : List Step) (v : Int) (w : World) (h : RS TE w A n l) (h' : RS SE w B m s) (hn : n ≤ 1099511627776) (hnc : n ≤ c) (hmd : m ≤ d) :
    Calls Try.prog 16 #[.slice A n c, .slice B m d, .int .i64 v] w fun r w' => r = .returned (.tuple #[.int .i64 (cntR l s v), .int .i64 (chkA l s v)]) ∧ Below w.heap.size w w' := by
  have kc := Lib.hid (mcheckA_any A B n c m d l s v w h h' hn hmd)
  by_cases e1 : chkA l s v = 0
  · obtain ⟨f1, f2, f3⟩ := chkA_zero e1
    obtain ⟨t1, t2, t3, _⟩ := chkL_zero f1
    obtain ⟨v1, v2⟩ := vld_len f2
    have hl := h.len
    have hl' := h'.len
    have hR : Hid (cntR l s v = ((inst l v s).length : Int)) := Lib.hid (by unfold cntR; rw [if_pos e1])
    have hW : Hid (wrap64 (((inst l v s).length : Nat) : Int) = ((inst l v s).length : Int)) := Lib.hid (wrap_inst t1 v2)
    have ke : Hid (∀ w1, Below w.heap.size w w1 → Calls Try.prog 41 #[.slice A n c, .int .i64 m, .int .i64 v, .func (.func 65) #[] #[.pointer (some ⟨w1.heap.size + 1, 0, none⟩)], .func (.func 43) #[] #[.pointer (some ⟨w1.heap.size, 0, none⟩)]]
        ((w1.alloc (.cells #[.int .i64 0] 3)).alloc (.cells #[.slice B m d] 29)) fun r W' => (∃ x, r = .returned x) ∧ Below w.heap.size w W' ∧ W'.cell? ⟨w1.heap.size, 0, none⟩ = some (.int .i64 ((inst l v s).length : Int))) := Lib.hid fun w1 hb => by
      have hs := hb.size
      have z1 : (w1.alloc (.cells #[.int .i64 0] 3)).heap.size = w1.heap.size + 1 := by simp
      have z2 : ((w1.alloc (.cells #[.int .i64 0] 3)).alloc (.cells #[.slice B m d] 29)).heap.size = w1.heap.size + 2 := by simp
      have B1 : Blk (w1.alloc (.cells #[.int .i64 0] 3)) w1.heap.size 3 #[.int .i64 0] := Blk.new' _ _ _ rfl
      have B1' := B1.alloc (.cells #[.slice B m d] 29)
      have B2 : Blk ((w1.alloc (.cells #[.int .i64 0] 3)).alloc (.cells #[.slice B m d] 29)) (w1.heap.size + 1) 29 #[.slice B m d] := Blk.new' _ _ _ z1.symm
      have hbA := (hb.alloc hs (.cells #[.int .i64 0] 3)).alloc (by omega) (.cells #[.slice B m d] 29)
      have hw0 : wrap64 ((([] : List (List Nat × List Step)).length : Nat) : Int) = 0 := by unfold wrap64; rfl
      have kk := each_any _ _ _ _ (tk_count (h.below hbA (Nat.le_refl _)) hnc (by omega) (h'.below hbA (Nat.le_refl _)) hmd (by omega) (g := w1.heap.size) (gf := w1.heap.size + 1) (by omega) (h.farg (by omega)) (h'.farg (by omega)) (by omega) B2 t2 (fun i j hij hj => t3 i j hij (by omega)) f3) rfl (fun k hk => by simp only at hk ⊢; omega) ⟨fun k => Iff.rfl, by rw [hw0]; exact B1'⟩
      refine Calls.mono kk ?_
      rintro r W' ⟨ow', hr, hS, hJ⟩
      refine ⟨hr, hbA.trans (hS.below (by show w.heap.size ≤ ((w1.alloc (.cells #[.int .i64 0] 3)).alloc (.cells #[.slice B m d] 29)).heap.size; omega) (fun k hk he => ?_)), ?_⟩
      · simp only at he; omega
      · rcases hJ with hJ | ⟨q, t, _, hx⟩
        · have := Blk.cell hJ.2 0
          rw [← hW.out]
          simp only [List.size_toArray, List.length_cons, List.length_nil] at this
          have h2 := this
          simp only [inst, ← hl'] at h2 ⊢
          exact h2
        · exact hx.elim
    rw [e1] at kc
    have hE := Lib.hid e1
    clear t1 t2 t3 v1 v2 f1 f2 f3 hl hl' e1
    go_enter Try.func16, Try.ntmps16
    go_wp2_with fail
    (with_reducible refine (kc.out).mono ?_); rintro e w1 ⟨rfl, hb1⟩
    have ke1 := Lib.hid (ke.out w1 hb1)
    clear ke
    have km := fun W => mof_any B m d W
    replace km := Lib.hid km
    go_wp2_with fail
    (with_reducible refine (km.out _).mono ?_); rintro e w2 ⟨rfl, hQ⟩; obtain rfl := hQ.symm; clear hQ
    rw [show (w1.alloc (.cells #[.int .i64 0] 3)).heap.size = w1.heap.size + 1 by simp]
    go_wp2_with fail
    (with_reducible refine (ke1.out).mono ?_); rintro e w2 ⟨⟨x, rfl⟩, hb2, hc2⟩
    go_wp2_with fail
    go_ret2
    exact ⟨by rw [hR.out, hE.out]; rfl, hb2⟩
  · have hR : Hid (cntR l s v = 0) := Lib.hid (by unfold cntR; rw [if_neg e1])
    have q : (chkA l s v != 0) = true := by simpa using e1
    replace e1 := Lib.hid e1
    go_enter Try.func16, Try.ntmps16
    go_wp2_with fail
    (with_reducible refine (kc.out).mono ?_); rintro e w1 ⟨rfl, hb1⟩
    go_wp2_with fail
    go_ret2
    exact ⟨by rw [hR.out]; rfl, hb1⟩
end Go.Proofs.Ytkcmbpokoijglaa
