/- What is made of numbers (cohesionmake): the deck. -/
import Derived.Test.YticekkjambkifaaDoorZaa
import Derived.Test.YticekkjambkifaaDoorZac
import Derived.Test.YticekkjambkifaaDoorSetB
import Derived.Test.YticekkjambkifaaDoorZab
import Derived.Deep.RegionLaw
set_option linter.unusedVariables false
namespace Go.Proofs.YticekkjambkifaaDoor
open Go.RowKit

end Go.Proofs.YticekkjambkifaaDoor

namespace Go.Proofs.YticekkjambkifaaDoor
open Go.RowKit

/-- The call returns a new list with P, and turns the deck alone. -/
def RetD (w : World) (g : Nat) (P : List Int → Prop) (e : Ending) (w' : World) : Prop := ∃ (xs : List Int) (A : Option Addr) (n c : Nat), e = .returned (.slice A n c) ∧ n ≤ c ∧ P xs ∧ RI w' A n xs ∧ Fr w.heap.size A ∧ Dk w' g ∧ w.grownBy w' (some g)
theorem vld_more {xs : List Int} {m m' : Int} (h : Vld xs m) (hm : m ≤ m') : Vld xs m' := ⟨fun x hx => ⟨(h.1 x hx).1, Int.lt_of_lt_of_le (h.1 x hx).2 hm⟩, h.2⟩
theorem vld_push {xs : List Int} {m : Int} (h : Vld xs m) (hm : 0 ≤ m) : Vld (xs ++ [m]) (m + 1) := by
  refine ⟨?_, ?_⟩
  · intro x hx
    rcases List.mem_append.1 hx with hx | hx
    · have := h.1 x hx; omega
    · rw [List.mem_singleton.1 hx]; omega
  · rw [List.pairwise_append]
    refine ⟨h.2, List.pairwise_singleton _ _, ?_⟩
    intro a ha b hb
    rw [List.mem_singleton.1 hb]
    exact (h.1 a ha).2
theorem grown_of_new {w w' w2 : World} {g : Nat} {row : Option Nat} (h : w.grownBy w' (some g)) (h2 : w'.grownBy w2 row) (hr : ∀ k, row = some k → w.heap.size ≤ k) : w.grownBy w2 (some g) :=
  ⟨h2.os.trans h.os, h2.tape.trans h.tape, h2.output.trans h.output, Nat.le_trans h.size h2.size, fun k hk hne => (h2.block k (Nat.lt_of_lt_of_le hk h.size) (fun e => by have := hr _ e.symm; omega)).trans (h.block k hk hne)⟩

set_option maxHeartbeats 1000000 in
theorem mkset_any (g : Nat) (n : Nat) (w : World) (h : Dk w g) (hn : n ≤ 1000000) :
    Calls Tryd.prog 27 #[.pointer (some ⟨g, 0, none⟩), .int .i64 n] w (RetD w g (fun xs => Vld xs n)) := by
  have hg0 := h.lt
  go_enter Tryd.func27, Tryd.ntmps27
  go_wp2
  go_loopw [5, 6] (fun v i wr => ∃ (k : Nat) (xs : List Int), k ≤ n ∧ i = .int .i64 k ∧ Hid (Vld xs k) ∧ xs.length ≤ k ∧ OI wr w.heap.size v xs ∧ Dk wr g ∧ w.grownBy wr (some g)) (fun _ i _ => n - (intOf i).toNat)
  case atStart => exact ⟨0, [], Nat.zero_le _, rfl, Lib.hid (vld_nil _), Nat.le_refl _, OI.nil_, h, World.grownBy.refl _ _⟩
  case round =>
    obtain ⟨k, xs, hk, rfl, hv, hl, ho, hd, hg⟩ := hrel
    have hs := hg.size
    by_cases hlt : k < n
    · go_wp2_with fail
      refine (next_any g 2 _ hd (by omega)).mono ?_
      rintro e w1 ⟨x, rfl, x0, x1, _, hd1, hg1⟩
      replace x1 := x1 (by omega)
      have hs1 := hg1.size
      have hg2 := grown_trans hg hg1
      replace ho := ho.kept hg1 (by
        right; intro e; have := (ho.block_lt _ e).1; omega)
      clear hg1 hd
      by_cases hx : x = 1
      · subst hx
        have hv' := Lib.hid (vld_push hv.out (Int.natCast_nonneg k))
        go_wp2_with (at_builtin; refine wpList_push rfl _ _ rfl rfl rfl (by simp) ho (by omega) (by omega) ?_; intro v' w' ho' hb' hg')
        have hd2 := hd1.below hb' (by omega)
        have hg3 := grown_below hg2 (hb'.mono (by omega)) (Nat.le_refl _)
        go_roundw
        case rel => exact ⟨k + 1, xs ++ [(k : Int)], by omega, by go_num, hv', by simp; omega, ho', hd2, hg3⟩
        case measure => simp [intOf]; omega
      · have hx' : (x == 1) = false := by simpa using hx
        clear hx
        have hv' := Lib.hid (vld_more (m' := ((k + 1 : Nat) : Int)) hv.out (by omega))
        go_wp2
        go_roundw
        case rel => exact ⟨k + 1, xs, by omega, by go_num, hv', by omega, ho, hd1, hg2⟩
        case measure => simp [intOf]; omega
    · have hfin : RetD w g (fun xs => Vld xs n) (.returned u5) wr := by
        obtain ⟨A, m, c, rfl, hm, hc, _, hr⟩ := ho.form
        exact ⟨xs, A, m, c, rfl, hc, vld_more hv.out (by omega), hr, ho.fresh hm, hd, hg⟩
      replace hfin := Lib.hid hfin
      clear ho hd hg
      go_wp2
      go_ret
      exact hfin.out

/-- The list has each number from 0 to n - 1 once. -/
def Ord (xs : List Int) (n : Nat) : Prop := xs.length = n ∧ xs.Nodup ∧ ∀ x ∈ xs, 0 ≤ x ∧ x < n
theorem ord_nil : Ord [] 0 := ⟨rfl, List.Pairwise.nil, by simp⟩
theorem ord_put {xs : List Int} {n i : Nat} (h : Ord xs n) (hi : i ≤ n) : Ord (xs.take i ++ [(n : Int)] ++ xs.drop i) (n + 1) := by
  obtain ⟨h1, h2, h3⟩ := h
  have hp : (xs.take i ++ [(n : Int)] ++ xs.drop i).Perm ((n : Int) :: xs) := by
    have h := List.perm_middle (a := (n : Int)) (l₁ := xs.take i) (l₂ := xs.drop i)
    rw [List.take_append_drop] at h
    simpa using h
  refine ⟨by rw [hp.length_eq]; simp [h1], ?_, ?_⟩
  · rw [hp.nodup_iff, List.nodup_cons]
    exact ⟨fun hm => by have := (h3 _ hm).2; omega, h2⟩
  · intro x hx
    rcases List.mem_cons.1 (hp.mem_iff.1 hx) with rfl | hx
    · omega
    · have := h3 x hx; omega
theorem OI.take {w : World} {B : Nat} {A : Option Addr} {n c k : Nat} {ys : List Int} (h : OI w B (.slice A n c) ys) (hn : n = ys.length) (hk : k ≤ n) : w.ownsRow B 3 1 (.slice A k c) k (ints (ys.take k)) := by
  refine ⟨by rw [ints_length, List.length_take]; omega, ?_⟩
  rcases h.2 with ⟨hv, h0⟩ | ⟨g, cap, cur, hv, h1, h2, h3, h4, h5, h6⟩
  · injection hv with e1 e2 e3
    subst e1; subst e3
    exact .inl ⟨by rw [show k = 0 by omega], by omega⟩
  · injection hv with e1 e2 e3
    subst e1; subst e3
    refine .inr ⟨g, c, cur, rfl, h1, h2, by omega, h4, h5, ?_⟩
    rw [ints_take, ← h6, List.take_take, Nat.mul_one, Nat.min_eq_left (by omega)]
theorem own_one {w : World} {B : Nat} (x : Int) (hB : B ≤ w.heap.size) : (w.alloc (.cells #[.int .i64 x] 3)).ownsRow B 3 1 (.slice (some ⟨w.heap.size, 0, none⟩) 1 1) 1 (ints [x]) :=
  World.ownsRow_lit w #[.int .i64 x] 1 hB (by unfold maxLen; omega) rfl

end Go.Proofs.YticekkjambkifaaDoor

namespace Go.Proofs.YticekkjambkifaaDoor
open Go.RowKit

/-- The edges are those of a graph with n nodes, in order. -/
def Srt (n : Int) (es : List (Int × Int)) : Prop := (∀ e ∈ es, 0 ≤ e.1 ∧ e.1 < e.2 ∧ e.2 < n) ∧ es.Pairwise ltE
theorem chkE_ok {n : Int} {es : List (Int × Int)} : ∀ p : Option (Int × Int), (∀ e ∈ es, 0 ≤ e.1 ∧ e.1 < e.2 ∧ e.2 < n) → es.Pairwise ltE → (∀ q, p = some q → ∀ e ∈ es, ltE q e) → chkE n p es = 0 := by
  induction es with
  | nil => intro p _ _ _; cases p <;> rfl
  | cons e es ih =>
    intro p h1 h2 h3
    have he := h1 e (by simp)
    have h2' := List.pairwise_cons.1 h2
    have ih' := ih (some e) (fun x hx => h1 x (by simp [hx])) h2'.2 (fun q hq x hx => by injection hq with hq; subst hq; exact h2'.1 x hx)
    simp only [chkE]
    rw [if_neg (by omega), ih']
    rw [if_neg]
    cases p with
    | none => simp
    | some q =>
      have := h3 q rfl e (by simp)
      simp [this]
theorem chk_of_srt {n : Int} {es : List (Int × Int)} (h : Srt n es) (h0 : 0 ≤ n) (h1 : n ≤ 64) : chkG n es = 0 := by
  rw [chkG, if_neg (by omega)]
  exact chkE_ok none h.1 h.2 (fun q hq => by cases hq)
theorem srt_push {n u v : Int} {es : List (Int × Int)} (h : Srt n es) (hb : ∀ e ∈ es, ltE e (u, v)) (h0 : 0 ≤ u) (h1 : u < v) (h2 : v < n) : Srt n (es ++ [(u, v)]) := by
  refine ⟨?_, ?_⟩
  · intro e he
    rcases List.mem_append.1 he with he | he
    · exact h.1 e he
    · rw [List.mem_singleton.1 he]; exact ⟨h0, h1, h2⟩
  · rw [List.pairwise_append]
    refine ⟨h.2, List.pairwise_singleton _ _, fun a ha b hb' => ?_⟩
    rw [List.mem_singleton.1 hb']
    exact hb a ha
theorem lt_next {u v : Int} {es : List (Int × Int)} (h : ∀ e ∈ es, ltE e (u, v)) : ∀ e ∈ es ++ [(u, v)], ltE e (u, v + 1) := by
  intro e he
  rcases List.mem_append.1 he with he | he
  · have := h e he; unfold ltE at this ⊢; simp at this ⊢; omega
  · rw [List.mem_singleton.1 he]; unfold ltE; simp; omega
theorem lt_skip {u v : Int} {es : List (Int × Int)} (h : ∀ e ∈ es, ltE e (u, v)) : ∀ e ∈ es, ltE e (u, v + 1) := by
  intro e he
  have := h e he; unfold ltE at this ⊢; simp at this ⊢; omega
theorem lt_row {n u v : Int} {es : List (Int × Int)} (hs : Srt n es) (h : ∀ e ∈ es, ltE e (u, v)) (hv : n ≤ v) : ∀ e ∈ es, ltE e (u + 1, u + 1 + 1) := by
  intro e he
  have := h e he; unfold ltE at this ⊢; simp at this ⊢; omega
theorem grown_set_new {w w' : World} {row : Option Nat} (h : w.grownBy w' row) {p : Addr} (hp : w.heap.size ≤ p.block) (u : Value) : w.grownBy (w'.setCell p u) row :=
  ⟨h.os, h.tape, h.output, by simpa [World.setCell] using h.size, fun k hk hne => (Below.heap_setCell w' p u k (by omega)).trans (h.block k hk hne)⟩
theorem _root_.Go.World.grownBy.block_cell {w w' : World} {row : Option Nat} (h : w.grownBy w' row) (p : Addr) (hp : p.block < w.heap.size) (hne : some p.block ≠ row) : w'.cell? p = w.cell? p := World.cell?_of_block (h.block p.block hp hne)
theorem grown_alloc {w w' : World} {row : Option Nat} (h : w.grownBy w' row) (o : Obj) : w.grownBy (w'.alloc o) row :=
  ⟨h.os, h.tape, h.output, Nat.le_trans h.size (by simp), fun k hk hne => (Below.heap_alloc w' o k (Nat.lt_of_lt_of_le hk h.size)).trans (h.block k hk hne)⟩
/-- The call returns a new graph of at most 'most' nodes, and turns the deck alone. -/
def RetGph (w : World) (g : Nat) (most : Nat) (e : Ending) (w' : World) : Prop := ∃ (n : Nat) (es : List (Int × Int)) (A : Option Addr) (m c : Nat), e = .returned (.agg #[.int .i64 n, .slice A m c]) ∧ m ≤ c ∧ RE w' A m es ∧ Fr w.heap.size A ∧ Srt n es ∧ n ≤ most ∧ Dk w' g ∧ w.grownBy w' (some g)

set_option maxRecDepth 100000 in
set_option maxHeartbeats 4000000 in
theorem mkgraph_any (g : Nat) (most : Nat) (w : World) (h : Dk w g) (hn : most ≤ 64) :
    Calls Tryd.prog 12 #[.pointer (some ⟨g, 0, none⟩), .int .i64 most] w (RetGph w g most) := by
  have hg0 := h.lt
  go_enter Tryd.func12, Tryd.ntmps12
  go_wp2_with fail
  refine (next_any g _ _ (h.alloc _) (by omega)).mono ?_
  rintro e w1 ⟨x, rfl, x0, x1, _, hd1, hg1⟩
  replace x1 := x1 (by omega)
  obtain ⟨n1, rfl⟩ := Int.eq_ofNat_of_zero_le x0
  have hs1 := hg1.size
  simp at hs1
  have hR1 : Blk w1 w.heap.size 25 #[.int .i64 0, .slice none 0 0] := Blk.grown (Blk.new _ _ _) hg1 (by intro e; injection e with e; omega)
  have hg2 : w.grownBy w1 (some g) := grown_trans (grown_alloc (World.grownBy.refl _ _) _) hg1
  clear hg1
  go_upto_if 16 with (fail)
  have hgb : Blk (w1.alloc (.cells #[.int .i64 n1, .slice none 0 0] 25)) w1.heap.size 25 #[.int .i64 n1, .slice none 0 0] := Blk.new _ _ _
  have hgb0 := Blk.cell hgb 0
  simp at hgb0
  go_cut [] (fun wx => ∃ n : Nat, n ≤ most ∧ Blk wx w1.heap.size 25 #[.int .i64 n, .slice none 0 0] ∧ Blk wx w.heap.size 25 #[.int .i64 0, .slice none 0 0] ∧ Dk wx g ∧ w.grownBy wx (some g))
  case first =>
    by_cases h4 : n1 < 4
    · have h4' : decide ((n1 : Int) < 4) = true := by simp; omega
      go_wp2_with fail
      have e1 : IntKind.i64.wrap ((most : Int) + 1) = (most : Int) + 1 := IntWalk.i64_in _ ⟨by omega, by omega⟩
      go_region_with ((go_at_call 25; refine (next_any g _ _ (hd1.alloc _).drew (by omega)).mono ?_; rintro e w2 ⟨y, rfl, y0, y1, _, hd2, hg3⟩; replace y1 := y1 (by omega); obtain ⟨y, rfl⟩ := Int.eq_ofNat_of_zero_le y0; have e2 : IntKind.i64.wrap ((n1 : Int) + (y : Int)) = (n1 : Int) + (y : Int) := IntWalk.i64_in _ ⟨by omega, by omega⟩; have hB2 := Blk.grown (Blk.drew hgb) hg3 (by intro e; injection e with e; omega); have k0 := Blk.cell hB2 0; have f0 := Blk.frozen hB2 0; simp at k0))
      all_goals go_wp2_with fail
      all_goals
        go_meet
        have hz : (n1 : Int) + y ≤ (most : Int) ∨ (most : Int) ≤ (n1 : Int) + y := by omega
        have r1 : ∀ u, Blk (w2.setCell ⟨w1.heap.size, 0, none⟩ u) w.heap.size 25 #[.int .i64 0, .slice none 0 0] := fun u => Blk.far (Blk.grown (Blk.drew (Blk.alloc hR1 _)) hg3 (by intro e; injection e with e; omega)) (by simp; omega) _
        have r2 : ∀ u, Dk (w2.setCell ⟨w1.heap.size, 0, none⟩ u) g := fun u => hd2.below ((Below.refl w1.heap.size w2).setCell (p := ⟨w1.heap.size, 0, none⟩) (Nat.le_refl _) u) (by omega)
        have r3 : ∀ u, w.grownBy (w2.setCell ⟨w1.heap.size, 0, none⟩ u) (some g) := fun u => grown_set_new (grown_trans (grown_drew (grown_alloc hg2 _)) hg3) (by simp; omega) _
        have r4 := fun u => Blk.set hB2 0 u
        simp at r4
        first
          | exact ⟨n1 + y, by omega, r4 _, r1 _, r2 _, r3 _⟩
          | exact ⟨most, by omega, r4 _, r1 _, r2 _, r3 _⟩
    · have h4' : decide ((n1 : Int) < 4) = false := by simp; omega
      go_wp2_with fail
      go_meet
      exact ⟨n1, by omega, hgb, hR1.alloc _, hd1.alloc _, grown_alloc hg2 _⟩
  case rest =>
    clear hgb hgb0 hR1 hd1 hg2 x0 x1
    obtain ⟨n, hn1, hB, hR, hd, hgr⟩ := hcut
    have hsx := hB.lt
    go_wp2_with fail
    refine (next_any g 4 _ hd (by omega)).mono ?_
    rintro e w2 ⟨y, rfl, y0, y1, _, hd2, hg2⟩
    replace y1 := y1 (by omega)
    have hs2 := hg2.size
    replace hB := Blk.grown hB hg2 (by intro e; injection e with e; omega)
    replace hR := Blk.grown hR hg2 (by intro e; injection e with e; omega)
    replace hgr := grown_trans hgr hg2
    have hgb1 : w.heap.size < w1.heap.size ∧ w1.heap.size < w2.heap.size := ⟨by omega, by omega⟩
    clear hd hg2 hs1
    go_wp2_with fail
    generalize w1.heap.size = gb at *
    go_loopw [7] (fun i wr => ∃ (k : Nat) (es : List (Int × Int)) (v : Value), k ≤ n ∧ i = .int .i64 k ∧ Hid (Srt n es ∧ ∀ e ∈ es, ltE e ((k : Int), (k : Int) + 1)) ∧ es.length ≤ 64 * k ∧ Blk wr gb 25 #[.int .i64 n, v] ∧ Blk wr w.heap.size 25 #[.int .i64 0, .slice none 0 0] ∧ OE wr (gb + 1) v es ∧ Dk wr g ∧ w.grownBy wr (some g)) (fun i _ => n - (intOf i).toNat)
    case atStart => exact ⟨0, [], _, Nat.zero_le _, rfl, Lib.hid ⟨⟨by simp, List.Pairwise.nil⟩, by simp⟩, Nat.le_refl _, hB, hR, OE.nil_, hd2, hgr⟩
    case round =>
      obtain ⟨k, es, v, hk, rfl, hse, hlen, hB', hR', ho, hd', hg'⟩ := hrel
      clear hB hR hd2 hgr
      have c0 := Blk.cell hB' 0
      simp at c0
      by_cases hlt : k < n
      · go_wp2_with fail
        obtain ⟨wo, rfl⟩ : ∃ wo : World, wo = wr := ⟨_, rfl⟩
        go_loopw [8] (fun i wr => ∃ (j : Nat) (es : List (Int × Int)) (v : Value), k + 1 ≤ j ∧ j ≤ n ∧ i = .int .i64 j ∧ Hid (Srt n es ∧ ∀ e ∈ es, ltE e ((k : Int), (j : Int))) ∧ es.length ≤ 64 * k + j ∧ Blk wr gb 25 #[.int .i64 n, v] ∧ Blk wr w.heap.size 25 #[.int .i64 0, .slice none 0 0] ∧ OE wr (gb + 1) v es ∧ Dk wr g ∧ w.grownBy wr (some g)) (fun i _ => n - (intOf i).toNat)
        case atStart => exact ⟨k + 1, es, v, Nat.le_refl _, by omega, by go_num, hse, by omega, hB', hR', ho, hd', hg'⟩
        case round =>
          obtain ⟨j, es2, v2, hkj, hj, rfl, hse2, hlen2, hB2, hR2, ho2, hd2, hg2⟩ := hrel
          clear hB' hR' ho hd' hg' c0 hse hlen
          have c0 := Blk.cell hB2 0
          simp at c0
          by_cases hlt2 : j < n
          · go_wp2_with fail
            refine (next_any g 5 _ hd2 (by omega)).mono ?_
            rintro e w3 ⟨q, rfl, q0, q1, _, hd3, hg3⟩
            replace q1 := q1 (by omega)
            have hs3 := hg3.size
            have hlt3 := hB2.lt
            replace hB2 := Blk.grown hB2 hg3 (by intro e; injection e with e; omega)
            replace hR2 := Blk.grown hR2 hg3 (by intro e; injection e with e; omega)
            replace ho2 := ho2.kept hg3 (by right; intro e; have := (ho2.block_lt _ e).1; omega)
            replace hg2 := grown_trans hg2 hg3
            clear hd2 hg3 c0
            have c1 := Blk.cell hB2 1
            have f1 := Blk.frozen hB2 1
            simp at c1
            by_cases hq : 5 - (1 + y) ≤ q
            · have hq' : decide (5 - (1 + y) ≤ q) = true := by simp; omega
              have hpush := Lib.hid (⟨srt_push hse2.out.1 hse2.out.2 (by omega) (by omega) (by omega), lt_next hse2.out.2⟩ : Srt n (es2 ++ [((k : Int), (j : Int))]) ∧ ∀ e ∈ es2 ++ [((k : Int), (j : Int))], ltE e ((k : Int), (j : Int) + 1))
              go_wp2_with (at_builtin; refine wpList_pushE rfl _ _ rfl rfl rfl (by simp) ho2 (by omega) (by omega) ?_; intro v' w4 ho' hb' hg4; have hB4 := Blk.grown hB2 hg4 (by intro e; have := (ho2.block_lt _ e.symm).1; omega); have c4 := Blk.cell hB4 1; have f4 := Blk.frozen hB4 1; simp at c4; obtain ⟨A4, n4, m4, rfl, hn4, hm4, hc4, hr4, hf4⟩ := ho'.form; replace hn4 := Lib.hid hn4)
              have hs4 := hb'.size
              have hg5 := grown_of_new hg2 hg4 (fun q hq => by have := (ho2.block_lt q hq).1; omega)
              have hB5 := Blk.set hB4 1 (.slice A4 n4 m4)
              simp at hB5
              have hR5 : Blk (w4.setCell ⟨gb, 1, none⟩ (.slice A4 n4 m4)) w.heap.size 25 #[.int .i64 0, .slice none 0 0] := (hR2.below hb' (by omega)).far (by simp; omega) _
              have ho5 := ho'.set_far (p := ⟨gb, 1, none⟩) (by simp) (.slice A4 n4 m4)
              have hd5 := (hd3.below hb' (by omega)).below ((Below.refl gb w4).setCell (p := ⟨gb, 1, none⟩) (Nat.le_refl _) (.slice A4 n4 m4)) (by omega)
              have hg6 := grown_set_new hg5 (p := ⟨gb, 1, none⟩) (by simp; omega) (.slice A4 n4 m4)
              clear hb' hg4 hB4 c4 f4 ho' hg5 ho2 hB2 hR2 hd3 hg2 c1 f1
              go_roundw
              case rel => exact ⟨j + 1, _, _, by omega, by omega, by go_num, hpush, by simp; omega, hB5, hR5, ho5, hd5, hg6⟩
              case measure => simp [intOf]; omega
            · have hq' : decide (5 - (1 + y) ≤ q) = false := by simp; omega
              have hskip := Lib.hid (⟨hse2.out.1, lt_skip hse2.out.2⟩ : Srt n es2 ∧ ∀ e ∈ es2, ltE e ((k : Int), (j : Int) + 1))
              go_wp2
              go_roundw
              case rel => exact ⟨j + 1, es2, v2, by omega, by omega, by go_num, hskip, by omega, hB2, hR2, ho2, hd3, hg2⟩
              case measure => simp [intOf]; omega
          · have hnext := Lib.hid (⟨hse2.out.1, lt_row hse2.out.1 hse2.out.2 (by omega)⟩ : Srt n es2 ∧ ∀ e ∈ es2, ltE e ((k : Int) + 1, (k : Int) + 1 + 1))
            go_wp2
            go_roundw
            case rel => exact ⟨k + 1, es2, v2, by omega, by go_num, hnext, by omega, hB2, hR2, ho2, hd2, hg2⟩
            case measure => simp [intOf]; omega
      · obtain ⟨A4, n4, m4, rfl, hn4, hm4, hc4, hr4, hf4⟩ := ho.form
        replace hn4 := Lib.hid hn4
        have c1 := Blk.cell hB' 1
        simp at c1
        have r0 := Blk.cell hR' 0
        have r1 := Blk.cell hR' 1
        simp at r0 r1
        have f0 := Blk.frozen hR' 0
        have f1 := Blk.frozen hR' 1
        have hlr := hR'.lt
        have ho5 := (ho.set_far (p := ⟨w.heap.size, 0, none⟩) (by simp; omega) (.int .i64 (n : Int))).set_far (p := ⟨w.heap.size, 1, none⟩) (by simp; omega) (.slice A4 n4 m4)
        obtain ⟨hr5, _, hf5⟩ := ho5.re hn4.out
        have hR5 := Blk.set (Blk.set hR' 0 (.int .i64 (n : Int))) 1 (.slice A4 n4 m4)
        simp at hR5
        have s0 := Blk.cell hR5 0
        have s1 := Blk.cell hR5 1
        simp at s0 s1
        have hd5 := (hd'.below ((Below.refl w.heap.size wr).setCell (p := ⟨w.heap.size, 0, none⟩) (Nat.le_refl _) (.int .i64 (n : Int))) hg0).below ((Below.refl w.heap.size _).setCell (p := ⟨w.heap.size, 1, none⟩) (Nat.le_refl _) (.slice A4 n4 m4)) hg0
        have hg5 := grown_set_new (grown_set_new hg' (p := ⟨w.heap.size, 0, none⟩) (Nat.le_refl _) (.int .i64 (n : Int))) (p := ⟨w.heap.size, 1, none⟩) (Nat.le_refl _) (.slice A4 n4 m4)
        have hfin : RetGph w g most (.returned (.agg #[.int .i64 n, .slice A4 n4 m4])) ((wr.setCell ⟨w.heap.size, 0, none⟩ (.int .i64 (n : Int))).setCell ⟨w.heap.size, 1, none⟩ (.slice A4 n4 m4)) :=
          ⟨n, es, A4, n4, m4, rfl, hm4, hr5, hf5.mono (by omega), hse.out.1, hn1, hd5, hg5⟩
        replace hfin := Lib.hid hfin
        clear hr5 hf5 hd5 hg5 ho5 hR5 ho hr4 hf4 hd' hg'
        go_wp2_with fail
        refine bodyPost_ret (v := .agg #[.int .i64 n, .slice A4 n4 m4]) (by simp [results, Tryd.results12, go_sem, s0, s1]) rfl ?_
        exact hfin.out
end Go.Proofs.YticekkjambkifaaDoor
