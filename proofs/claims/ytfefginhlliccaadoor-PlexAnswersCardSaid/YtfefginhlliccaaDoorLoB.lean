/- Lists of lists, with the blocks in which they lie (for any seat). -/
import Derived.Test.YtfefginhlliccaaDoorOwnB
import Derived.Test.YtfefginhlliccaaDoorGll
set_option linter.unusedVariables false
set_option linter.unusedSimpArgs false
namespace Go.Proofs.YtfefginhlliccaaDoor.Pl
open Go.RowKit Go.Proofs.YtfefginhlliccaaDoor
variable {α : Type}

theorem RS.same {E : El α} {W W' : World} {A : Option Addr} {n : Nat} {xs : List α} {ex : Nat → Prop} (h : RS E W A n xs) (hs : Same ex W W') (hx : ∀ ad, A = some ad → 0 < n → ¬ ex ad.block) : RS E W' A n xs :=
  ⟨h.1, fun hp => by
    obtain ⟨ad, he, hb, hc⟩ := h.2 hp
    exact ⟨ad, he, Nat.lt_of_lt_of_le hb hs.size, fun j u hu => (World.cell?_of_block (hs.block (ad.add j).block (by rw [block_of_add]; exact hb) (by rw [block_of_add]; exact hx ad he hp))).trans (hc j u hu)⟩⟩
/-- The slice v holds the lists L; all of it lies in the blocks Q. -/
structure LO (E : El α) (t : TypeId) (W : World) (v : Value) (L : List (List α)) (Q : Nat → Prop) : Prop where
  lt : ∀ k, Q k → k < W.heap.size
  own : ∀ k, v.ownBlock = some k → Q k
  row : ∃ vs : List Value, W.ownsRow 0 t 1 v L.length vs ∧ vs.length = L.length ∧ ∀ (i : Nat) (u : Value) (ys : List α), vs[i]? = some u → L[i]? = some ys → ∃ A k c, u = .slice A k c ∧ k ≤ c ∧ RS E W A k ys ∧ ∀ ad, A = some ad → 0 < k → some ad.block ≠ v.ownBlock ∧ Q ad.block
section
variable {E : El α} {t : TypeId} {W W' : World} {v : Value} {L : List (List α)} {Q : Nat → Prop}
theorem LO.nil_ : LO E t W (.slice none 0 0) [] (fun _ => False) := ⟨fun _ h => h.elim, fun k h => (by cases h), [], World.ownsRow_nil _ _ _ _, rfl, fun i u ys h => by simp at h⟩
theorem own_same {B len es : Nat} {vals : List Value} {ex : Nat → Prop} (h : W.ownsRow B t es v len vals) (hs : Same ex W W') (hx : ∀ k, v.ownBlock = some k → ¬ ex k) : W'.ownsRow B t es v len vals := by
  obtain ⟨h1, h2 | ⟨g, cap, cur, e1, e2, e3, e4⟩⟩ := h
  · exact ⟨h1, .inl h2⟩
  · have hlt : g < W.heap.size := by
      rcases Nat.lt_or_ge g W.heap.size with hlt | hge
      · exact hlt
      · rw [Array.getElem?_eq_none hge] at e3; cases e3
    subst e1
    exact ⟨h1, .inr ⟨g, cap, cur, rfl, e2, (hs.block g hlt (hx g rfl)).trans e3, e4⟩⟩
theorem LO.keep (h : LO E t W v L Q) (hs : Same (fun k => ¬ Q k) W W') : LO E t W' v L Q := by
  obtain ⟨vs, h1, h2, h3⟩ := h.row
  refine ⟨fun k hk => Nat.lt_of_lt_of_le (h.lt k hk) hs.size, h.own, vs, own_same h1 hs (fun k hk hn => hn (h.own k hk)), h2, fun i u ys hu hy => ?_⟩
  obtain ⟨A, k, c, e1, e2, e3, e4⟩ := h3 i u ys hu hy
  exact ⟨A, k, c, e1, e2, RS.same e3 hs (fun ad he hp hn => hn (e4 ad he hp).2), e4⟩
theorem LO.len (h : LO E t W v L Q) : ∃ A c, v = .slice A L.length c ∧ L.length ≤ c ∧ RL E W A L.length L := by
  obtain ⟨vs, h1, h2, h3⟩ := h.row
  obtain ⟨A, c, rfl, h4, h5⟩ := own_form h1
  refine ⟨A, c, rfl, h4, vs, Reads.of_own h1, rfl, fun i u ys hu hy => ?_⟩
  obtain ⟨A', k, c', e1, e2, e3, _⟩ := h3 i u ys hu hy
  exact ⟨A', k, c', e1, e2, e3⟩
set_option maxRecDepth 100000 in
theorem LO.push {st ty : TypeId} (hst : Tryd.prog.underlying st = some (.slice t)) (hti : (Tryd.prog.info? t).map (fun i => (i.zero, i.size, i.bytes)) = some (some (.slice none 0 0), 1, 24)) (h : LO E t W v L Q) {H k c : Nat} {A : Option Addr} {ys : List α} (hk : k ≤ c)
    (hr : RS E W A k ys) (hA : ∀ ad, A = some ad → 0 < k → some ad.block ≠ v.ownBlock) (hH : Reads W W.heap.size 1 (some ⟨H, 0, none⟩) 1 [.slice A k c]) (hn : L.length ≤ 1099511627776) :
    ∃ v' w' Q', (Builtin.append_ #[st, st] ty #[v, .slice (some ⟨H, 0, none⟩) 1 1]).run Tryd.prog W = .ok v' w' ∧ LO E t w' v' (L ++ [ys]) Q' ∧ Same (fun k => v.ownBlock = some k) W w' ∧ ∀ b, Q' b → Q b ∨ (∃ ad, A = some ad ∧ 0 < k ∧ ad.block = b) ∨ W.heap.size ≤ b := by
  obtain ⟨i0, hi0, hz0, hz1, hz2⟩ := info_parts hti
  obtain ⟨vs, h1, h2, h3⟩ := h.row
  obtain ⟨v', w', e1, e2, e3, e4⟩ := run_append_any (P := Tryd.prog) W 0 st ty t i0 _ 1 24 hst hi0 hz0 hz1 hz2 rfl (by omega) v L.length vs h1 W.heap.size (some ⟨H, 0, none⟩) 1 1 [.slice A k c] hH (by intro u hu; rw [List.mem_singleton] at hu; subst hu; rfl) (by unfold maxLen; omega) (by omega) (Nat.zero_le _)
  have hS : Same (fun k => v.ownBlock = some k) W w' := Same.of_grown e3
  have hlt' : ∀ b, v'.ownBlock = some b → b < w'.heap.size := fun b hb => (World.ownsRow.lt e2 b hb).2
  refine ⟨v', w', fun b => Q b ∨ (∃ ad, A = some ad ∧ 0 < k ∧ ad.block = b) ∨ v'.ownBlock = some b, e1, ⟨fun b hb => ?_, fun b hb => .inr (.inr hb), vs ++ [.slice A k c], by rw [List.length_append]; exact e2, by simp [h2], fun i u zs hu hz => ?_⟩, hS, fun b hb => ?_⟩
  · rcases hb with hb | ⟨ad, rfl, hp, rfl⟩ | hb
    · exact Nat.lt_of_lt_of_le (h.lt b hb) hS.size
    · obtain ⟨ad', he, hb⟩ := hr.block_lt hp
      injection he with he; subst he
      exact Nat.lt_of_lt_of_le hb hS.size
    · exact hlt' b hb
  · have hold : ∃ A' k' c', u = .slice A' k' c' ∧ k' ≤ c' ∧ RS E W A' k' zs ∧ ∀ ad, A' = some ad → 0 < k' → some ad.block ≠ v.ownBlock ∧ (Q ad.block ∨ ∃ ad', A = some ad' ∧ 0 < k ∧ ad'.block = ad.block) := by
      rcases Nat.lt_or_ge i L.length with hi | hi
      · rw [List.getElem?_append_left (by omega)] at hu hz
        obtain ⟨A', k', c', f1, f2, f3, f4⟩ := h3 i u zs hu hz
        exact ⟨A', k', c', f1, f2, f3, fun ad he hp => ⟨(f4 ad he hp).1, .inl (f4 ad he hp).2⟩⟩
      · rw [List.getElem?_append_right (by omega)] at hu hz
        rw [h2] at hu
        cases hd : i - L.length with
        | zero =>
          rw [hd] at hu hz
          injection hu with hu; injection hz with hz
          subst hu; subst hz
          exact ⟨A, k, c, rfl, hk, hr, fun ad he hp => ⟨hA ad he hp, .inr ⟨ad, he, hp, rfl⟩⟩⟩
        | succ j => rw [hd] at hu; simp at hu
    obtain ⟨A', k', c', f1, f2, f3, f4⟩ := hold
    refine ⟨A', k', c', f1, f2, RS.same f3 hS (fun ad he hp hx => (f4 ad he hp).1 hx.symm), fun ad he hp => ⟨fun hx => ?_, ?_⟩⟩
    · rcases e4 with e4 | e4
      · rw [e4] at hx; exact (f4 ad he hp).1 hx
      · rw [e4] at hx; injection hx with hx
        obtain ⟨ad', he', hb'⟩ := f3.block_lt hp
        rw [he] at he'; injection he' with he'; subst he'; omega
    · rcases (f4 ad he hp).2 with h8 | h8
      · exact .inl h8
      · exact .inr (.inl h8)
  · rcases hb with hb | hb | hb
    · exact .inl hb
    · exact .inr (.inl hb)
    · rcases e4 with e4 | e4
      · rw [e4] at hb; exact .inl (h.own b hb)
      · rw [e4] at hb; injection hb with hb; exact .inr (.inr (by omega))
end
theorem reads_one {W : World} {u : Value} {T : TypeId} {H : Nat} (h : Blk W H T #[u]) : Reads W W.heap.size 1 (some ⟨H, 0, none⟩) 1 [u] := by
  refine ⟨rfl, fun _ => ⟨_, rfl, h.lt, fun j x hx => ?_⟩⟩
  cases j with
  | zero => injection hx with hx; subst hx; exact Blk.cell h 0
  | succ j => simp at hx
/-- In a fenced walk: append of one list, laid in a new block. -/
theorem wpListIn_pushLO {E : El α} {st t : TypeId} (hst : Tryd.prog.underlying st = some (.slice t)) (hti : (Tryd.prog.info? t).map (fun i => (i.zero, i.size, i.bytes)) = some (some (.slice none 0 0), 1, 24)) {F : Fence} {nn : Nat} {ops : Array Oper} {rest : List Oper} {o : Oper} {a : Act} {QQ : Exit → Act → World → Prop} {W : World} {H : Nat} {v : Value} {L : List (List α)} {Q : Nat → Prop} {A : Option Addr} {k c : Nat} {ys : List α}
    (hgd : o.guard = none) (s x : Operand) (ho : o.op = .call { callee := .builtin .append, args := #[s, x], argTypes := #[st, st] })
    (hs : a.eval s = v) (hx : a.eval x = .slice (some ⟨H, 0, none⟩) 1 1) (h : LO E t W v L Q) (hk : k ≤ c) (hr : RS E W A k ys) (hA : ∀ ad, A = some ad → 0 < k → some ad.block ≠ v.ownBlock) (hH : Reads W W.heap.size 1 (some ⟨H, 0, none⟩) 1 [.slice A k c]) (hn : L.length ≤ 1099511627776)
    (hK : ∀ v' w' Q', LO E t w' v' (L ++ [ys]) Q' → Same (fun k => v.ownBlock = some k) W w' → (∀ b, Q' b → Q b ∨ (∃ ad, A = some ad ∧ 0 < k ∧ ad.block = b) ∨ W.heap.size ≤ b) → wpListIn F nn Tryd.prog ops QQ rest (a.put o.dst v') w') :
    wpListIn F nn Tryd.prog ops QQ (o :: rest) a W := by
  refine wpListIn_plain hgd fun K hK' => ?_
  obtain ⟨v', w', Q2, hrun, h2, h3, h4⟩ := h.push (ty := o.type) hst hti hk hr hA hH hn
  unfold Oper.wpIn
  refine ⟨?_, ?_⟩
  · simp [Oper.about, ho, resolve, Target.leads, Sem.run_pure]
  · rw [Oper.semAt_plain F _ _ (by rw [ho]; intro c hc'; cases hc')]
    simp [execOp, ho, resolve, invoke, builtin, hs, hx, hrun, Result.andThen]
    exact hK' _ _ (hK v' w' Q2 h2 h3 h4)
theorem IE_all (xs : List Int) : IE.all xs = ints xs := by
  induction xs with
  | nil => rfl
  | cons x xs ih => rw [El.all_cons, ih]; rfl
theorem rs_ri {w : World} {A : Option Addr} {n : Nat} {xs : List Int} : RS IE w A n xs ↔ RI w A n xs := by
  unfold RS RI
  rw [IE_all]; exact Iff.rfl
end Go.Proofs.YtfefginhlliccaaDoor.Pl
