/- motifs.Of. -/
import Derived.Test.YtkcmbpokoijglaaMotK
set_option linter.unusedVariables false
set_option linter.unusedSimpArgs false
namespace CoMot
def pr (x : Tick) : Step := (x.u, x.v)
/-- What Of answers. -/
def ofR (l : List Tick) : Option (List Step) := if l.length = 0 ∨ 4 < l.length then none else ofL (l.map pr)
theorem ofS_next {l : List Tick} {k : Nat} {x : Tick} {ns : List Int} {m : List Step} (hx : l[k]? = some x) (h : ofS ((l.take k).map pr) = some (ns, m)) :
    (add ns x.u x.v = none → ofL (l.map pr) = none) ∧ (∀ ns' s, add ns x.u x.v = some (ns', s) → ofS ((l.take (k + 1)).map pr) = some (ns', m ++ [s])) := by
  have hl := (List.getElem?_eq_some_iff.1 hx).1
  have e1 : (l.take (k + 1)).map pr = (l.take k).map pr ++ [pr x] := by rw [List.take_add_one, hx]; simp
  have h1 : ofS ((l.take (k + 1)).map pr) = ofT (some (ns, m)) (pr x) := by rw [e1, ofS_snoc, h]
  refine ⟨fun hn => ?_, fun ns' s hs => ?_⟩
  · have h2 : ofS ((l.take (k + 1)).map pr) = none := by rw [h1]; unfold ofT; simp [pr, hn]
    rw [ofL_eq]
    have h3 : l.map pr = (l.take (k + 1)).map pr ++ (l.drop (k + 1)).map pr := by rw [← List.map_append, List.take_append_drop]
    unfold ofS at h2 ⊢
    rw [h3, List.foldl_append, h2, foldl_none]; rfl
  · rw [h1]; unfold ofT; simp [pr, hs]
theorem add_le {l l' : List Int} {a b : Int} {s : Step} (h : add l a b = some (l', s)) : l'.length ≤ l.length + 1 ∨ (l = [] ∧ l'.length = 2) := by
  have h1 := add_vs h
  by_cases h0 : l = []
  · subst h0
    unfold add at h
    simp only [if_true] at h
    split at h
    · injection h with h; injection h with h2 h3; subst h2; exact .inr ⟨rfl, rfl⟩
    · cases h
  · left
    unfold vs at h1
    rw [if_neg (fun e => h0 (List.eq_nil_of_length_eq_zero e))] at h1
    split at h1
    · cases h1
    · injection h1 with h1
      rename_i h2
      split at h1 <;> omega
theorem ofS_le : ∀ r ns m, ofS r = some (ns, m) → ns.length ≤ r.length + 1 := by
  intro r
  induction r using snocI with
  | h0 => intro ns m h; simp [ofS] at h; simp [h.1]
  | h1 r x ih =>
    intro ns m h
    rw [ofS_snoc] at h
    obtain ⟨ns1, m1, ns', s, h1, h2, h3⟩ := ofT_some h
    have h4 := ih _ _ h1
    injection h3 with h3 h5
    subst h3
    rcases add_le h2 with h6 | ⟨h6, h7⟩
    · simp; omega
    · simp [h7]
end CoMot
namespace Go.Proofs.Ytkcmbpokoijglaa
open Go.RowKit CoMot

theorem ownNe {α : Type} {E : El α} {t : TypeId} {w : World} {B g : Nat} {v : Value} {xs : List α} (h : OS E t w B v xs) (hg : g < B) : v.ownBlock = none ∨ v.ownBlock ≠ some g := by
  cases hv : v.ownBlock with
  | none => exact .inl rfl
  | some k => exact .inr (fun e => by injection e with e; have := (h.block_lt k hv).1; omega)
def RetOf (w : World) (l : List Tick) (e : Ending) (w' : World) : Prop := ∃ A n c, e = .returned (.tuple #[.slice A n c, .bool (ofR l).isSome]) ∧ n ≤ c ∧ RS SE w' A n ((ofR l).getD []) ∧ Below w.heap.size w w' ∧ Fr w.heap.size A
theorem RetOf.none_ {w w' : World} {l : List Tick} (h : Hid (ofR l = none)) (hb : Below w.heap.size w w') : RetOf w l (.returned (.tuple #[.slice none 0 0, .bool false])) w' :=
  ⟨none, 0, 0, by rw [h.out]; rfl, Nat.le_refl _, by rw [h.out]; exact RS.none_, hb, Fr.none_⟩
theorem NM.new {w : World} : NM (w.alloc (.cells #[.int .i64 0, .int .i64 0, .int .i64 0, .int .i64 0, .int .i64 0, .int .i64 0] 69)) w.heap.size [] := ⟨[0, 0, 0, 0, 0], rfl, Blk.new w _ _, rfl, by simp⟩
set_option maxRecDepth 100000 in
set_option maxHeartbeats 4000000 in
theorem mofL_any (A : Option Addr) (n c : Nat) (l : List Tick) (w : World) (h : RS TE w A n l) (hn : n ≤ 1099511627776) :
    Calls Try.prog 15 #[.slice A n c] w (RetOf w l) := by
  have hl := h.len
  by_cases h0 : n = 0
  · have hR : Hid (ofR l = none) := Lib.hid (by unfold ofR; rw [if_pos (.inl (by omega))])
    subst h0
    clear hl
    go_enter Try.func15, Try.ntmps15
    go_wp2_with fail
    go_ret2
    exact RetOf.none_ hR (Below.refl _ _)
  by_cases h4 : 4 < n
  · have hR : Hid (ofR l = none) := Lib.hid (by unfold ofR; rw [if_pos (.inr (by omega))])
    have q1 : ((n : Int) == 0) = false := by simp; omega
    have q2 : decide ((4 : Int) < (n : Int)) = true := by simp; omega
    clear hl
    go_enter Try.func15, Try.ntmps15
    go_wp2_with fail
    go_ret2
    exact RetOf.none_ hR (Below.refl _ _)
  have hR : Hid (ofR l = ofL (l.map pr)) := Lib.hid (by unfold ofR; rw [if_neg (by omega)])
  have q1 : ((n : Int) == 0) = false := by simp; omega
  have q2 : decide ((4 : Int) < (n : Int)) = false := by simp; omega
  replace hl := Lib.hid hl
  go_enter Try.func15, Try.ntmps15
  go_wp2_with fail
  go_loopw [5, 20] (fun o i wr => ∃ (v : Value) (k : Nat) (ns : List Int) (m : List Step), v = o ∧ i = .int .i64 k ∧ k ≤ n ∧ Hid (ofS ((l.take k).map pr) = some (ns, m)) ∧ NM wr w.heap.size ns ∧ OS SE 34 wr (w.heap.size + 1) v m ∧ m.length ≤ k ∧ ns.length ≤ k + 1 ∧ Below w.heap.size w wr ∧ w.heap.size + 1 ≤ wr.heap.size) (fun _ i _ => n - (intOf i).toNat)
  case atStart => exact ⟨_, 0, [], [], rfl, rfl, Nat.zero_le _, Lib.hid rfl, NM.new, OS.nil_, by simp, by simp, (Below.refl _ _).alloc (Nat.le_refl _) _, by simp⟩
  case round =>
    obtain ⟨v, k, ns, m, rfl, rfl, hk, hof, hN, ho, hml, hnl, hb, hs⟩ := hrel
    by_cases hlt : k < n
    · obtain ⟨ad, x, y, t, rfl, hbl, hy, hdr, c0, c1, c2⟩ := (h.below hb (Nat.le_refl _)).tk' hlt
      have hnx := ofS_next hy hof.out
      have kd := Lib.hid fun W h => nadd_any w.heap.size x y ns W h (by omega)
      have i2 : (0 : Int) ≤ (k : Int) := Int.natCast_nonneg _
      have i3 : (k : Int) < (n : Int) := by omega
      clear hy hdr hof
      go_wp2_with fail
      have hN1 := hN.alloc (.cells #[.int .i64 x, .int .i64 y, .int .i64 t] 33)
      have hb1 := hb.alloc (by omega) (.cells #[.int .i64 x, .int .i64 y, .int .i64 t] 33)
      have ho1 := ho.alloc (.cells #[.int .i64 x, .int .i64 y, .int .i64 t] 33)
      have hs1 : w.heap.size + 1 ≤ (wr.alloc (.cells #[.int .i64 x, .int .i64 y, .int .i64 t] 33)).heap.size := by simp; omega
      clear hN hb ho hs c0 c1 c2 hbl
      (with_reducible refine (kd.out _ hN1).mono ?_)
      generalize (wr.alloc (.cells #[.int .i64 x, .int .i64 y, .int .i64 t] 33)) = wz at *
      rintro e w2 ⟨hg2, hh⟩
      have hb2 := hb1.grown hg2 (by omega) (fun k hk => by injection hk with hk; omega)
      have ho2 := ho1.kept hg2 (ownNe ho1 (by omega))
      have hs2 : w.heap.size + 1 ≤ w2.heap.size := Nat.le_trans hs1 hg2.size
      clear kd hb1 ho1 hs1 hg2 hN1
      rcases hh with ⟨hadd, rfl, hN2⟩ | ⟨ns', a, b, hadd, rfl, hN2⟩
      · have hfin : Hid (ofR l = none) := Lib.hid (hR.out.trans (hnx.1 hadd))
        clear hadd hnx
        go_wp2_with fail
        go_ret2
        exact RetOf.none_ hfin (hb2.alloc (by omega) _)
      · have hof2 := Lib.hid (hnx.2 _ _ hadd)
        have hnl2 : ns'.length ≤ k + 2 := by
          have := add_le hadd
          rcases this with h1 | ⟨h1, h2⟩ <;> omega
        clear hadd hnx
        have hN3 := hN2.alloc (.cells #[.int .i64 a, .int .i64 b] 34)
        have hb3 := hb2.alloc (by omega) (.cells #[.int .i64 a, .int .i64 b] 34)
        have ho3 := ho2.alloc (.cells #[.int .i64 a, .int .i64 b] 34)
        have hs3 : w.heap.size + 1 ≤ (w2.alloc (.cells #[.int .i64 a, .int .i64 b] 34)).heap.size := by simp; omega
        go_wp2_with (at_builtin; (refine wpList_push1G tyS (y := (a, b)) rfl rfl _ _ rfl rfl rfl (by simp) ho3 (by omega) (by omega) hs3 ?_); intro v4 w4 ho4 hb4 hg4x)
        go_roundw
        case rel => exact ⟨_, k + 1, ns', m ++ [(a, b)], rfl, by go_num, by omega, hof2, hN3.below hb4 (by omega), ho4, by simp; omega, by omega, hb3.trans (hb4.mono (by omega)), Nat.le_trans hs3 hb4.size⟩
        case measure => simp [intOf]; omega
    · have i3 : ¬ (k : Int) < (n : Int) := by omega
      have hfin : Hid (ofR l = some m) := Lib.hid (by
        rw [hR.out, ofL_eq]
        have := hof.out
        rw [List.take_of_length_le (by rw [hl.out]; omega)] at this
        rw [this]; rfl)
      obtain ⟨A1, n1, c1, rfl, -, hc1, hc2, hr1, hf1⟩ := ho.form
      clear hof
      go_wp2_with fail
      go_ret2
      exact ⟨A1, n1, c1, by rw [hfin.out]; rfl, hc1, by rw [hfin.out]; exact hr1, hb, hf1.mono (by omega)⟩
end Go.Proofs.Ytkcmbpokoijglaa
