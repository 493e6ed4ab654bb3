/- The reference's find: plain facts, and what it leaves. -/
import Derived.Test.YtkcmbpokoijglaaMobD
import Derived.Test.YtkcmbpokoijglaaMoaG
import Derived.Test.YtkcmbpokoijglaaMotS
import Derived.Test.YtkcmbpokoijglaaMotO
set_option linter.unusedVariables false
set_option linter.unusedSimpArgs false
namespace CoMot
/-- What tick i gives. -/
def fO (l : List Tick) (w : Int) (M : List Step) (k : Nat) (a : List Nat) (i : Nat) : List (List Nat) :=
  match l[i]? with
    | none => []
    | some x => if nextB l w a x i = true then fnd l w M k (a ++ [i]) else []
theorem fnd_succ (l : List Tick) (w : Int) (M : List Step) (k : Nat) (a : List Nat) : fnd l w M (k + 1) a = (List.range l.length).flatMap (fO l w M k a) := rfl
theorem fO_low {l : List Tick} {w : Int} {M : List Step} {k : Nat} {a : List Nat} {i : Nat} (h : i < stA a) : fO l w M k a i = [] := by
  unfold fO
  cases l[i]? with
  | none => rfl
  | some x =>
    simp only
    rw [if_neg]
    intro hn
    unfold nextB at hn
    unfold stA at h
    cases h1 : a.head? with
    | none =>
      have : a = [] := List.head?_eq_none_iff.1 h1
      subst this; simp at h
    | some a0 =>
      cases h2 : a.getLast? with
      | none => rw [h2] at h; simp at h
      | some b =>
        rw [h1, h2] at hn
        rw [h2] at h
        simp at hn h
        omega
theorem fO_pre {l : List Tick} {w : Int} {M : List Step} {k : Nat} {a : List Nat} : ∀ j, j ≤ stA a → (List.range j).flatMap (fO l w M k a) = [] := by
  intro j
  induction j with
  | zero => intro _; rfl
  | succ j ih =>
    intro hj
    rw [List.range_succ, List.flatMap_append, ih (by omega), List.flatMap_singleton, fO_low (by omega)]; rfl
theorem fO_next (l : List Tick) (w : Int) (M : List Step) (k : Nat) (a : List Nat) (i : Nat) : (List.range (i + 1)).flatMap (fO l w M k a) = (List.range i).flatMap (fO l w M k a) ++ fO l w M k a i := by
  rw [List.range_succ, List.flatMap_append, List.flatMap_singleton]
theorem fO_len (l : List Tick) (w : Int) (M : List Step) (k : Nat) (a : List Nat) {i : Nat} (hi : i ≤ l.length) : ((List.range i).flatMap (fO l w M k a)).length ≤ (fnd l w M (k + 1) a).length := by
  rw [fnd_succ]
  obtain ⟨r, hr⟩ : ∃ r, l.length = i + r := ⟨l.length - i, by omega⟩
  rw [hr, List.range_add, List.flatMap_append, List.length_append]
  omega
theorem leaf_fnd {l : List Tick} {w : Int} {M : List Step} {a : List Nat} (h1 : 1 ≤ a.length) (h4 : a.length ≤ 4) : fnd l w M 0 a = if ofR (tks l a) = some M then [a] else [] := by
  have e : ofR (tks l a) = ofL (ends l a) := by unfold ofR; rw [tks_len, tks_ends, if_neg (by omega)]
  rw [e]; rfl
theorem next_nil {l : List Tick} {w : Int} {x : Tick} {i : Nat} (h : 0 ≤ x.t) : nextB l w [] x i = true := by
  unfold nextB; simp; omega
theorem next_cons {l : List Tick} {w : Int} {x : Tick} {i a0 b : Nat} {a : List Nat} (h0 : a[0]? = some a0) (hb : a[a.length - 1]? = some b) (hi : stA a ≤ i) : nextB l w a x i = (decide (tim l b < x.t) && decide (x.t - tim l a0 ≤ w)) := by
  have e1 : a.head? = some a0 := by rw [List.head?_eq_getElem?]; exact h0
  have e2 : a.getLast? = some b := by rw [List.getLast?_eq_getElem?]; exact hb
  unfold stA at hi
  rw [e2] at hi
  unfold nextB
  rw [e1, e2]
  simp only at hi ⊢
  rw [decide_eq_true (show b < i by omega), Bool.true_and, Bool.and_comm]
  rfl
end CoMot
namespace Go.Proofs.Ytkcmbpokoijglaa
open Go.RowKit CoMot

theorem wrap_dec {p : Nat} (h : 0 < p) (h2 : p ≤ 100) : wrap64 ((p : Int) - 1) = ((p - 1 : Nat) : Int) := by unfold wrap64; omega
theorem wrap_inc {p : Nat} (h2 : p ≤ 100000) : wrap64 ((p : Int) + 1) = ((p + 1 : Nat) : Int) := by unfold wrap64; omega
theorem wrap_mid {a : Int} (h : -3000000 ≤ a) (h2 : a ≤ 3000000) : IntKind.i64.wrap a = a := IntWalk.i64_in _ ⟨by omega, by omega⟩
/-- append of one list, laid in a new block. -/
theorem wpList_pushLO {α : Type} {E : El α} {st t : TypeId} (hst : Try.prog.underlying st = some (.slice t)) (hti : (Try.prog.info? t).map (fun i => (i.zero, i.size, i.bytes)) = some (some (.slice none 0 0), 1, 24)) {ops : Array Oper} {rest : List Oper} {o : Oper} {a : Act} {Q' : Exit → Act → World → Prop} {W : World} {H : Nat} {v : Value} {L : List (List α)} {Q : Nat → Prop} {A : Option Addr} {k c : Nat} {ys : List α}
    (hw : Region.wanted o (yielded ops a.tmps) = true) (s x : Operand) (ho : o.op = .call { callee := .builtin .append, args := #[s, x], argTypes := #[st, st] })
    (hs : a.eval s = v) (hx : a.eval x = .slice (some ⟨H, 0, none⟩) 1 1) (h : LO E t W v L Q) (hk : k ≤ c) (hr : RS E W A k ys) (hA : ∀ ad, A = some ad → 0 < k → some ad.block ≠ v.ownBlock) (hH : Reads W W.heap.size 1 (some ⟨H, 0, none⟩) 1 [.slice A k c]) (hn : L.length ≤ 1099511627776)
    (hK : ∀ v' w' Q2, LO E t w' v' (L ++ [ys]) Q2 → Same (fun k => v.ownBlock = some k) W w' → (∀ b, Q2 b → Q b ∨ (∃ ad, A = some ad ∧ 0 < k ∧ ad.block = b) ∨ W.heap.size ≤ b) → wpList Try.prog ops Q' rest (a.put o.dst v') w') :
    wpList Try.prog ops Q' (o :: rest) a W := by
  refine wpList_step fun K hq => ?_
  exact step_pushLO hst hti hw s x ho hs hx h hk hr hA hH hn fun v' w' Q2 h1 h2 h3 => hq _ _ (hK v' w' Q2 h1 h2 h3)
/-- What find leaves. -/
def RetFd (W : World) (out : Value) (L : List (List Nat)) (Q : Nat → Prop) (C : Option Addr) (p : Nat) (res : List (List Nat)) (r : Ending) (W' : World) : Prop :=
  ∃ out' Q', r = .returned out' ∧ LO NE 22 W' out' (L ++ res) Q' ∧ Same Q W W' ∧ ∀ b, Q' b → Q b ∨ (∃ ad, C = some ad ∧ 0 < p ∧ ad.block = b) ∨ W.heap.size ≤ b
theorem RS.lo {α : Type} {E : El α} {W W' : World} {A : Option Addr} {n : Nat} {xs : List α} {Q : Nat → Prop} (h : RS E W A n xs) (hs : Same Q W W') (hA : ∀ ad, A = some ad → 0 < n → ¬ Q ad.block) : RS E W' A n xs :=
  h.same hs fun ad he hp hx => hA ad he hp hx
set_option maxRecDepth 100000 in
set_option maxHeartbeats 8000000 in
/-- find where all indices are there. -/
theorem rfind_leaf (A B C : Option Addr) (n c m d p q : Nat) (l : List Tick) (M : List Step) (wd : Int) (a : List Nat) (out : Value) (L : List (List Nat)) (Q : Nat → Prop) (W : World) (h : RS TE W A n l) (h' : RS SE W B m M) (ha : RS NE W C p a) (hpq : p ≤ q) (hl : LO NE 22 W out L Q)
    (hC : ∀ ad, C = some ad → 0 < p → ¬ Q ad.block) (hm1 : 1 ≤ m) (hm4 : m ≤ 4) (hpm : p = m) (hin : ∀ i ∈ a, i < n) (hL : L.length ≤ 1000000000) :
    Calls Try.prog 54 #[.slice A n c, .slice B m d, .int .i64 wd, .slice C p q, out] W (RetFd W out L Q C p (fnd l wd M 0 a)) := by
  have hal := ha.len
  have hleaf := Lib.hid (leaf_fnd (l := l) (w := wd) (M := M) (a := a) (by omega) (by omega))
  have ko := Lib.hid fun A n c l w h hn => rof_any A n c l w h hn
  have ks := Lib.hid fun A B n k c d xs ys w h h' hn => rsame_any A B n k c d xs ys w h h' hn
  obtain ⟨Ao, co, hov, hoc, -⟩ := hl.len
  subst hpm
  replace hal := Lib.hid hal
  subst hov
  go_enter Try.func54, Try.ntmps54
  go_wp2_with fail
  go_loopw [11, 12] (fun o i wr => ∃ (v : Value) (k : Nat), v = o ∧ i = .int .i64 (k : Int) ∧ k ≤ p ∧ OS TE 33 wr W.heap.size v (tks l (a.take k)) ∧ Below W.heap.size W wr) (fun _ i _ => p - (intOf i).toNat)
  case atStart => exact ⟨_, 0, rfl, rfl, Nat.zero_le _, OS.nil_, Below.refl _ _⟩
  case round =>
    obtain ⟨v, k, rfl, rfl, hk, ho, hb⟩ := hrel
    by_cases hlt : k < p
    · obtain ⟨bd, x, rfl, hbl2, hx, hcx⟩ := (ha.below hb (Nat.le_refl _)).nat hlt
      have hxn : x < n := hin x (List.mem_of_getElem? hx.out)
      obtain ⟨td, a1, a2, a3, rfl, hbl3, htx, -, q0, q1, q2⟩ := (h.below hb (Nat.le_refl _)).tk' hxn
      have hbk := Lib.hid (tks_take hx.out htx)
      have hlen9 : (tks l (a.take k)).length ≤ 4 := by rw [tks_len, List.length_take]; omega
      have j2 : (0 : Int) ≤ (k : Int) := Int.natCast_nonneg _
      have j3 : (k : Int) < (p : Int) := by omega
      have j4 : (0 : Int) ≤ (x : Int) := Int.natCast_nonneg _
      have j5 : (x : Int) < (n : Int) := by omega
      have hbs := hb.size
      clear htx hx
      go_wp2_with (at_builtin; (refine wpList_push1G tyT (y := ⟨a1, a2, a3⟩) rfl rfl _ _ rfl rfl rfl rfl ho (by omega) (by omega) hbs ?_); intro v6 w10 ho6 hb10 hg10)
      go_roundw
      case rel => exact ⟨_, k + 1, rfl, by go_num, by omega, by rw [hbk.out]; exact ho6, hb.trans hb10⟩
      case measure => simp [intOf]; omega
    · obtain rfl : k = p := by omega
      rw [List.take_of_length_le (by rw [hal.out]; exact Nat.le_refl _)] at ho
      obtain ⟨A2, n2, c2, rfl, hn2, hc2, -, hr2, -⟩ := ho.form
      have hn24 : n2 ≤ 4 := by rw [hn2, tks_len, hal.out]; exact hm4
      replace hn2 := Lib.hid hn2
      have ko1 := Lib.hid (ko.out A2 n2 c2 (tks l a) wr hr2 (by omega))
      have h'r := h'.below hb (Nat.le_refl _)
      clear ho ko
      go_wp2_with fail
      (with_reducible refine (ko1.out).mono ?_)
      rintro e w11 ⟨A4, n4, c4, rfl, hc4, hr4, hb11, -⟩
      have hbb := hb.trans (hb11.mono hb.size)
      have hS := Same.of_below hbb (Nat.le_refl _) (fun _ => False)
      have h'r1 := h'r.below hb11 (Nat.le_refl _)
      have hlw := hl.keep (hS.mono (fun _ _ h => h.elim))
      have har := ha.below hbb (Nat.le_refl _)
      clear ko1 hb11 hb hr2 h'r
      cases hof : ofR (tks l a) with
      | none =>
        have hR := hleaf.out
        rw [hof, if_neg (by simp)] at hR
        replace hR := Lib.hid hR
        clear hr4 hof
        go_wp2_with fail
        go_ret
        rw [hR.out]
        exact ⟨_, Q, rfl, by rw [List.append_nil]; exact hlw, hS.mono (fun _ _ h => h.elim), fun b hb => .inl hb⟩
      | some X =>
        rw [hof] at hr4
        replace hr4 : RS SE w11 A4 n4 X := hr4
        have hX : n4 ≤ 1099511627776 := by
          have h1 := hr4.len
          have h2 : X.length = (tks l a).length := by
            unfold ofR at hof
            split at hof
            · cases hof
            · have := ofL_len hof
              rw [this, List.length_map]
          rw [tks_len, hal.out] at h2
          omega
        have ks1 := Lib.hid (ks.out A4 B n4 k c4 d X M w11 hr4 h'r1 hX)
        clear ks
        by_cases hXM : X = M
        · have hR := hleaf.out
          rw [hof, if_pos (by rw [hXM])] at hR
          rw [decide_eq_true hXM] at ks1
          replace hR := Lib.hid hR
          replace hXM := Lib.hid hXM
          clear hof hr4 hX
          go_wp2_with fail
          (with_reducible refine (ks1.out).mono ?_)
          rintro e w12 ⟨rfl, hb12⟩
          have hS2 := hS.trans (Same.of_below hb12 (Nat.le_refl _) (fun _ => False)) (fun _ _ h => h)
          have hlw2 := hlw.keep ((Same.of_below hb12 (Nat.le_refl _) (fun _ => False)).mono (fun _ _ h => h.elim))
          have har2 := har.below hb12 (Nat.le_refl _)
          have hlw3 := hlw2.keep ((Same.refl _ w12).alloc (.cells #[.slice C k q] 22))
          have har3 := har2.alloc (.cells #[.slice C k q] 22)
          have hS3 := hS2.alloc (.cells #[.slice C k q] 22)
          have hsz3 := hS3.size
          have hown : Hid (∀ ad, C = some ad → 0 < k → some ad.block ≠ (Value.slice Ao L.length co).ownBlock) := Lib.hid fun ad he hp hx => hC ad he hp (hl.own _ hx.symm)
          clear hlw hlw2 har har2 hS hS2 hb12 hbb h'r1 h h' ha
          go_wp2_with (at_builtin; (go_loud (refine wpList_pushLO (H := w12.heap.size) Try.underlying42 (by kernel_rfl) (by rfl) (.tmp 49) (.tmp 51) (by rfl) (by rfl) (by rfl) hlw3 hpq har3 hown.out (reads_one (Blk.new _ _ _)) (by omega) ?_)); intro v7 w7 Q7 hl7 hg7 hq7)
          go_ret
          rw [hR.out]
          refine ⟨_, Q7, rfl, hl7, (hS3.mono (fun _ _ h => h.elim)).trans hg7 (fun b _ hb => hl.own b hb), fun b hb => ?_⟩
          rcases hq7 b hb with h1 | h1 | h1
          · exact .inl h1
          · exact .inr (.inl h1)
          · exact .inr (.inr (Nat.le_trans hsz3 h1))
        · have hR := hleaf.out
          rw [hof, if_neg (fun e => hXM (Option.some.inj e))] at hR
          rw [decide_eq_false hXM] at ks1
          replace hR := Lib.hid hR
          replace hXM := Lib.hid hXM
          clear hof hr4 hX
          go_wp2_with fail
          (with_reducible refine (ks1.out).mono ?_)
          rintro e w12 ⟨rfl, hb12⟩
          have hS2 := hS.trans (Same.of_below hb12 (Nat.le_refl _) (fun _ => False)) (fun _ _ h => h)
          have hlw2 := hlw.keep ((Same.of_below hb12 (Nat.le_refl _) (fun _ => False)).mono (fun _ _ h => h.elim))
          go_wp2_with fail
          go_ret
          rw [hR.out]
          exact ⟨_, Q, rfl, by rw [List.append_nil]; exact hlw2, hS2.mono (fun _ _ h => h.elim), fun b hb => .inl hb⟩
/-- The first index that may come next, as the code makes it. -/
theorem stA_cons {a : List Nat} {b : Nat} (h : a[a.length - 1]? = some b) : stA a = b + 1 := by
  unfold stA
  rw [List.getLast?_eq_getElem?, h]
attribute [local irreducible] wpQuiet
set_option maxRecDepth 100000 in
set_option maxHeartbeats 8000000 in
theorem rfind_any (A B : Option Addr) (n c m d : Nat) (l : List Tick) (M : List Step) (wd : Int) (hm1 : 1 ≤ m) (hm4 : m ≤ 4) (hn : n ≤ 4096) (ht : ∀ x ∈ l, 0 ≤ x.t ∧ x.t ≤ 1048576) : ∀ (k : Nat) (C : Option Addr) (p q : Nat) (a : List Nat) (out : Value) (L : List (List Nat)) (Q : Nat → Prop) (W : World), RS TE W A n l → RS SE W B m M → RS NE W C p a → p ≤ q → LO NE 22 W out L Q →
    (∀ ad, A = some ad → 0 < n → ¬ Q ad.block) → (∀ ad, B = some ad → 0 < m → ¬ Q ad.block) → (∀ ad, C = some ad → 0 < p → ¬ Q ad.block) → p + k = m → (∀ i ∈ a, i < n) → L.length + (fnd l wd M k a).length ≤ 1000000000 →
    Calls Try.prog 54 #[.slice A n c, .slice B m d, .int .i64 wd, .slice C p q, out] W (RetFd W out L Q C p (fnd l wd M k a)) := by
  intro k
  induction k with
  | zero =>
    intro C p q a out L Q W h h' ha hpq hl hA hB hC hpk hin hL
    exact rfind_leaf A B C n c m d p q l M wd a out L Q W h h' ha hpq hl hC hm1 hm4 (by omega) hin (by omega)
  | succ k ih =>
    intro C p q a out L Q W h h' ha hpq hl hA hB hC hpk hin hL
    have hll := Lib.hid h.len
    have hal := Lib.hid ha.len
    obtain ⟨Ao, co, hov, hoc, -⟩ := hl.len
    subst hov
    have hst : stA a ≤ n := by
      unfold stA
      cases e : a.getLast? with
      | none => simp
      | some b => exact hin b (List.mem_of_getLast? e)
    -- what the loop carries
    obtain ⟨INV, hINV⟩ : ∃ INV : Value → Nat → World → Prop, ∀ v i wr, INV v i wr ↔ (stA a ≤ i ∧ i ≤ n ∧ ∃ Qi, LO NE 22 wr v (L ++ (List.range i).flatMap (fO l wd M k a)) Qi ∧ Same Q W wr ∧ ∀ b, Qi b → Q b ∨ W.heap.size ≤ b) := ⟨fun v i wr => _, fun _ _ _ => Iff.rfl⟩
    have hstart : Hid (∀ wr, Same (fun _ => False) W wr → INV (.slice Ao L.length co) (stA a) wr) := Lib.hid fun wr hs => (hINV _ _ _).2 ⟨Nat.le_refl _, hst, Q, by rw [fO_pre _ (Nat.le_refl _), List.append_nil]; exact hl.keep (hs.mono (fun _ _ h => h.elim)), hs.mono (fun _ _ h => h.elim), fun b hb => .inl hb⟩
    have hslice : Hid (∀ v i wr, INV v i wr → ∃ A5 n5 c5, v = .slice A5 n5 c5) := Lib.hid fun v i wr hi => by
      obtain ⟨_, _, Qi, h1, _⟩ := (hINV _ _ _).1 hi
      obtain ⟨A5, c5, h2, _⟩ := h1.len
      exact ⟨A5, _, c5, h2⟩
    have hreads : Hid (∀ v i wr, INV v i wr → RS TE wr A n l ∧ RS SE wr B m M ∧ RS NE wr C p a) := Lib.hid fun v i wr hi => by
      obtain ⟨_, _, Qi, h1, h2, h3⟩ := (hINV _ _ _).1 hi
      exact ⟨h.lo h2 hA, h'.lo h2 hB, ha.lo h2 hC⟩
    have hdrew : Hid (∀ v i wr t, INV v i wr → INV v i (wr.drewN t)) := Lib.hid fun v i wr t hi => by
      obtain ⟨h0, h1, Qi, h2, h3, h4⟩ := (hINV _ _ _).1 hi
      exact (hINV _ _ _).2 ⟨h0, h1, Qi, h2.keep ((Same.refl _ _).drewN t), h3.drewN t, h4⟩
    have hskip : Hid (∀ v i wr x, INV v i wr → i < n → l[i]? = some x → nextB l wd a x i = false → INV v (i + 1) wr) := Lib.hid fun v i wr x hi hlt hx hn => by
      obtain ⟨h0, h1, Qi, h2, h3, h4⟩ := (hINV _ _ _).1 hi
      refine (hINV _ _ _).2 ⟨by omega, by omega, Qi, ?_, h3, h4⟩
      have e : fO l wd M k a i = [] := by unfold fO; rw [hx]; simp only; rw [hn]; rfl
      rw [fO_next, e, List.append_nil]; exact h2
    have hcall : Hid (∀ v i wr x, INV v i wr → i < n → l[i]? = some x → nextB l wd a x i = true → ∀ w5 C5 q5, Same (fun _ => False) wr w5 → RS NE w5 C5 (p + 1) (a ++ [i]) → p + 1 ≤ q5 → Fr wr.heap.size C5 → Calls Try.prog 54 #[.slice A n c, .slice B m d, .int .i64 wd, .slice C5 (p + 1) q5, v] w5 fun r w' => ∃ v', r = .returned v' ∧ INV v' (i + 1) w') := Lib.hid fun v i wr x hi hlt hx hn w5 C5 q5 hs hr hq hf => by
      obtain ⟨h0, h1, Qi, h2, h3, h4⟩ := (hINV _ _ _).1 hi
      have hW5 : Same Q W w5 := h3.trans hs (fun _ _ h => h.elim)
      have e : fO l wd M k a i = fnd l wd M k (a ++ [i]) := by unfold fO; rw [hx]; simp only; rw [if_pos hn]
      have hlen : (L ++ (List.range i).flatMap (fO l wd M k a)).length + (fnd l wd M k (a ++ [i])).length ≤ 1000000000 := by
        have := fO_len l wd M k a (i := i + 1) (by have := hll.out; omega)
        rw [fO_next, e, List.length_append] at this
        rw [List.length_append]; omega
      have hfar : ∀ ad : Addr, ad.block < W.heap.size → ¬ Q ad.block → ¬ Qi ad.block := fun ad hb hq hx => by
        rcases h4 _ hx with h | h
        · exact hq h
        · omega
      refine (ih C5 (p + 1) q5 (a ++ [i]) v _ Qi w5 (h.lo hW5 hA) (h'.lo hW5 hB) hr hq (h2.keep (hs.mono (fun _ _ h => h.elim))) (fun ad he hp => ?_) (fun ad he hp => ?_) (fun ad he hp hx => ?_) (by omega) (fun j hj => ?_) hlen).mono ?_
      · obtain ⟨ad', he', hb', _⟩ := h.2 hp
        rw [he] at he'; injection he' with he'; subst he'
        exact hfar ad hb' (hA ad he hp)
      · obtain ⟨ad', he', hb', _⟩ := h'.2 hp
        rw [he] at he'; injection he' with he'; subst he'
        exact hfar ad hb' (hB ad he hp)
      · have h8 := h2.lt _ hx
        have h9 := hf ad he
        omega
      · rcases List.mem_append.1 hj with hj | hj
        · exact hin j hj
        · rw [List.mem_singleton] at hj; omega
      · rintro r w' ⟨v', Q', rfl, g1, g2, g3⟩
        refine ⟨v', rfl, (hINV _ _ _).2 ⟨by omega, by omega, Q', ?_, hW5.trans g2 (fun b hb hx => ?_), fun b hb => ?_⟩⟩
        · rw [fO_next, e, ← List.append_assoc]; exact g1
        · rcases h4 b hx with h8 | h8
          · exact h8
          · omega
        · rcases g3 b hb with h8 | ⟨ad, he, _, rfl⟩ | h8
          · exact h4 b h8
          · exact .inr (Nat.le_trans h3.size (hf ad he))
          · exact .inr (Nat.le_trans hW5.size h8)
    have hpost : Hid (∀ v wr, INV v n wr → RetFd W (.slice Ao L.length co) L Q C p (fnd l wd M (k + 1) a) (.returned v) wr) := Lib.hid fun v wr hi => by
      obtain ⟨_, _, Qi, h1, h2, h3⟩ := (hINV _ _ _).1 hi
      rw [← hll.out, ← fnd_succ] at h1
      refine ⟨v, Qi, rfl, h1, h2, fun b hb => ?_⟩
      rcases h3 b hb with h | h
      · exact .inl h
      · exact .inr (.inr h)
    have hclone : Hid (∀ (w1 : World), RS NE w1 C p a → p ≤ 4) := Lib.hid fun _ _ => by omega
    have hle : Hid (∀ v i wr, INV v i wr → stA a ≤ i ∧ i ≤ n) := Lib.hid fun v i wr hi => ⟨((hINV _ _ _).1 hi).1, ((hINV _ _ _).1 hi).2.1⟩
    have hp4 : p ≤ 3 := by omega
    have hpm : ((p : Int) == (m : Int)) = false := by simp; omega
    replace hINV := Lib.hid hINV
    replace hpk := Lib.hid hpk
    clear hL hoc hclone hl ih hA hB hC
    by_cases hp0 : p = 0
    · subst hp0
      have ha0 : a = [] := List.eq_nil_of_length_eq_zero hal.out
      have hnil : Hid (∀ i x, l[i]? = some x → nextB l wd a x i = true) := Lib.hid fun i x hx => by rw [ha0]; exact next_nil (ht _ (List.mem_of_getElem? hx)).1
      have hst0 : Hid (stA a = 0) := Lib.hid (by rw [ha0]; rfl)
      replace ha0 := Lib.hid ha0
      have hpm0 : ((0 : Int) == (m : Int)) = false := hpm
      clear hpm
      go_enter Try.func54, Try.ntmps54
      go_wp2_with fail
      go_loopw [4, 16] (fun o j wr => ∃ (v : Value) (i : Nat), v = o ∧ j = .int .i64 (i : Int) ∧ INV v i wr) (fun _ j _ => n - (intOf j).toNat)
      case atStart => exact ⟨_, 0, rfl, rfl, by have := hstart.out W (Same.refl _ _); rw [hst0.out] at this; exact this⟩
      case round =>
        obtain ⟨v, i, rfl, rfl, hi⟩ := hrel
        by_cases hlt : i < n
        · obtain ⟨h1, h2, hr1⟩ := hreads.out _ _ _ hi
          obtain ⟨td, a1, a2, a3, rfl, hbl3, hx, -, q0, q1, q2⟩ := h1.tk' hlt
          have hnx := hnil.out i _ hx
          have j2 : (0 : Int) ≤ (i : Int) := Int.natCast_nonneg _
          have j3 : (i : Int) < (n : Int) := by omega
          replace hx := Lib.hid hx
          replace hnx := Lib.hid hnx
          clear hskip hnil
          go_wp2_with fail
          go_quiet (fail)
          have hrn := hr1.drewN nq
          have hIN := hdrew.out _ _ _ nq hi
          have hfc := hcall.out _ _ _ _ hIN hlt hx.out hnx.out
          replace hfc := Lib.hid hfc
          clear hcall hi hr1 h1 h2 hreads q0 q1 q2
          generalize wr.drewN nq = wq at *
          have ho0 : OS NE 3 wq wq.heap.size (.slice none 0 0) [] := OS.nil_
          have hal5 : a.length ≤ 5 := by have := hal.out; omega
          go_wp2_with (at_builtin; first | (refine wpList_catG tyN rfl (.const (.slice none 0 0)) (.tmp 112) rfl rfl rfl ho0 hrn (by unfold maxLen; first | (simp; done) | (simp; omega)) (by first | (simp; done) | (simp; omega)) (Nat.le_refl _) ?_; intro v1 w1 ho1 hb1 hg1; rw [List.nil_append] at ho1; have hs1 := hb1.size) | (refine wpList_push1G tyN (y := i) rfl rfl _ _ rfl rfl rfl rfl ho1 (by omega) (by omega) hs1 ?_; intro v2 w2 ho2 hb2 hg2))
          obtain ⟨A5, n5, c5, rfl, hn5, hc5, -, hr5, hf5⟩ := ho2.form
          obtain rfl : n5 = 0 + 1 := by rw [hn5, List.length_append, hal.out]; rfl
          clear hn5
          (with_reducible refine (hfc.out w2 A5 c5 (Same.of_below (hb1.trans hb2) (Nat.le_refl _) _) hr5 hc5 hf5).mono ?_)
          rintro e w6 ⟨v', rfl, hI6⟩
          go_wp2_with fail
          go_roundw
          case rel => exact ⟨_, i + 1, rfl, by go_num, hI6⟩
          case measure => simp [intOf]; omega
        · obtain rfl : i = n := by have := (hle.out _ _ _ hi).2; omega
          have hR := hpost.out _ _ hi
          obtain ⟨A5, n5, c5, rfl⟩ := hslice.out _ _ _ hi
          replace hR := Lib.hid hR
          go_wp2_with fail
          go_ret
          exact hR.out
    · -- B1
      have hap : 0 < a.length := by have := hal.out; omega
      obtain ⟨x0, hx0⟩ : ∃ x, a[0]? = some x := ⟨_, List.getElem?_eq_getElem hap⟩
      obtain ⟨xb, hxb⟩ : ∃ x, a[a.length - 1]? = some x := ⟨_, List.getElem?_eq_getElem (by omega)⟩
      have hx0n := hin x0 (List.mem_of_getElem? hx0)
      have hxbn := hin xb (List.mem_of_getElem? hxb)
      have hstb : Hid (stA a = xb + 1) := Lib.hid (stA_cons hxb)
      have hcons : Hid (∀ i x, stA a ≤ i → nextB l wd a x i = (decide (tim l xb < x.t) && decide (x.t - tim l x0 ≤ wd))) := Lib.hid fun i x hi => next_cons hx0 hxb hi
      -- the two cells of the indices, wherever they read
      have hcel : Hid (∀ wr, RS NE wr C p a → ∃ cd, C = some cd ∧ wr.cell? cd = some (.int .i64 (x0 : Int)) ∧ wr.cell? (cd.add (p - 1)) = some (.int .i64 (xb : Int))) := Lib.hid fun wr hr => by
        obtain ⟨cd, y0, e1, _, e2, e3⟩ := hr.nat (show 0 < p by omega)
        obtain ⟨cd', y1, e4, _, e5, e6⟩ := hr.nat (show p - 1 < p by omega)
        rw [e1] at e4; injection e4 with e4; subst e4
        have f2 := e2.out; rw [hx0] at f2; injection f2 with f2; subst f2
        have f5 := e5.out; rw [hal.out] at hxb; rw [hxb] at f5; injection f5 with f5; subst f5
        exact ⟨cd, e1, by rw [addr_add_zero] at e3; exact e3, e6⟩
      obtain ⟨cd, rfl, z0, z1⟩ := hcel.out W ha
      have w1 : IntKind.i64.wrap ((p : Int) - 1) = ((p - 1 : Nat) : Int) := by rw [wrap_near (by omega) (by omega)]; omega
      have w2 : wrap64 ((p : Int) - 1) = ((p - 1 : Nat) : Int) := wrap_dec (by omega) (by omega)
      have w3 := Lib.hid (wrap_inc (p := xb) (by omega))
      have r0 : ((p : Int) == 0) = false := by simp; omega
      have r1 : 0 < p := by omega
      have r2 : (0 : Int) ≤ ((p - 1 : Nat) : Int) := Int.natCast_nonneg _
      have r3 : ((p - 1 : Nat) : Int) < (p : Int) := by omega
      have s2 : (0 : Int) ≤ (x0 : Int) := Int.natCast_nonneg _
      have s3 : (x0 : Int) < (n : Int) := Int.ofNat_lt.2 hx0n
      have s4 : (0 : Int) ≤ (xb : Int) := Int.natCast_nonneg _
      have s5 : (xb : Int) < (n : Int) := Int.ofNat_lt.2 hxbn
      replace hx0 := Lib.hid hx0
      replace hxb := Lib.hid hxb
      clear hap
      go_enter Try.func54, Try.ntmps54
      go_wp2_with fail
      go_loopw [4, 16] (fun o j wr => ∃ (v : Value) (i : Nat), v = o ∧ j = .int .i64 (i : Int) ∧ INV v i wr) (fun _ j _ => n - (intOf j).toNat)
      case atStart => exact ⟨_, xb + 1, rfl, by go_num, by have := hstart.out W (Same.refl _ _); rw [hstb.out] at this; exact this⟩
      case round =>
        obtain ⟨v, i, rfl, rfl, hi⟩ := hrel
        by_cases hlt : i < n
        · obtain ⟨h1, h2, hr1⟩ := hreads.out _ _ _ hi
          obtain ⟨cd', hcd, y0, y1⟩ := hcel.out _ hr1
          injection hcd with hcd; subst hcd
          obtain ⟨td, a1, a2, a3, rfl, hbl3, hx, -, q0, q1, q2⟩ := h1.tk' hlt
          obtain ⟨td', b1, b2, b3, htd, -, hxb', -, -, -, p2⟩ := h1.tk' hxbn
          injection htd with htd; subst htd
          obtain ⟨td', c1, c2, c3, htd, -, hx0', -, -, -, p3⟩ := h1.tk' hx0n
          injection htd with htd; subst htd
          have et0 : tim l x0 = c3 := by unfold tim; rw [hx0']; rfl
          have etb : tim l xb = b3 := by unfold tim; rw [hxb']; rfl
          have hsk := hskip.out _ _ _ _ hi hlt hx
          have hnx := hcons.out i ⟨a1, a2, a3⟩ (hle.out _ _ _ hi).1
          rw [et0, etb] at hnx
          simp only at hnx
          have h00 := ht _ (List.mem_of_getElem? hx0')
          have h01 := ht _ (List.mem_of_getElem? hx)
          simp only at h00 h01
          have w4 : IntKind.i64.wrap (a3 - c3) = a3 - c3 := wrap_mid (by omega) (by omega)
          have j2 : (0 : Int) ≤ (i : Int) := Int.natCast_nonneg _
          have j3 : (i : Int) < (n : Int) := by omega
          clear hx0' hxb' et0 etb h00 h01 hskip
          replace hx := Lib.hid hx
          have hways : (decide (b3 < a3) = false ∧ Hid (INV v (i + 1) wr)) ∨ (decide (b3 < a3) = true ∧ decide (a3 - c3 ≤ wd) = false ∧ Hid (INV v (i + 1) wr)) ∨ (decide (b3 < a3) = true ∧ decide (a3 - c3 ≤ wd) = true ∧ Hid (nextB l wd a ⟨a1, a2, a3⟩ i = true)) := by
            cases e1 : decide (b3 < a3) with
            | false => rw [e1] at hnx; exact .inl ⟨rfl, Lib.hid (hsk hnx)⟩
            | true =>
              cases e2 : decide (a3 - c3 ≤ wd) with
              | false => rw [e1, e2] at hnx; exact .inr (.inl ⟨rfl, rfl, Lib.hid (hsk hnx)⟩)
              | true => rw [e1, e2] at hnx; exact .inr (.inr ⟨rfl, rfl, Lib.hid hnx⟩)
          clear hsk hnx
          go_wp2_with fail
          rcases hways with ⟨d1, hnx⟩ | ⟨d1, d2, hnx⟩ | ⟨d1, d2, hnx⟩
          · go_quiet (fail)
            have hIN := hdrew.out _ _ _ nq hnx.out
            go_wp2_with fail
            go_roundw
            case rel => exact ⟨_, i + 1, rfl, by go_num, hIN⟩
            case measure => simp [intOf]; omega
          · go_quiet (fail)
            have hIN := hdrew.out _ _ _ nq hnx.out
            go_wp2_with fail
            go_roundw
            case rel => exact ⟨_, i + 1, rfl, by go_num, hIN⟩
            case measure => simp [intOf]; omega
          · go_quiet (fail)
            have hrn := hr1.drewN nq
            have hIN := hdrew.out _ _ _ nq hi
            have hfc := hcall.out _ _ _ _ hIN hlt hx.out hnx.out
            replace hfc := Lib.hid hfc
            clear hcall hi hr1 h1 h2 hreads q0 q1 q2 p2 p3 y0 y1 z0 z1 hcel
            generalize wr.drewN nq = wq at *
            have ho0 : OS NE 3 wq wq.heap.size (.slice none 0 0) [] := OS.nil_
            have hal5 : a.length ≤ 5 := by have := hal.out; omega
            go_wp2_with (at_builtin; first | (refine wpList_catG tyN rfl (.const (.slice none 0 0)) (.tmp 112) rfl rfl rfl ho0 hrn (by unfold maxLen; first | (simp; done) | (simp; omega)) (by first | (simp; done) | (simp; omega)) (Nat.le_refl _) ?_; intro v1 w1 ho1 hb1 hg1; rw [List.nil_append] at ho1; have hs1 := hb1.size) | (refine wpList_push1G tyN (y := i) rfl rfl _ _ rfl rfl rfl rfl ho1 (by omega) (by omega) hs1 ?_; intro v2 w2 ho2 hb2 hg2))
            obtain ⟨A5, n5, c5, rfl, hn5, hc5, -, hr5, hf5⟩ := ho2.form
            obtain rfl : n5 = p + 1 := by rw [hn5, List.length_append, hal.out]; rfl
            clear hn5
            (with_reducible refine (hfc.out w2 A5 c5 (Same.of_below (hb1.trans hb2) (Nat.le_refl _) _) hr5 hc5 hf5).mono ?_)
            rintro e w6 ⟨v', rfl, hI6⟩
            go_wp2_with fail
            go_roundw
            case rel => exact ⟨_, i + 1, rfl, by go_num, hI6⟩
            case measure => simp [intOf]; omega
        · obtain rfl : i = n := by have := (hle.out _ _ _ hi).2; omega
          have hR := hpost.out _ _ hi
          obtain ⟨A5, n5, c5, rfl⟩ := hslice.out _ _ _ hi
          replace hR := Lib.hid hR
          go_wp2_with fail
          go_ret
          exact hR.out
      -- E1
end Go.Proofs.Ytkcmbpokoijglaa
