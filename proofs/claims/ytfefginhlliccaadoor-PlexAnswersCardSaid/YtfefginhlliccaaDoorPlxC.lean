/- Package plex: the search (inner), whatever is done with what it hands out. -/
import Derived.Test.YtfefginhlliccaaDoorPlxB
import Derived.Test.YtfefginhlliccaaDoorShd
import Derived.Test.YtfefginhlliccaaDoorCln
import Derived.Deep.DeepCutAuto
import Derived.BigRegion
import Derived.Deep.RegionHeld3
set_option linter.unusedVariables false
set_option linter.unusedSimpArgs false
namespace Go.Proofs.YtfefginhlliccaaDoor.Pl
open Go.RowKit Go.Shelf CoBit CoCli Go.Proofs.YtfefginhlliccaaDoor

theorem room_of_none (k : Nat) : Fence.wide.room k := fun d h => by cases h
theorem YieldAt.deep {m : Nat} (m' : Nat) {l : Nat} {args : Array Value} {W : World} {R : Ending → World → Prop} (h : YieldAt Fence.wide m Tryd.prog l args W R) : YieldAt Fence.wide m' Tryd.prog l args W R := by
  obtain ⟨fn, tmps, assign, body, hy, h1, h2⟩ := h
  exact ⟨fn, tmps, assign, body, hy, h1, fun c cs _ => h2 c cs (room_of_none _)⟩
/-- append of one number; the row is the old one or a new one. -/
theorem wpList_push2 {ops : Array Oper} {rest : List Oper} {o : Oper} {a : Act} {Q : Exit → Act → World → Prop} {w : World} {T B H : Nat} {v : Value} {ys : List Int} {y : Int}
    (hgd : o.guard = none) (s x : Operand) (ho : o.op = .call { callee := .builtin .append, args := #[s, x], argTypes := #[22, 22] })
    (hs : a.eval s = v) (hx : a.eval x = .slice (some ⟨H, 0, none⟩) 1 1) (hH : H = w.heap.size) (hown : OI w B v ys) (hn : ys.length ≤ 2199023255552) (hB : B ≤ w.heap.size)
    (h : ∀ v' w', OI w' B v' (ys ++ [y]) → w.grownBy w' v.ownBlock → (v'.ownBlock = v.ownBlock ∨ ∃ b, v'.ownBlock = some b ∧ w.heap.size ≤ b) → wpList Tryd.prog ops Q rest (a.put o.dst v') w') :
    wpList Tryd.prog ops Q (o :: rest) a (w.alloc (.cells #[.int .i64 y] T)) := by
  obtain ⟨i0, hi0, hz0, hz1, hz2⟩ := info_parts int_info
  subst hH
  refine wpList_append_any _ hgd s x _ ho B 3 i0 _ 1 8 Tryd.underlying22 hi0 hz0 hz1 hz2 rfl (by omega) v ys.length (ints ys) hs (hown.alloc _) _ _ 1 1 (ints [y]) hx (RI.one y) (ints_one _) (by unfold maxLen; omega) (by omega) (by simp; omega) ?_
  intro v' w' h1 h2 h6
  refine h v' w' ?_ ?_ ?_
  · unfold OI
    rw [List.length_append, ints_append]; exact h1
  · exact ⟨h2.os, h2.tape, h2.output, Nat.le_trans (by simp) h2.size, fun k hk hne => (h2.block k (by simp; omega) hne).trans (Below.heap_alloc w _ k hk)⟩
  · rcases h6 with h6 | h6
    · exact .inl h6
    · exact .inr ⟨_, h6, by simp⟩
/-- The bits below z. -/
theorem left_bits {x y z : Nat} {lf l r : List Nat} (hx : bl x = l ++ z :: r) (hlf : ∀ i, y.testBit i = true ↔ i ∈ lf) (i : Nat) : (y ||| (x &&& (2 ^ z - 1))).testBit i = true ↔ i ∈ lf ++ l := by
  have hs := bl_sorted x
  rw [hx, List.pairwise_append, List.pairwise_cons] at hs
  obtain ⟨_, ⟨h2, _⟩, h3⟩ := hs
  have hz : z < 64 := (mem_bl.1 (show z ∈ bl x by rw [hx]; simp)).1
  rw [Nat.testBit_or, Bool.or_eq_true, Nat.testBit_and, all_bit, hlf, List.mem_append]
  refine or_congr Iff.rfl ?_
  rw [Bool.and_eq_true, decide_eq_true_iff]
  constructor
  · rintro ⟨h, hi⟩
    have := (mem_bl (x := x)).2 ⟨by omega, h⟩
    rw [hx, List.mem_append, List.mem_cons] at this
    rcases this with h1 | rfl | h1
    · exact h1
    · omega
    · have := h2 i h1; omega
  · intro h
    exact ⟨(mem_bl.1 (show i ∈ bl x by rw [hx]; simp [h])).2, h3 i h z List.mem_cons_self⟩
theorem hop_congr {a : Nat → Nat → Bool} {p L lf lf' : List Nat} (h : ∀ i, i ∈ lf ↔ i ∈ lf') : hop a p L lf = hop a p L lf' := by
  unfold hop
  rw [Bool.eq_iff_iff, List.any_eq_true, List.any_eq_true]
  exact ⟨fun ⟨v, hv, h1⟩ => ⟨v, (h v).1 hv, h1⟩, fun ⟨v, hv, h1⟩ => ⟨v, (h v).2 hv, h1⟩⟩

/-- What a call of inner leaves. -/
def IPost (n0 B0 gr sb n : Nat) (rows : List Nat) (k least : Nat) (Aa : Option Addr) (na ca : Nat) (after : List Int) (J Jx : (Nat → Prop) → List Lst → World → Prop) (pre : List Lst) (L p lf : List Nat) (t : Bool) (e : Ending) (W' : World) : Prop :=
  ∃ (b : Bool) (O' : Nat → Prop) (xs : List Lst) (pv' : Value), e = .returned (.bool b) ∧ St n0 B0 gr sb n rows k least Aa na ca after O' W' pv' p ∧
    Hid (b = true → xs.map Lst.xs = (nodeL (ad rows) n k least after L p lf t).map nt ∧ J O' (pre ++ xs) W') ∧
    Hid (b = false → (xs.map Lst.xs) <+: (nodeL (ad rows) n k least after L p lf t).map nt ∧ Jx O' (pre ++ xs) W')
/-- The loop over the nodes that may be added. -/
def LRel (n0 B0 gr sb n : Nat) (rows : List Nat) (k least : Nat) (Aa : Option Addr) (na ca : Nat) (after : List Int) (J : (Nat → Prop) → List Lst → World → Prop) (pre : List Lst) (x : Nat) (p lf : List Nat) (t : Bool) (v : Value) (wr : World) : Prop :=
  ∃ (m : Nat) (ld : List Nat) (O2 : Nat → Prop) (xs2 : List Lst) (pv2 : Value), v = .int .u64 m ∧ m < 18446744073709551616 ∧ Hid (bl x = ld ++ bl m) ∧ St n0 B0 gr sb n rows k least Aa na ca after O2 wr pv2 p ∧ J O2 (pre ++ xs2) wr ∧
              Hid (∃ D, xs2.map Lst.xs = D.map nt ∧ nodeL (ad rows) n k least after (bl x) p lf t = D ++ loopL (ad rows) n k least after (bl m) p (lf ++ ld) t)
attribute [local irreducible] wpStill wpQuiet in
set_option maxRecDepth 200000 in
set_option maxHeartbeats 8000000 in
theorem inner_any (n0 B0 l gr sb n : Nat) (rows : List Nat) (hl : rows.length = n) (hn : n ≤ 64) (hrl : ∀ x ∈ rows, x < 18446744073709551616) (k least : Nat) (hk : k ≤ 3) (hls : least ≤ 64) (Aa : Option Addr) (na ca : Nat) (after : List Int) (hna : na ≤ 1099511627776) (hnc : na ≤ ca) (hn0 : n0 ≤ B0)
    (J Jx : (Nat → Prop) → List Lst → World → Prop) (hJ : AbO B0 J) (hJx : AbO B0 Jx)
    (hY : ∀ O pre x W0 W1, J O pre W0 → Same (fun _ => False) W0 W1 → (∀ k, O k → B0 ≤ k ∧ k < W0.heap.size) → B0 ≤ W0.heap.size → RO B0 O x W1 → (∀ ad, x.A = some ad → 0 < x.n → W0.heap.size ≤ ad.block) → YieldAt Fence.wide 4 Tryd.prog l #[.slice x.A x.n x.c] W1 fun e W' =>
      ∃ b : Bool, e = .returned (.bool b) ∧ Same (fun k => ¬ (O k ∨ k < n0)) W1 W' ∧ (b = true → J O (pre ++ [x]) W') ∧ (b = false → Jx O (pre ++ [x]) W')) (d : Nat) :
    ∀ (x y : Nat) (lf p : List Nat) (t : Bool) (O : Nat → Prop) (pre : List Lst) (pv : Value) (W : World), (bl x).length < d → x < 18446744073709551616 → y < 18446744073709551616 → (∀ i, x.testBit i = true → i < n) → (∀ i, y.testBit i = true → i < n) →
      (∀ i, y.testBit i = true ↔ i ∈ lf) → (∀ v ∈ p, v < n) → p.Pairwise (· < ·) → (∀ u ∈ p, ∀ v ∈ bl x, u < v) → p.length + (bl x).length ≤ 64 → J O pre W → St n0 B0 gr sb n rows k least Aa na ca after O W pv p →
      Calls Tryd.prog 65 #[.pointer (some ⟨sb, 0, none⟩), .int .u64 x, .int .u64 y, .bool t, .func (.yield l) #[] #[]] W fun e W' =>
        IPost n0 B0 gr sb n rows k least Aa na ca after J Jx pre (bl x) p lf t e W' := by
  induction d with
  | zero => intro x y lf p t O pre pv W hd; exact absurd hd (by omega)
  | succ d ih =>
    intro x y lf p t O pre pv W hd hx hy hxn hyn hlf hp hps hpx hpl hJ0 hS
    obtain ⟨Ap, np, cp, rfl, hnp, hcp, _, hrp⟩ := hS.own.form
    rw [nt_length] at hnp
    have hp64 : ∀ v ∈ p, v < 64 := fun v hv => Nat.lt_of_lt_of_le (hp v hv) hn
    have hnp64 : np ≤ 64 := by omega
    have hmk := fun w (h : RI w Ap np (nt p)) => mask_any Ap np cp p w h (by omega) hp64
    have hblp := bl_msk hps hp64
    have hXlt := mskN_lt hp64
    have hXn : ∀ i, (mskN p).testBit i = true → i < n := fun i hi => by rw [mskN_bit, decide_eq_true_iff] at hi; exact hp i hi
    have hclo := fun w hT hA => closed_any gr n rows hl hn hrl (mskN p) k hk w hXlt hXn hT hA
    rw [hblp] at hclo
    have hcln := fun w (h : RI w Ap np (nt p)) => clone_any Ap np cp (nt p) w h (by omega)
    have hal := hS.aft.len
    replace hmk := Lib.hid hmk
    replace hclo := Lib.hid hclo
    replace hcln := Lib.hid hcln
    replace hal := Lib.hid hal
    replace hlf := Lib.hid hlf
    replace hblp := Lib.hid hblp
    have hnpl := Lib.hid hnp
    have c0 := Blk.cell hS.blk 0
    have c1 := Blk.cell hS.blk 1
    have c2 := Blk.cell hS.blk 2
    have c3 := Blk.cell hS.blk 3
    have c4 := Blk.cell hS.blk 4
    simp at c0 c1 c2 c3 c4
    clear hnp hcp
    go_enter Tryd.func65, Tryd.ntmps65
    go_wp2_with (go_at_call 50; refine (hmk.out _ hrp).mono ?_; rintro e w1 ⟨rfl, hw1⟩; obtain rfl := hw1.symm)
    have hbp := bl_length x
    have hJd : Hid (∀ (O : Nat → Prop) (s : List Lst) (W1 : World) (q : Nat), (∀ b, O b → B0 ≤ b) → J O s W1 → J O s (W1.drewN q)) := Lib.hid fun O s W1 q hO h => hJ O O s W1 _ h hO ((Same.refl _ _).drewN q) (fun _ h => .inl h)
    have hYc : Hid (∀ (A2 : Option Addr) (n2 c2 : Nat) (w1 w2 : World), Same (fun _ => False) W w1 → n2 ≤ c2 → RI w2 A2 n2 (nt p) → Below w1.heap.size w1 w2 → Fr w1.heap.size A2 → YieldAt Fence.wide 4 Tryd.prog l #[.slice A2 n2 c2] w2 fun e W' => ∃ b : Bool, e = .returned (.bool b) ∧
        St n0 B0 gr sb n rows k least Aa na ca after O W' (.slice Ap np cp) p ∧ Hid (b = true → J O (pre ++ [⟨A2, n2, c2, nt p⟩]) W') ∧ Hid (b = false → Jx O (pre ++ [⟨A2, n2, c2, nt p⟩]) W')) := Lib.hid fun A2 n2 c2 w1 w2 hs0 hc2 hr2 hb2 hf2 => by
      have hs : Same (fun _ => False) W w2 := hs0.trans (Same.of_below hb2 (Nat.le_refl _) _) (fun _ _ h => h)
      have hB0 : B0 ≤ W.heap.size := by have := hS.lt sb hS.osb; omega
      have hsz := hs.size
      have hsz0 := hs0.size
      refine (hY O pre ⟨A2, n2, c2, nt p⟩ W w2 hJ0 hs (fun b hb => hS.lt b hb) hB0 ⟨hr2, hc2, fun ad e hp => ?_⟩ (fun ad e hp => Nat.le_trans hsz0 (hf2 ad e))).mono ?_
      · have h1 := hf2 ad e
        obtain ⟨ad', e', hlt, _⟩ := hr2.2 hp
        have e2 : ad' = ad := Option.some.inj (e'.symm.trans e)
        subst e2
        exact ⟨fun hO => by have := (hS.lt _ hO).2; omega, by omega, hlt⟩
      · rintro e W' ⟨b, he, hs3, h1, h2⟩
        exact ⟨b, he, hS.keep ((hs.mono (fun _ _ h => h.elim)).trans hs3 (fun _ _ h => h)), Lib.hid h1, Lib.hid h2⟩
    have hown : Hid (ownL (ad rows) n k least after p t = if (big least p && !(t && decide (np ≤ na)) && clo (ad rows) n k p) then [p] else []) := Lib.hid (by unfold ownL; rw [← hnpl.out, hal.out])
    have hbig : Hid (big least p = (decide (least ≤ np) && decide (0 < np))) := Lib.hid (by unfold big; rw [← hnpl.out])
    generalize hX : mskN p = X at *
    replace hX := Lib.hid hX
    go_cut [77] (fun q wc => ∃ (b b' : Bool) (O' : Nat → Prop) (xs : List Lst), q = .bool b' ∧ Hid (b' = !b) ∧ St n0 B0 gr sb n rows k least Aa na ca after O' wc (.slice Ap np cp) p ∧ Hid (xs.map Lst.xs = (ownL (ad rows) n k least after p t).map nt) ∧ Hid (b = true → J O' (pre ++ xs) wc) ∧ Hid (b = false → Jx O' (pre ++ xs) wc))
    case first =>
      -- BF
      as_aux_lemma =>
        by_cases hb1 : least ≤ np
        · have q1 : decide ((least : Int) ≤ (np : Int)) = true := by simp; omega
          by_cases hb2 : 0 < np
          · have q2 : decide (0 < np) = true := by simp; omega
            by_cases htn : t = true ∧ np ≤ na
            · obtain ⟨rfl, htn⟩ := htn
              have q3 : decide ((np : Int) ≤ (na : Int)) = true := by simp; omega
              have ho : Hid (ownL (ad rows) n k least after p true = []) := Lib.hid (by rw [hown.out]; simp [htn])
              go_quiet (fail)
              go_wp2_with fail
              go_meet
              case rel => exact ⟨true, false, O, [], rfl, Lib.hid rfl, hS.drewN _, Lib.hid (by rw [ho.out]; rfl), Lib.hid (fun _ => by rw [List.append_nil]; exact hJd.out _ _ _ _ (fun b hb => (hS.lt b hb).1) hJ0), Lib.hid (fun h => by cases h)⟩
            · have ho : Hid (ownL (ad rows) n k least after p t = if clo (ad rows) n k p then [p] else []) := Lib.hid (by
                have h3 : (t && decide (np ≤ na)) = false := by
                  cases t with
                  | false => rfl
                  | true => have h4 : ¬ np ≤ na := fun h => htn ⟨rfl, h⟩; simp; omega
                rw [hown.out, hbig.out, h3]; simp [hb1, hb2])
              have hcase : t = false ∨ (t = true ∧ decide (np ≤ na) = false) := by
                cases t with
                | false => exact .inl rfl
                | true => exact .inr ⟨rfl, by have h4 : ¬ np ≤ na := fun h => htn ⟨rfl, h⟩; simp; omega⟩
              clear htn hown hbig
              generalize clo (ad rows) n k p = C at *
              cases C with
              | false =>
                rcases hcase with rfl | ⟨rfl, q3⟩
                all_goals
                  go_quiet ((go_at_call 52; exact Calls.quiet_of_same (hclo.out _ (Tab.drewN hS.tab _) (AU.drewN hS.adj _))))
                  go_wp2_with fail
                  go_meet
                  case rel => exact ⟨true, false, O, [], rfl, Lib.hid rfl, hS.drewN _, Lib.hid (by rw [ho.out]; rfl), Lib.hid (fun _ => by rw [List.append_nil]; exact hJd.out _ _ _ _ (fun b hb => (hS.lt b hb).1) hJ0), Lib.hid (fun h => by cases h)⟩
              | true =>
                have hmx : Tryd.prog.follows .mixedOrders = true := by kernel_rfl
                have hsd : Same (fun _ => False) W W.drew := (Same.refl _ W).drew
                have hrd : RI W.drew Ap np (nt p) := hrp
                have hTd : Tab W.drew := hS.tab
                have hAd : AU W.drew gr rows := hS.adj
                rcases hcase with rfl | ⟨rfl, q3⟩
                all_goals
                  refine (wpIn_wide (n := 5)).1 ?_
                  refine Sh.region_head_move 48 (by kernel_rfl) (by kernel_rfl) rfl (by kernel_rfl) (by kernel_rfl) (by kernel_rfl) ?_
                  simp only [List.take_succ_cons, List.take_zero, List.drop_succ_cons, List.drop_zero]
                  repeat (first | still_step | (refine wpStill_step (fun K hK => ?_); go_simp; refine ⟨_, hclo.out _ hTd hAd, ?_⟩; refine hK _ ?_; clear hK K))
                  refine wpStill_nil ?_
                  refine ⟨.func (.yield l) #[] #[], fun _ _ _ h => h, ⟨Or.inl ⟨by rfl, fun w => ?_⟩, fun _ => rfl⟩, ?_⟩
                  · go_simp
                  · gi_wp2_with (first
                      | (refine ⟨trivial, ?_⟩; gi_at_call 74; refine (callsIn_wide.2 (hcln.out _ hrd)).mono ?_; rintro e w2 ⟨A2, n2, c2, rfl, hc2, hr2, hb2, hf2⟩; obtain ⟨fn, tmps, assign, body, hy, hR⟩ := hYc.out A2 n2 c2 _ w2 hsd hc2 hr2 hb2 hf2)
                      | ((first | refine hR.mono ?_ | (refine ⟨trivial, ?_⟩; refine hR.mono ?_) | (refine ⟨fun h => (by cases h), ?_⟩; refine hR.mono ?_)); clear hR; rintro e w3 ⟨b, rfl, hS3, hJ3, hJx3⟩)
                      | fail)
                    go_meet
                    case rel => exact ⟨b, !b, O, [⟨A2, n2, c2, nt p⟩], rfl, Lib.hid rfl, hS3, Lib.hid (by rw [ho.out]; rfl), hJ3, hJx3⟩
          · have q2 : decide (0 < np) = false := by simp; omega
            have ho : Hid (ownL (ad rows) n k least after p t = []) := Lib.hid (by rw [hown.out, hbig.out]; simp [hb2])
            go_quiet (fail)
            go_wp2_with fail
            go_meet
            case rel => exact ⟨true, false, O, [], rfl, Lib.hid rfl, hS.drewN _, Lib.hid (by rw [ho.out]; rfl), Lib.hid (fun _ => by rw [List.append_nil]; exact hJd.out _ _ _ _ (fun b hb => (hS.lt b hb).1) hJ0), Lib.hid (fun h => by cases h)⟩
        · have q1 : decide ((least : Int) ≤ (np : Int)) = false := by simp; omega
          have ho : Hid (ownL (ad rows) n k least after p t = []) := Lib.hid (by rw [hown.out, hbig.out]; simp [hb1])
          go_quiet (fail)
          go_wp2_with fail
          go_meet
          case rel => exact ⟨true, false, O, [], rfl, Lib.hid rfl, hS.drewN _, Lib.hid (by rw [ho.out]; rfl), Lib.hid (fun _ => by rw [List.append_nil]; exact hJd.out _ _ _ _ (fun b hb => (hS.lt b hb).1) hJ0), Lib.hid (fun h => by cases h)⟩
      -- EF
    case rest =>
      -- BR
      obtain ⟨b, b', O1, xs1, rfl, hbb, hS1, hx1, hJ1, hJx1⟩ := hcut
      have hnode : Hid (nodeL (ad rows) n k least after (bl x) p lf t = ownL (ad rows) n k least after p t ++ (if cut (ad rows) least p (bl x) lf = true then [] else loopL (ad rows) n k least after (bl x) p lf t)) := Lib.hid rfl
      clear hclo hcln hYc hown hbig hmk hrp c0 c1 c2 c3 c4 hS hJ0
      cases b with
      | false =>
        obtain rfl : true = b' := hbb.out.symm
        clear hbb
        replace hJx1 := hJx1.out rfl
        go_wp2_with fail
        go_ret
        exact ⟨false, O1, xs1, _, rfl, hS1, Lib.hid (fun h => by cases h), Lib.hid (fun _ => ⟨by rw [hx1.out, hnode.out, List.map_append]; exact List.prefix_append _ _, hJx1⟩)⟩
      | true =>
        obtain rfl : false = b' := hbb.out.symm
        clear hbb
        replace hJ1 := hJ1.out rfl
        have d0 := Blk.cell hS1.blk 0
        have d2 := Blk.cell hS1.blk 2
        have d4 := Blk.cell hS1.blk 4
        simp at d0 d2 d4
        have hoc := fun w => ones_any x hx w
        have hpb := Lib.hid (pop_bl x)
        generalize hPd : pop x = P at *
        replace hPd := Lib.hid hPd
        obtain ⟨Sm, hSm, hsum⟩ : ∃ Sm : Nat, Hid (Sm = np + P) ∧ IntKind.i64.wrap ((np : Int) + (P : Int)) = (Sm : Int) := ⟨np + P, Lib.hid rfl, by rw [IntKind.wrap_i64]; have := hpb.out; omega⟩
        have hpl64 : p.length ≤ 64 := by omega
        have hhop := fun q => hop_any n0 B0 gr sb n rows hl hn hrl k least Aa na ca after O1 _ p hp64 hpl64 x y hx hy hyn (wc.drewN q) (hS1.drewN q)
        have hhc : hop (ad rows) p (bl x) (bl y) = hop (ad rows) p (bl x) lf := hop_congr fun i => by
          rw [mem_bl, hlf.out]
          exact ⟨fun h => h.2, fun h => ⟨Nat.lt_of_lt_of_le (hyn i ((hlf.out i).2 h)) hn, h⟩⟩
        simp only [hhc] at hhop
        have hce : Hid (cut (ad rows) least p (bl x) lf = (decide (Sm < least) || hop (ad rows) p (bl x) lf)) := Lib.hid (by unfold cut; rw [hSm.out, hnpl.out, hpb.out])
        generalize hop (ad rows) p (bl x) lf = H at *
        clear hhc
        replace hhop := Lib.hid hhop
        replace hoc := Lib.hid hoc
        clear hSm hpb hPd
        by_cases hc1 : Sm < least
        · have q1 : decide (Sm < least) = true := decide_eq_true hc1
          have hno : Hid (nodeL (ad rows) n k least after (bl x) p lf t = ownL (ad rows) n k least after p t) := Lib.hid (by rw [hnode.out, hce.out, q1, Bool.true_or, if_pos rfl, List.append_nil])
          go_wp2_with fail
          go_quiet ((first | (go_at_call 68; exact Calls.quiet_of_same ((hoc.out _).mono (fun _ _ ⟨h1, h2⟩ => ⟨h1, h2.symm⟩))) | fail))
          go_wp2_with fail
          go_ret
          exact ⟨true, O1, xs1, _, rfl, hS1.drewN _, Lib.hid (fun _ => ⟨by rw [hx1.out, hno.out], hJd.out _ _ _ _ (fun b hb => (hS1.lt b hb).1) hJ1⟩), Lib.hid (fun h => by cases h)⟩
        · have q1 : decide (Sm < least) = false := decide_eq_false hc1
          cases H with
          | true =>
            have hno : Hid (nodeL (ad rows) n k least after (bl x) p lf t = ownL (ad rows) n k least after p t) := Lib.hid (by rw [hnode.out, hce.out, Bool.or_true, if_pos rfl, List.append_nil])
            go_wp2_with fail
            go_quiet ((first | (go_at_call 68; exact Calls.quiet_of_same ((hoc.out _).mono (fun _ _ ⟨h1, h2⟩ => ⟨h1, h2.symm⟩))) | (go_at_call 75; exact Calls.quiet_of (hhop.out _)) | fail))
            go_wp2_with fail
            go_ret
            exact ⟨true, O1, xs1, _, rfl, hS1.drewN _, Lib.hid (fun _ => ⟨by rw [hx1.out, hno.out], hJd.out _ _ _ _ (fun b hb => (hS1.lt b hb).1) hJ1⟩), Lib.hid (fun h => by cases h)⟩
          | false =>
            have hno : Hid (nodeL (ad rows) n k least after (bl x) p lf t = ownL (ad rows) n k least after p t ++ loopL (ad rows) n k least after (bl x) p lf t) := Lib.hid (by rw [hnode.out, hce.out, q1, Bool.false_or, if_neg (by simp)])
            go_wp2_with fail
            go_quiet ((first | (go_at_call 68; exact Calls.quiet_of_same ((hoc.out _).mono (fun _ _ ⟨h1, h2⟩ => ⟨h1, h2.symm⟩))) | (go_at_call 75; exact Calls.quiet_of (hhop.out _)) | fail))
            go_wp2_with fail
            have hS1' := hS1.drewN nq
            have hJ1' := hJd.out _ _ _ nq (fun b hb => (hS1.lt b hb).1) hJ1
            clear d0 d2 d4 hhop hoc hS1 hJ1 hJx1 hce hnode hsum q1 hc1
            generalize wc.drewN nq = wd at *
            go_loopw [12] (fun v wr => LRel n0 B0 gr sb n rows k least Aa na ca after J pre x p lf t v wr) (fun v _ => (intOf v).toNat)
            case atStart => exact ⟨x, [], O1, xs1, _, rfl, hx, Lib.hid rfl, hS1', hJ1', Lib.hid ⟨_, hx1.out, by rw [hno.out, List.append_nil]⟩⟩
            case round =>
              clear hS1' hJ1' hx1 hno
              obtain ⟨m, ld, O2, xs2, pv2, rfl, hm, hl1, hS2, hJ2, hD⟩ := hrel
              by_cases h0 : 0 < m
              · have hz : ((m : Int) != 0) = true := by simp; omega
                have hst := bl_step h0 hm
                have hl2 : bl x = ld ++ Lib.ctz 64 m :: bl (m &&& (m - 1)) := by rw [hl1.out, hst]
                have hin : Lib.ctz 64 m ∈ bl x := by rw [hl2]; simp
                have hpz := fun u hu => hpx u hu _ hin
                have hin2 := mem_bl.1 hin
                have hzn := hxn _ hin2.2
                have hlt := and_pred_lt h0
                have hlt2 := and_lt' (y := m - 1) hm
                have hand := bits_and_u64_nat m (m - 1) hm (by omega)
                have hsub : IntKind.u64.wrap ((m : Int) - 1) = ((m - 1 : Nat) : Int) := by rw [show (m : Int) - 1 = ((m - 1 : Nat) : Int) by omega]; exact u64_in _ (by omega)
                have hl3 : bl x = (ld ++ [Lib.ctz 64 m]) ++ bl (m &&& (m - 1)) := by rw [hl2]; simp
                have htz := tz_any m h0 hm
                have hz64 := hin2.1
                have hsx := bl_sorted x
                clear hin hin2
                generalize Lib.ctz 64 m = z at *
                generalize m &&& (m - 1) = m' at *
                have hlb := left_bits (y := y) hl2 hlf.out
                have hyx : y ||| (x &&& (2 ^ z - 1)) < 18446744073709551616 := CoBit.or_lt hy (and_lt' hx)
                have hpw : 2 ^ z - 1 < 18446744073709551616 := pow_pred_lt (by omega)
                have o1 := bits_and_u64_nat x (2 ^ z - 1) hx hpw
                have o2 := bits_or_u64_nat y (x &&& (2 ^ z - 1)) hy (and_lt' hx)
                rw [← wrap_pow1 hz64] at o1
                have hyn2 : ∀ i, (y ||| (x &&& (2 ^ z - 1))).testBit i = true → i < n := fun i hi => by
                  rw [Nat.testBit_or, Bool.or_eq_true, Nat.testBit_and, Bool.and_eq_true] at hi
                  exact hi.elim (hyn i) (fun h => hxn i h.1)
                generalize y ||| (x &&& (2 ^ z - 1)) = y2 at *
                generalize x &&& (2 ^ z - 1) = x1 at *
                -- what the plex test says
                have hXz := bits_or_u64_nat X (2 ^ z) hXlt (two_pow_lt hz64)
                have hXzl : X ||| 2 ^ z < 18446744073709551616 := CoBit.or_lt hXlt (two_pow_lt hz64)
                have hXzn : ∀ i, (X ||| 2 ^ z).testBit i = true → i < n := fun i hi => by
                  rw [Nat.testBit_or, Bool.or_eq_true, Nat.testBit_two_pow, decide_eq_true_iff] at hi
                  rcases hi with hi | hi
                  · exact hXn i hi
                  · omega
                have hzX : X.testBit z = false := by
                  rw [← hX.out, mskN_bit]
                  exact decide_eq_false fun h => absurd (hpz z h) (by omega)
                have kp := fun w hT hA => plex_any gr n rows hl hrl (X ||| 2 ^ z) k hk w hXzl hXzn hT hA
                have hpp : decide (plx (ad rows) k (bl (X ||| 2 ^ z))) = decide (plx (ad rows) k (p ++ [z])) := by
                  rw [Bool.eq_iff_iff]; simp only [decide_eq_true_eq]
                  refine plx_perm ((bl_or hz64 hzX).trans ?_)
                  rw [hblp.out]
                  exact (List.perm_append_singleton z p).symm
                simp only [hpp] at kp
                have hskE : Hid (skipB (ad rows) k after p t z = ((hereB after p t && decide ((z : Int) < after.getD np 0)) || !decide (plx (ad rows) k (p ++ [z])))) := Lib.hid (by unfold skipB; rw [hnpl.out])
                have hnxE : Hid (nextB after p t z = (hereB after p t && decide ((z : Int) = after.getD np 0))) := Lib.hid (by unfold nextB; rw [hnpl.out])
                have hheE : Hid (hereB after p t = (t && decide (np < na))) := Lib.hid (by unfold hereB; rw [hnpl.out, hal.out])
                have hstep : Hid (∀ D, nodeL (ad rows) n k least after (bl x) p lf t = D ++ loopL (ad rows) n k least after (bl m) p (lf ++ ld) t → nodeL (ad rows) n k least after (bl x) p lf t = (D ++ (if skipB (ad rows) k after p t z = true then [] else nodeL (ad rows) n k least after (bl m') (p ++ [z]) (lf ++ ld) (nextB after p t z))) ++ loopL (ad rows) n k least after (bl m') p (lf ++ (ld ++ [z])) t) :=
                  Lib.hid fun D h => by rw [h, hst, loopL_cons]; simp only [List.append_assoc]
                -- the call within
                have hlen : (bl m').length < d ∧ p.length + 1 + (bl m').length ≤ 64 := by
                  have := congrArg List.length hl3
                  rw [List.length_append, List.length_append, List.length_singleton] at this
                  omega
                have hmn : ∀ i, m'.testBit i = true → i < n := fun i hi => by
                  rcases Nat.lt_or_ge i 64 with h64 | h64
                  · have : i ∈ bl x := by rw [hl3, List.mem_append]; exact .inr (mem_bl.2 ⟨h64, hi⟩)
                    exact hxn i (mem_bl.1 this).2
                  · rw [Nat.testBit_lt_two_pow (Nat.lt_of_lt_of_le (show m' < 2 ^ 64 by simpa using hlt2) (Nat.pow_le_pow_right (by omega) h64))] at hi; cases hi
                have hsx2 := hsx
                rw [hl2, List.pairwise_append, List.pairwise_cons] at hsx2
                have hrec : Hid (∀ (O : Nat → Prop) (pre : List Lst) (pv : Value) (W : World) (t' : Bool), J O pre W → St n0 B0 gr sb n rows k least Aa na ca after O W pv (p ++ [z]) → Calls Tryd.prog 65 #[.pointer (some ⟨sb, 0, none⟩), .int .u64 m', .int .u64 y2, .bool t', .func (.yield l) #[] #[]] W fun e W' =>
                    IPost n0 B0 gr sb n rows k least Aa na ca after J Jx pre (bl m') (p ++ [z]) (lf ++ ld) t' e W') :=
                  Lib.hid fun O pre pv W t' hJ hS => ih m' y2 (lf ++ ld) (p ++ [z]) t' O pre pv W hlen.1 hlt2 hyx hmn hyn2 hlb
                    (fun v hv => by rw [List.mem_append, List.mem_singleton] at hv; rcases hv with hv | rfl; exact hp v hv; exact hzn)
                    (List.pairwise_append.2 ⟨hps, List.pairwise_singleton _ _, fun u hu v hv => by rw [List.mem_singleton] at hv; subst hv; exact hpz u hu⟩)
                    (fun u hu v hv => by
                      rw [List.mem_append, List.mem_singleton] at hu
                      rcases hu with hu | rfl
                      · exact hpx u hu v (by rw [hl3, List.mem_append]; exact .inr hv)
                      · exact hsx2.2.1.1 v hv)
                    (by rw [List.length_append, List.length_singleton]; exact hlen.2) hJ hS
                replace hst := Lib.hid hst
                replace hl3 := Lib.hid hl3
                replace htz := Lib.hid htz
                clear hl2 hsx hsx2 hlb hlen hmn hpp hXzl hXzn hzX hyn2 hyx hpw hl1
                generalize X ||| 2 ^ z = Xz at *
                rw [← wrap_pow hz64] at hXz
                generalize hPz : decide (plx (ad rows) k (p ++ [z])) = PZ at *
                replace kp := Lib.hid kp
                replace hPz := Lib.hid hPz
                obtain ⟨A2, n2, c2, rfl, hn2, hc2, -, hr2⟩ := hS2.own.form
                rw [nt_length, ← hnpl.out] at hn2
                obtain rfl := hn2.symm
                have i0 : (0 : Int) ≤ (z : Int) := Int.natCast_nonneg _
                have j0 : (0 : Int) ≤ (np : Int) := Int.natCast_nonneg _
                have d0 := Blk.cell hS2.blk 0
                have d1 := Blk.cell hS2.blk 1
                have d3 := Blk.cell hS2.blk 3
                have d4 := Blk.cell hS2.blk 4
                simp at d0 d1 d3 d4
                go_upto_region 10 with (go_at_call 69; refine (htz.out _ hS2.tab).mono ?_; rintro e w1 ⟨rfl, hw1⟩; obtain rfl := hw1)
                go_cut [14] (fun q wc => q = .bool (hereB after p t) ∧ Hid (∃ q, wc = wr.drewN q))
                case first =>
                  -- B1
                  as_aux_lemma =>
                    cases t with
                    | false =>
                      go_quiet (fail)
                      go_wp2_with fail
                      go_meet
                      case rel => exact ⟨by rw [hheE.out]; rfl, Lib.hid ⟨_, rfl⟩⟩
                    | true =>
                      by_cases hlt : np < na
                      · have q3 : decide (np < na) = true := decide_eq_true hlt
                        have hh : Hid (hereB after p true = true) := Lib.hid (by rw [hheE.out, q3]; rfl)
                        go_quiet (fail)
                        go_wp2_with fail
                        go_meet
                        case rel => exact ⟨by rw [hh.out], Lib.hid ⟨_, rfl⟩⟩
                      · have q3 : decide (np < na) = false := decide_eq_false hlt
                        have hh : Hid (hereB after p true = false) := Lib.hid (by rw [hheE.out, q3]; rfl)
                        go_quiet (fail)
                        go_wp2_with fail
                        go_meet
                        case rel => exact ⟨by rw [hh.out], Lib.hid ⟨_, rfl⟩⟩
                  -- E1
                case rest =>
                  -- B2
                  obtain ⟨rfl, hw⟩ := hcut
                  obtain ⟨qq, rfl⟩ := hw.out
                  have hS3 := hS2.drewN qq
                  have hJ3 := hJd.out _ _ _ qq (fun b hb => (hS2.lt b hb).1) hJ2
                  clear hw d0 d1 d3 d4 hS2 hJ2 hr2 htz
                  generalize wr.drewN qq = w2 at *
                  generalize hHB : hereB after p t = HB at *
                  replace hHB := Lib.hid hHB
                  have d0 := Blk.cell hS3.blk 0
                  have d1 := Blk.cell hS3.blk 1
                  have d3 := Blk.cell hS3.blk 3
                  have d4 := Blk.cell hS3.blk 4
                  simp at d0 d1 d3 d4
                  have hget : Hid (HB = true → ∃ ada ya, Aa = some ada ∧ w2.cell? (ada.add np) = some (.int .i64 ya) ∧ (np : Int) < (na : Int) ∧ after.getD np 0 = ya) := Lib.hid fun h => by
                    have h1 := hheE.out
                    rw [h] at h1
                    have h2 : np < na := by
                      cases t with
                      | false => cases h1
                      | true => simpa using h1.symm
                    obtain ⟨ada, ya, e1, e2, e3⟩ := hS3.aft.get h2
                    exact ⟨ada, ya, e1, e3, by omega, by rw [List.getD_eq_getElem?_getD, e2.out]; rfl⟩
                  go_upto_region 11 with fail
                  go_cut [151] (fun q wc => q = .bool (skipB (ad rows) k after p t z) ∧ Hid (∃ q, wc = w2.drewN q))
                  case first =>
                    -- B3
                    as_aux_lemma =>
                      cases HB with
                      | true =>
                        obtain ⟨ada, ya, rfl, hca, hni, hya⟩ := hget.out rfl
                        by_cases hv : (z : Int) < ya
                        · have q4 : decide ((z : Int) < ya) = true := decide_eq_true hv
                          have hh : Hid (skipB (ad rows) k after p t z = true) := Lib.hid (by rw [hskE.out, hya, q4]; rfl)
                          clear hya
                          go_quiet (fail)
                          go_wp2_with fail
                          go_meet
                          case rel => exact ⟨by rw [hh.out], Lib.hid ⟨_, rfl⟩⟩
                        · have q4 : decide ((z : Int) < ya) = false := decide_eq_false hv
                          have hh : Hid (skipB (ad rows) k after p t z = !PZ) := Lib.hid (by rw [hskE.out, hya, q4, Bool.and_false, Bool.false_or])
                          clear hya
                          go_quiet ((first | (go_at_call 48; exact Calls.quiet_of_same (kp.out _ (Tab.drewN hS3.tab _) (AU.drewN hS3.adj _))) | fail))
                          go_wp2_with fail
                          go_meet
                          case rel => exact ⟨by rw [hh.out], Lib.hid ⟨_, rfl⟩⟩
                      | false =>
                        have hh : Hid (skipB (ad rows) k after p t z = !PZ) := Lib.hid (by rw [hskE.out, Bool.false_and, Bool.false_or])
                        go_quiet ((first | (go_at_call 48; exact Calls.quiet_of_same (kp.out _ (Tab.drewN hS3.tab _) (AU.drewN hS3.adj _))) | fail))
                        go_wp2_with fail
                        go_meet
                        case rel => exact ⟨by rw [hh.out], Lib.hid ⟨_, rfl⟩⟩
                    -- E3
                  case rest =>
                    -- B4
                    obtain ⟨rfl, hw⟩ := hcut
                    obtain ⟨qq2, rfl⟩ := hw.out
                    have hS4 := hS3.drewN qq2
                    have hJ4 := hJd.out _ _ _ qq2 (fun b hb => (hS3.lt b hb).1) hJ3
                    replace hget : Hid (HB = true → ∃ ada ya, Aa = some ada ∧ (w2.drewN qq2).cell? (ada.add np) = some (.int .i64 ya) ∧ (np : Int) < (na : Int) ∧ after.getD np 0 = ya) := hget
                    clear hw d0 d1 d3 d4 hS3 hJ3 kp
                    generalize w2.drewN qq2 = w3 at *
                    generalize hSK : skipB (ad rows) k after p t z = SK at *
                    replace hSK := Lib.hid hSK
                    cases SK with
                    | true =>
                      have hst1 : Hid (∃ D, xs2.map Lst.xs = D.map nt ∧ nodeL (ad rows) n k least after (bl x) p lf t = D ++ loopL (ad rows) n k least after (bl m') p (lf ++ (ld ++ [z])) t) := Lib.hid (by
                        obtain ⟨D, hD1, hD2⟩ := hD.out
                        refine ⟨D, hD1, (hstep.out D hD2).trans ?_⟩
                        rw [if_pos (rfl : true = true), List.append_nil])
                      clear hSK hHB hPz hget hskE hnxE hheE hrec hD hstep hst
                      go_wp2_with fail
                      go_roundw
                      case rel => exact ⟨m', ld ++ [z], O2, xs2, _, rfl, hlt2, hl3, hS4, hJ4, hst1⟩
                      case measure => (first | exact hlt | (simp only [intOf, Int.toNat_natCast]; exact hlt) | (simp [intOf]; exact hlt))
                    | false =>
                      clear hSK hskE hPz
                      have d3 := Blk.cell hS4.blk 3
                      have d4 := Blk.cell hS4.blk 4
                      simp at d3 d4
                      go_upto_region 12 with fail
                      go_cut [14] (fun q wc => q = .bool (nextB after p t z) ∧ Hid (∃ q, wc = w3.drewN q))
                      case first =>
                        -- B5
                        as_aux_lemma =>
                          cases HB with
                          | true =>
                            obtain ⟨ada, ya, rfl, hca, hni, hya⟩ := hget.out rfl
                            by_cases hv : (z : Int) = ya
                            · have q4 : ((z : Int) == ya) = true := by simp [hv]
                              have hh : Hid (nextB after p t z = true) := Lib.hid (by rw [hnxE.out, hya, decide_eq_true hv]; rfl)
                              clear hya
                              replace hv := Lib.hid hv
                              go_quiet (fail)
                              go_wp2_with fail
                              go_meet
                              case rel => exact ⟨by rw [hh.out], Lib.hid ⟨_, rfl⟩⟩
                            · have q4 : ((z : Int) == ya) = false := by simp [hv]
                              have hh : Hid (nextB after p t z = false) := Lib.hid (by rw [hnxE.out, hya, decide_eq_false hv]; rfl)
                              clear hya
                              replace hv := Lib.hid hv
                              go_quiet (fail)
                              go_wp2_with fail
                              go_meet
                              case rel => exact ⟨by rw [hh.out], Lib.hid ⟨_, rfl⟩⟩
                          | false =>
                            have hh : Hid (nextB after p t z = false) := Lib.hid (by rw [hnxE.out]; rfl)
                            go_quiet (fail)
                            go_wp2_with fail
                            go_meet
                            case rel => exact ⟨by rw [hh.out], Lib.hid ⟨_, rfl⟩⟩
                        -- E5
                      case rest =>
                        -- B6
                        as_aux_lemma =>
                          obtain ⟨rfl, hw⟩ := hcut
                          obtain ⟨qq3, rfl⟩ := hw.out
                          have hS5 := hS4.drewN qq3
                          have hJ5 := hJd.out _ _ _ qq3 (fun b hb => (hS4.lt b hb).1) hJ4
                          clear hw d3 d4 hS4 hJ4 hget
                          generalize w3.drewN qq3 = w4 at *
                          generalize nextB after p t z = NB at *
                          have d4 := Blk.cell hS5.blk 4
                          simp at d4
                          have hB04 : n0 ≤ w4.heap.size := by have := hS5.lt sb hS5.osb; omega
                          go_wp2_with (first
                            | (at_builtin; refine wpList_push2 (B := n0) rfl _ _ rfl rfl rfl (by simp) hS5.own (by rw [nt_length]; omega) hB04 ?_; intro v6 w6 ho6 hg6 hv6
                               have hs6 := Same.of_grown hg6
                               have hb6 := hs6.blk hS5.blk (fun e => (hS5.op _ e).2.1 rfl)
                               have e4 := Blk.cell hb6 4
                               have f4 := Blk.frozen hb6 4
                               simp at e4
                               replace ho6 : OI w6 n0 v6 (nt (p ++ [z])) := by rw [nt_append]; exact ho6
                               obtain ⟨A6, n6, c6, rfl, -, -, -, -⟩ := ho6.form
                               obtain ⟨hS7, hs7⟩ := hS5.path hs6 ho6 hv6 hn0
                               have hJ7 := hJ O2 (fun b => O2 b ∨ (Value.slice A6 n6 c6).ownBlock = some b) _ _ _ hJ5 (fun b hb => (hS5.lt b hb).1) hs7 (fun b hb => by
                                 rcases hb with hb | hb
                                 · exact .inl hb
                                 · rcases hv6 with hv6 | ⟨b', hv6, hb'⟩
                                   · rw [hv6] at hb; exact .inl (hS5.op b hb).1
                                   · rw [hv6] at hb; injection hb with hb; subst hb; exact .inr hb')
                               clear hs6 hs7 ho6 hg6 hv6)
                            | (go_at_call 65; refine (hrec.out _ _ _ _ _ hJ7 hS7).mono ?_; clear hJ7 hS7 hb6 e4 f4; rintro e w8 ⟨b8, O8, xs8, pv8, rfl, hS8, hT8, hF8⟩)
                            | fail)
                          -- B7
                          obtain ⟨A8, n8, c8, rfl, hn8, hc8, -, hr8⟩ := hS8.own.form
                          rw [nt_length, List.length_append, List.length_singleton, ← hnpl.out] at hn8
                          subst hn8
                          have g4 := Blk.cell hS8.blk 4
                          have k4 := Blk.frozen hS8.blk 4
                          simp at g4
                          have hv9 : (Value.slice A8 np c8).ownBlock = (Value.slice A8 (np + 1) c8).ownBlock := by cases A8 <;> rfl
                          have ho9 : OI w8 n0 (.slice A8 np c8) (nt p) := by
                            have := hS8.own
                            rw [nt_append] at this
                            exact OI.trunc (n := np + 1) this
                          obtain ⟨hS9, hs9⟩ := hS8.path (Same.drew (Same.refl _ w8)) (w4 := w8.drew) ho9 (.inl hv9) hn0
                          have hO9 : ∀ b, (O8 b ∨ (Value.slice A8 np c8).ownBlock = some b) → O8 b ∨ w8.heap.size ≤ b := fun b hb => by
                            rcases hb with hb | hb
                            · exact .inl hb
                            · rw [hv9] at hb; exact .inl (hS8.op b hb).1
                          have i41 : IntKind.i64.wrap (np : Int) = (np : Int) := by rw [IntKind.wrap_i64]; omega
                          have i4 : IntKind.i64.wrap (((np + 1 : Nat) : Int) - 1) = (np : Int) := by rw [IntKind.wrap_i64]; omega
                          have i8 : (np : Int) ≤ (c8 : Int) := by omega
                          cases b8 with
                          | true =>
                            obtain ⟨hT1, hT2⟩ := hT8.out rfl
                            have hJ9 := hJ O8 _ _ _ _ hT2 (fun b hb => (hS8.lt b hb).1) hs9 hO9
                            have hrelF : Hid (∃ D, (xs2 ++ xs8).map Lst.xs = D.map nt ∧ nodeL (ad rows) n k least after (bl x) p lf t = D ++ loopL (ad rows) n k least after (bl m') p (lf ++ (ld ++ [z])) t) := Lib.hid (by
                              obtain ⟨D, hD1, hD2⟩ := hD.out
                              refine ⟨_, ?_, hstep.out D hD2⟩
                              rw [if_neg (by simp), List.map_append, List.map_append, hD1, hT1])
                            rw [List.append_assoc] at hJ9
                            clear hT1 hT2 hs9 hO9 hS8 hT8 hF8
                            go_upto_region 15 with fail
                            go_region
                            go_wp2_with fail
                            go_roundw
                            case rel => exact ⟨m', ld ++ [z], _, xs2 ++ xs8, _, rfl, hlt2, hl3, hS9, hJ9, hrelF⟩
                            case measure => (first | exact hlt | (simp only [intOf, Int.toNat_natCast]; exact hlt) | (simp [intOf]; exact hlt))
                          | false =>
                            obtain ⟨hT1, hT2⟩ := hF8.out rfl
                            have hJ9 := hJx O8 _ _ _ _ hT2 (fun b hb => (hS8.lt b hb).1) hs9 hO9
                            have hrelF : Hid ((xs2 ++ xs8).map Lst.xs <+: (nodeL (ad rows) n k least after (bl x) p lf t).map nt) := Lib.hid (by
                              obtain ⟨D, hD1, hD2⟩ := hD.out
                              rw [hstep.out D hD2, if_neg (by simp), List.map_append, List.map_append, List.map_append, hD1, List.append_assoc]
                              exact (List.prefix_append_right_inj _).2 (hT1.trans (List.prefix_append _ _)))
                            rw [List.append_assoc] at hJ9
                            clear hT1 hT2 hs9 hO9 hS8 hT8 hF8
                            go_upto_region 15 with fail
                            go_region
                            go_wp2_with fail
                            go_ret
                            exact ⟨false, _, xs2 ++ xs8, _, rfl, hS9, Lib.hid (fun h => by cases h), Lib.hid (fun _ => ⟨hrelF.out, hJ9⟩)⟩
                          -- E7
                        -- E6
                    -- E4
                  -- E2
              · have hz : ((m : Int) != 0) = false := by simp; omega
                have hfin : Hid (xs2.map Lst.xs = (nodeL (ad rows) n k least after (bl x) p lf t).map nt) := Lib.hid (by
                  obtain ⟨D, hD1, hD2⟩ := hD.out
                  rw [hD2, hD1, show m = 0 by omega, bl_zero]
                  simp [loopL])
                go_wp2_with fail
                go_ret
                exact ⟨true, O2, xs2, pv2, rfl, hS2, Lib.hid (fun _ => ⟨hfin.out, hJ2⟩), Lib.hid (fun h => by cases h)⟩
      -- ER
end Go.Proofs.YtfefginhlliccaaDoor.Pl
