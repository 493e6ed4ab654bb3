/- The reference's cores (cohesionref10), third part: the degeneracy, and the order. -/
import Derived.Test.YtdibfecejgjfmaaGreatDoorRCoB
import Derived.Deep.RegionHeld3
set_option linter.unusedVariables false
namespace Go.Proofs.YtdibfecejgjfmaaGreatDoor
open Go.RowKit

/-- The greatest of numbers that are not negative. -/
def maxL (l : List Int) : Int := l.foldl (fun a x => max a x) 0
theorem maxL_take {l : List Int} {k : Nat} {x : Int} (h : l[k]? = some x) : maxL (l.take (k + 1)) = max (maxL (l.take k)) x := by unfold maxL; rw [take_at h, List.foldl_append]; rfl
/-- v is taken before w: it has fewer neighbours in L, or it is not greater. -/
def bef (nb : Int → List Int) (L : List Int) (v w : Int) : Prop := dg nb L v < dg nb L w ∨ (dg nb L v = dg nb L w ∧ v ≤ w)
/-- v is the one of L that is taken. -/
def isBest (nb : Int → List Int) (L : List Int) (v : Int) : Prop := v ∈ L ∧ ∀ w ∈ L, bef nb L v w
/-- The list is the beginning of the order of the cores. -/
def PS (nb : Int → List Int) (n : Nat) (o : List Int) : Prop := ∀ i v, o[i]? = some v → isBest nb (rst n (o.take i)) v
theorem ps_nil (nb : Int → List Int) (n : Nat) : PS nb n [] := fun i v h => by simp at h
theorem ps_push {nb : Int → List Int} {n : Nat} {o : List Int} {v : Int} (h : PS nb n o) (hv : isBest nb (rst n o) v) : PS nb n (o ++ [v]) := by
  intro i x hx
  rcases Nat.lt_trichotomy i o.length with hi | hi | hi
  · rw [List.getElem?_append_left hi] at hx
    rw [List.take_append_of_le_length (by omega)]
    exact h i x hx
  · subst hi
    rw [List.getElem?_append_right (Nat.le_refl _)] at hx
    simp at hx
    subst hx
    rw [List.take_append_of_le_length (Nat.le_refl _), List.take_length]
    exact hv
  · rw [List.getElem?_eq_none (by simp; omega)] at hx
    cases hx
theorem bef_antisymm {nb : Int → List Int} {L : List Int} {v w : Int} (h1 : bef nb L v w) (h2 : bef nb L w v) : v = w := by
  unfold bef at h1 h2
  omega
theorem best_unique {nb : Int → List Int} {L : List Int} {v w : Int} (h1 : isBest nb L v) (h2 : isBest nb L w) : v = w := bef_antisymm (h1.2 w h2.1) (h2.2 v h1.1)
theorem ps_unique {nb : Int → List Int} {n : Nat} {a b : List Int} (ha : PS nb n a) (hb : PS nb n b) (hl : a.length = b.length) : a = b := by
  have h : ∀ i, a.take i = b.take i := by
    intro i
    induction i with
    | zero => rfl
    | succ i ih =>
      by_cases hi : i < a.length
      · have e1 : a[i]? = some a[i] := List.getElem?_eq_getElem hi
        have e2 : b[i]? = some (b[i]'(by omega)) := List.getElem?_eq_getElem (by omega)
        have h1 := ha i _ e1
        have h2 := hb i _ e2
        rw [ih] at h1
        have := best_unique h1 h2
        rw [take_at e1, take_at e2, ih, this]
      · rw [List.take_of_length_le (by omega), List.take_of_length_le (by omega)]
        have := ih
        rw [List.take_of_length_le (by omega), List.take_of_length_le (by omega)] at this
        exact this
  have := h a.length
  rwa [List.take_length, hl, List.take_length] at this
/-- What the search for the next node has found among the first j. -/
def Srch (nb : Int → List Int) (L : List Int) (j : Nat) (b le : Int) : Prop := (j = 0 ∧ b = -1 ∧ le = 0) ∨ (0 < j ∧ 0 ≤ b ∧ le = dg nb L b ∧ b ∈ L.take j ∧ ∀ w ∈ L.take j, bef nb L b w)
theorem srch_first {nb : Int → List Int} {L : List Int} {j : Nat} {b le v : Int} (h : Srch nb L j b le) (hs : L.Pairwise (· < ·)) (hv : L[j]? = some v) (h0 : 0 ≤ v) (ht : b < 0 ∨ (dg nb L v : Int) < le) : Srch nb L (j + 1) v (dg nb L v) := by
  refine .inr ⟨by omega, h0, rfl, by rw [take_at hv]; simp, fun w hw => ?_⟩
  rw [take_at hv] at hw
  rcases List.mem_append.1 hw with hw | hw
  · rcases h with ⟨rfl, _⟩ | ⟨_, hb0, hle, _, hb⟩
    · simp at hw
    · have := hb w hw
      unfold bef at this ⊢
      omega
  · rw [List.mem_singleton.1 hw]; exact .inr ⟨rfl, Int.le_refl _⟩
theorem srch_skip {nb : Int → List Int} {L : List Int} {j : Nat} {b le v : Int} (h : Srch nb L j b le) (hs : L.Pairwise (· < ·)) (hv : L[j]? = some v) (ht : ¬ (b < 0 ∨ (dg nb L v : Int) < le)) : Srch nb L (j + 1) b le := by
  rcases h with ⟨rfl, rfl, _⟩ | ⟨h1, hb0, hle, hm, hb⟩
  · omega
  · refine .inr ⟨by omega, hb0, hle, by rw [take_at hv]; simp [hm], fun w hw => ?_⟩
    rw [take_at hv] at hw
    rcases List.mem_append.1 hw with hw | hw
    · exact hb w hw
    · rw [List.mem_singleton.1 hw]
      have hlt : b < v := by
        have h2 : (L.take j ++ [v]).Pairwise (· < ·) := by rw [← take_at hv]; exact hs.take
        rw [List.pairwise_append] at h2
        exact h2.2.2 b hm v (by simp)
      unfold bef
      omega
theorem srch_done {nb : Int → List Int} {L : List Int} {j : Nat} {b le : Int} (h : Srch nb L j b le) (hj : L.length ≤ j) (h0 : 0 < L.length) : 0 ≤ b ∧ isBest nb L b := by
  rcases h with ⟨rfl, _⟩ | ⟨_, hb0, _, hm, hb⟩
  · omega
  · rw [List.take_of_length_le hj] at hm hb
    exact ⟨hb0, hm, hb⟩
theorem ps_range {nb : Int → List Int} {n : Nat} {o : List Int} (h : PS nb n o) : o.Nodup ∧ ∀ x ∈ o, 0 ≤ x ∧ x < n := by
  have hm : ∀ (i : Nat) (v : Int), o[i]? = some v → (0 ≤ v ∧ v < n) ∧ v ∉ o.take i := fun i v hv => mem_rst.1 (h i v hv).1
  refine ⟨?_, fun x hx => ?_⟩
  · rw [List.nodup_iff_pairwise_ne, List.pairwise_iff_getElem]
    intro i j hi hj hij
    have := (hm j _ (List.getElem?_eq_getElem hj)).2
    rintro e
    rw [← e] at this
    exact this (List.mem_take_iff_getElem.2 ⟨i, by omega, rfl⟩)
  · obtain ⟨i, hi, rfl⟩ := List.getElem_of_mem hx
    exact (hm i _ (List.getElem?_eq_getElem hi)).1
theorem nodup_length {n : Nat} {o : List Int} (hn : o.Nodup) (hr : ∀ x ∈ o, 0 ≤ x ∧ x < n) : o.length ≤ n := by
  have hp : o.Perm ((rng n).filter fun x => decide (x ∈ o)) := by
    refine (List.perm_ext_iff_of_nodup hn (((rng_sorted n).imp fun h => by omega).filter _)).2 fun x => ?_
    rw [List.mem_filter, mem_rng]
    simp
    exact fun hx => hr x hx
  rw [hp.length_eq]
  exact Nat.le_trans (List.length_filter_le _ _) (by rw [rng_length]; exact Nat.le_refl _)
theorem rst_empty {n : Nat} {o : List Int} (h : rst n o = []) (hn : o.Nodup) (hr : ∀ x ∈ o, 0 ≤ x ∧ x < n) : o.length = n := by
  have hp : o.Perm (rng n) := by
    refine (List.perm_ext_iff_of_nodup hn ((rng_sorted n).imp fun h => by omega)).2 fun x => ⟨fun hx => mem_rng.2 (hr x hx), fun hx => ?_⟩
    by_cases hxo : x ∈ o
    · exact hxo
    · have : x ∈ rst n o := mem_rst.2 ⟨mem_rng.1 hx, hxo⟩
      rw [h] at this
      cases this
  rw [hp.length_eq, rng_length]
/-- The order of the cores. -/
def IsOrd (n : Int) (es : List (Int × Int)) (o : List Int) : Prop := (chkG n es = 0 → PS (nbG n es) n.toNat o ∧ o.length = n.toNat) ∧ (chkG n es ≠ 0 → o = [])
theorem isOrd_unique {n : Int} {es : List (Int × Int)} {a b : List Int} (ha : IsOrd n es a) (hb : IsOrd n es b) : a = b := by
  by_cases hz : chkG n es = 0
  · exact ps_unique (ha.1 hz).1 (hb.1 hz).1 (by rw [(ha.1 hz).2, (hb.1 hz).2])
  · rw [ha.2 hz, hb.2 hz]
theorem rst_length_push {n : Nat} {p : List Int} {v : Int} (h : v ∈ rst n p) : (rst n (p ++ [v])).length < (rst n p).length := by
  rw [← rst_push, minus_sorted (rst_sorted n p)]
  refine Nat.lt_of_le_of_ne (List.length_filter_le _ _) fun e => ?_
  have := List.length_filter_eq_length_iff.1 e v h
  simp at this
set_option maxRecDepth 100000 in
set_option maxHeartbeats 4000000 in
theorem rOrder_any (A : Option Addr) (m c : Nat) (n : Int) (es : List (Int × Int)) (w : World) (h : RE w A m es) (hm : m ≤ 68719476736) :
    Calls Tryz.prog 23 #[.agg #[.int .i64 n, .slice A m c]] w fun e w' => ∃ o, RetL w o (chkG n es) e w' ∧ IsOrd n es o := by
  have ck := fun w h => rcheck_any A m c n es w h (by omega)
  by_cases hz : chkG n es = 0
  · obtain ⟨z0, z1, _⟩ := chkG_zero hz
    obtain ⟨n, rfl⟩ := Int.eq_ofNat_of_zero_le z0
    have hdef : ∀ o, PS (nbG n es) n o → o.length = n → IsOrd n es o := fun o h1 h2 => ⟨fun _ => ⟨h1, h2⟩, fun h => absurd hz h⟩
    rw [hz] at ck ⊢
    clear hz
    replace hdef := Lib.hid hdef
    replace ck := Lib.hid ck
    have hml := Lib.hid h.len
    go_enter Tryz.func23, Tryz.ntmps23
    go_wp2_with fail
    refine (ck.out _ (h.alloc _)).mono ?_
    rintro e w1 ⟨rfl, hb1⟩
    simp only [World.size_alloc] at hb1
    have hG : Blk w1 w.heap.size 24 #[.int .i64 n, .slice A m c] := Blk.below (Blk.new _ _ _) hb1 (by simp)
    have hb0 : Below w.heap.size w w1 := ((Below.refl _ _).alloc (Nat.le_refl _) _).trans (hb1.mono (by simp))
    have g0 := Blk.cell hG 0
    have g1 := Blk.cell hG 1
    simp at g0 g1
    have hlt1 := hG.lt
    have hs0 := hb0.size
    clear hb1
    go_wp2_with fail
    refine (range_any n (by omega) _).mono ?_
    rintro e w2 ⟨A2, n2, c2, rfl, hn2, hr2, hb2, hf2⟩
    replace hG := Blk.below hG hb2 hlt1
    replace hb0 := hb0.trans (hb2.mono hs0)
    have hs2 := hb2.size
    rw [← rst_nil] at hr2
    have hps := Lib.hid (ps_nil (nbG n es) n)
    replace hf2 := hf2.mono hs0
    clear hb2 g0 g1
    go_wp2_with fail
    go_loopw [5, 6] (fun v u wr => ∃ (A3 : Option Addr) (n3 c3 : Nat) (o : List Int), v = .slice A3 n3 c3 ∧ n3 ≤ c3 ∧ RI wr A3 n3 (rst n o) ∧ OI wr w2.heap.size u o ∧ Hid (PS (nbG n es) n o) ∧ Blk wr w.heap.size 24 #[.int .i64 n, .slice A m c] ∧ Below w.heap.size w wr ∧ w2.heap.size ≤ wr.heap.size ∧ ∀ ad, A3 = some ad → some ad.block ≠ u.ownBlock)
      (fun v _ _ => match v with | .slice _ n3 _ => n3 | _ => 0)
    case atStart => exact ⟨A2, n2, c2, [], rfl, hn2, hr2, OI.nil_, hps, hG, hb0, Nat.le_refl _, fun ad _ => by simp [Value.ownBlock]⟩
    case round =>
      obtain ⟨A3, n3, c3, o, rfl, hnc, hr, ho, hp, hG3, hb, hsw, hfar⟩ := hrel
      replace hfar := Lib.hid hfar
      clear hr2 hps hG hb0
      have hlen := Lib.hid hr.len
      have hn64 : n3 ≤ 64 := by
        have h1 := vld_length (rst_vld n o)
        have h2 := hr.len
        omega
      have hsz := hb.size
      have hGl := hG3.lt
      by_cases h0 : 0 < n3
      · go_wp2_with fail
        obtain ⟨wo, rfl⟩ : ∃ wo : World, wo = wr := ⟨_, rfl⟩
        go_loopw [7, 8, 25] (fun b le i wr => ∃ (j : Nat) (b' le' : Int), j ≤ n3 ∧ i = .int .i64 j ∧ b = .int .i64 b' ∧ le = .int .i64 le' ∧ Hid (Srch (nbG n es) (rst n o) j b' le') ∧ Blk wr w.heap.size 24 #[.int .i64 n, .slice A m c] ∧ Below wo.heap.size wo wr) (fun _ _ i _ => n3 - (intOf i).toNat)
        case atStart => exact ⟨0, -1, 0, Nat.zero_le _, rfl, rfl, rfl, Lib.hid (.inl ⟨rfl, rfl, rfl⟩), hG3, Below.refl _ _⟩
        case round =>
          obtain ⟨j, b', le', hj, rfl, rfl, rfl, hsr, hG4, hb4⟩ := hrel
          clear hG3
          have hs4 := hb4.size
          by_cases hlt : j < n3
          · have hrr := RI.below hr hb4 (Nat.le_refl _)
            obtain ⟨ad, v, rfl, hv, hcv⟩ := hrr.get hlt
            have hv0 : 0 ≤ v := (mem_rst.1 (mem_at hv.out)).1.1
            have g0 := Blk.cell hG4 0
            have g1 := Blk.cell hG4 1
            simp at g0 g1
            have hRE := RE.below h (hb.trans (hb4.mono hsz)) (Nat.le_refl _)
            have hnl := nbG_length n es v
            have hmd := meet_dg n es (rst n o) v
            replace hnl : (nbG n es v).length ≤ 2 * m := by have := hml.out; omega
            go_wp2_with fail
            refine (neigh_any _ m c n es v _ hRE (by omega)).mono ?_
            rintro e w5 ⟨A5, n5, c5, rfl, hn5, hr5, hb5, hf5⟩
            have hln : n5 ≤ 2 * m := by have := hr5.len; omega
            replace hrr := RI.below hrr hb5 (Nat.le_refl _)
            replace hG4 := Blk.below hG4 hb5 (by omega)
            have hs5 := hb5.size
            replace hb4 := hb4.trans (hb5.mono hs4)
            clear hb5 hf5 g0 g1 hRE
            go_wp2_with fail
            refine (meet_any A5 (some ad) n5 c5 n3 c3 _ (rst n o) _ hr5 (by omega) hrr (by omega)).mono ?_
            rintro e w6 ⟨A6, n6, c6, rfl, hn6, hr6, hb6, hf6⟩
            have hd6 : n6 = dg (nbG n es) (rst n o) v := by rw [← hmd, hr6.len]
            replace hG4 := Blk.below hG4 hb6 (by omega)
            replace hb4 := hb4.trans (hb6.mono (by omega))
            clear hr6 hb6 hf6 hr5 hmd hrr
            by_cases ht : b' < 0 ∨ (n6 : Int) < le'
            · have hst := Lib.hid (srch_first hsr.out (rst_sorted n o) hv.out hv0 (by rw [← hd6]; exact ht))
              rw [← hd6] at hst
              have hw : decide (b' < 0) = true ∨ (decide (b' < 0) = false ∧ decide ((n6 : Int) < le') = true) := by simp; omega
              replace hd6 := Lib.hid hd6
              clear ht
              rcases hw with q1 | ⟨q1, q2⟩
              all_goals
                go_wp2_with fail
                go_roundw
                case rel => exact ⟨j + 1, v, n6, by omega, by go_num, rfl, rfl, hst, hG4, hb4⟩
                case measure => simp [intOf]; omega
            · have hst := Lib.hid (srch_skip hsr.out (rst_sorted n o) hv.out (by rw [← hd6]; exact ht))
              have q1 : decide (b' < 0) = false := by simp; omega
              have q2 : decide ((n6 : Int) < le') = false := by simp; omega
              replace hd6 := Lib.hid hd6
              clear ht
              go_wp2_with fail
              go_roundw
              case rel => exact ⟨j + 1, b', le', by omega, by go_num, rfl, rfl, hst, hG4, hb4⟩
              case measure => simp [intOf]; omega
          · obtain ⟨hb'0, hbest⟩ := srch_done hsr.out (by rw [hlen.out]; omega) (by rw [hlen.out]; exact h0)
            have hshort := Lib.hid (rst_length_push hbest.1)
            have hpp := Lib.hid (ps_push hp.out hbest)
            have hpush := rst_push n o b'
            have hol : o.length ≤ 64 := by
              have h1 := ps_range hp.out
              have h2 := nodup_length h1.1 h1.2
              omega
            replace hpush := Lib.hid hpush
            replace hbest := Lib.hid hbest
            replace ho := ho.below hb4 (Nat.le_refl _)
            have hr7 := RI.below hr hb4 (Nat.le_refl _)
            have hb7 := hb.trans (hb4.mono hsz)
            go_wp2_with (at_builtin; refine wpList_push rfl _ _ rfl rfl rfl (by simp) ho (by omega) (by omega) ?_; intro v' w7 ho' hb' hg')
            have hs7 := hb'.size
            have hs4 := hb4.size
            have hr8 := RI.kept hr7 hg' hfar.out
            have hG8 := Blk.below hG4 hb' (by omega)
            have hb8 := hb7.trans (hb'.mono (by omega))
            clear hr hr7 hG4 hb7 ho hsr
            go_wp2_with fail
            refine (minus_any A3 _ n3 c3 1 1 (rst n o) [b'] _ (hr8.alloc _) (by omega) (RI.one b') (by omega)).mono ?_
            rintro e w9 ⟨A9, n9, c9, rfl, hn9, hr9, hb9, hf9⟩
            simp only [World.size_alloc] at hb9 hf9
            rw [hpush.out] at hr9
            have hs9 := hb9.size
            rw [World.size_alloc] at hs9
            have ho9 := (ho'.alloc (.cells #[.int .i64 b'] 3)).below hb9 (by simp)
            have hG9 := Blk.below (hG8.alloc (.cells #[.int .i64 b'] 3)) hb9 (by omega)
            have hb10 := (hb8.alloc (by omega) (.cells #[.int .i64 b'] 3)).trans (hb9.mono (by omega))
            have hfar9 : ∀ ad, A9 = some ad → some ad.block ≠ v'.ownBlock := fun ad e he => by
              have h1 := hf9 ad e
              have h2 := (ho'.block_lt _ he.symm).2
              omega
            have hlt9 : n9 < n3 := by
              have h1 := hshort.out
              rw [hr9.len, hlen.out] at h1
              exact h1
            replace hfar9 := Lib.hid hfar9
            clear hb9 hf9 hr8 ho' hG8 hb8 hb' hg'
            go_wp2_with fail
            go_roundw
            case rel => exact ⟨A9, n9, c9, o ++ [b'], rfl, hn9, hr9, ho9, hpp, hG9, hb10, by omega, hfar9.out⟩
            case measure => simp; omega
      · have hemp : rst n o = [] := List.eq_nil_of_length_eq_zero (by rw [hlen.out]; omega)
        have hr1 := ps_range hp.out
        have hfin : ∃ o, RetL w o 0 (.returned (.tuple #[u6, .int .i64 0])) wr ∧ IsOrd n es o := by
          obtain ⟨A5, n5, c5, rfl, hn5, hc5, _, hr5⟩ := ho.form
          exact ⟨o, ⟨A5, n5, c5, rfl, hc5, hr5, hb, (ho.fresh hn5).mono (by omega)⟩, hdef.out o hp.out (rst_empty hemp hr1.1 hr1.2)⟩
        replace hfin := Lib.hid hfin
        clear ho hr hemp hr1
        go_wp2_with fail
        go_ret2
        exact hfin.out
  · have hdef : IsOrd n es [] := ⟨fun h => absurd h hz, fun _ => rfl⟩
    have hz' : (chkG n es != 0) = true := by simpa using hz
    clear hz
    generalize chkG n es = z at *
    replace hdef := Lib.hid hdef
    replace ck := Lib.hid ck
    go_enter Tryz.func23, Tryz.ntmps23
    go_wp2_with fail
    refine (ck.out _ (h.alloc _)).mono ?_
    rintro e w1 ⟨rfl, hb1⟩
    simp only [World.size_alloc] at hb1
    have hb0 : Below w.heap.size w w1 := ((Below.refl _ _).alloc (Nat.le_refl _) _).trans (hb1.mono (by simp))
    clear hb1
    go_wp2
    go_ret2
    exact ⟨[], ⟨none, 0, 0, rfl, Nat.le_refl _, RI.none_, hb0, Fr.none_⟩, hdef.out⟩
end Go.Proofs.YtdibfecejgjfmaaGreatDoor

namespace Go.Proofs.YtdibfecejgjfmaaGreatDoor
open Go.RowKit

/-- The list has each number from 0 to n - 1 once. -/
def OrdI (l : List Int) (n : Int) : Prop := (l.length : Int) = n ∧ Vld (ofL l) n ∧ ((ofL l).length : Int) = n
instance (l : List Int) (n : Int) : Decidable (OrdI l n) := by unfold OrdI; infer_instance
theorem put_length_new {l : List Int} {x : Int} (h : x ∉ l) : (putL l x).length = l.length + 1 := by
  induction l with
  | nil => rfl
  | cons y l ih =>
    simp at h
    unfold putL
    split
    · simp [ih h.2]
    · rw [if_neg (by omega)]; simp
theorem of_cons (x : Int) (l : List Int) : ofL (x :: l) = putL (ofL l) x := sorted_ext (of_sorted _) (put_sorted (of_sorted l)) fun y => by rw [mem_of, mem_put, mem_of, List.mem_cons]
theorem put_id {l : List Int} (h : l.Pairwise (· < ·)) {x : Int} (hx : x ∈ l) : putL l x = l := sorted_ext (put_sorted h) h fun y => by
  rw [mem_put]
  constructor
  · rintro (rfl | h)
    · exact hx
    · exact h
  · exact .inr
theorem of_length_nodup (l : List Int) : (ofL l).length = l.length ↔ l.Nodup := by
  induction l with
  | nil => simp [ofL]
  | cons x l ih =>
    rw [of_cons, List.nodup_cons]
    by_cases hx : x ∈ l
    · rw [put_id (of_sorted l) (mem_of.2 hx)]
      have := of_length l
      constructor
      · intro h; simp at h; omega
      · intro h; exact absurd hx h.1
    · rw [put_length_new (fun h => hx (mem_of.1 h)), List.length_cons]
      constructor
      · intro h; exact ⟨hx, ih.1 (by omega)⟩
      · intro h; rw [ih.2 h.2]
/-- The list has each number from 0 to n - 1 once, in plain words. -/
def Per (l : List Int) (n : Nat) : Prop := l.length = n ∧ l.Nodup ∧ ∀ x ∈ l, 0 ≤ x ∧ x < n
theorem ordI_per {l : List Int} {n : Nat} : OrdI l n ↔ Per l n := by
  unfold OrdI Per
  constructor
  · rintro ⟨h1, h2, h3⟩
    exact ⟨by omega, (of_length_nodup l).1 (by omega), fun x hx => h2.1 x (mem_of.2 hx)⟩
  · rintro ⟨h1, h2, h3⟩
    have := (of_length_nodup l).2 h2
    exact ⟨by omega, ⟨fun x hx => h3 x (mem_of.1 hx), of_sorted l⟩, by omega⟩

set_option maxHeartbeats 1000000 in
theorem rAll_any (A : Option Addr) (m c : Nat) (l : List Int) (n : Int) (w : World) (h : RI w A m l) (hm : m ≤ 1099511627776) :
    Calls Tryz.prog 49 #[.slice A m c, .int .i64 n] w fun e w' => e = .returned (.bool (decide (OrdI l n))) ∧ Below w.heap.size w w' := by
  have hlen := h.len
  by_cases h1 : (m : Int) = n
  · have q1 : ((m : Int) == n) = true := by simpa using h1
    by_cases h2 : Vld (ofL l) n
    · have hv : decide (OrdI l n) = decide (((ofL l).length : Int) = n) := by
        rw [Bool.eq_iff_iff, decide_eq_true_iff, decide_eq_true_iff]
        unfold OrdI
        constructor
        · exact fun h => h.2.2
        · exact fun h => ⟨by omega, h2, h⟩
      replace hv := Lib.hid hv
      replace hlen := Lib.hid hlen
      have h2' : decide (Vld (ofL l) n) = true := decide_eq_true h2
      replace h2' := Lib.hid h2'
      clear h1 h2
      go_enter Tryz.func49, Tryz.ntmps49
      go_wp2_with fail
      refine (of_any A m c l _ h hm).mono ?_
      rintro e w1 ⟨A1, n1, c1, rfl, hn1, hr1, hb1, hf1⟩
      have hl1 : n1 ≤ m := by have := of_length l; have := hr1.len; have := hlen.out; omega
      go_wp2_with fail
      refine (valid_any A1 n1 c1 (ofL l) n _ hr1 (by omega)).mono ?_
      rintro e w2 ⟨rfl, rfl⟩
      rw [h2'.out]
      have h3 := RI.below h hb1 (Nat.le_refl _)
      go_wp2_with fail
      refine (of_any A m c l _ h3 hm).mono ?_
      rintro e w3 ⟨A2, n2, c2, rfl, hn2, hr2, hb2, hf2⟩
      have hb3 := hb1.trans (hb2.mono hb1.size)
      have hl2 := Lib.hid hr2.len
      clear hb1 hb2 hr1 hf1 hf2
      go_wp2_with fail
      go_ret
      exact ⟨retBool (by rw [hv.out, hl2.out, Bool.eq_iff_iff]; simp), hb3⟩
    · have hv : decide (OrdI l n) = false := decide_eq_false fun h => h2 h.2.1
      replace hv := Lib.hid hv
      replace hlen := Lib.hid hlen
      have h2' : decide (Vld (ofL l) n) = false := decide_eq_false h2
      replace h2' := Lib.hid h2'
      clear h1 h2
      go_enter Tryz.func49, Tryz.ntmps49
      go_wp2_with fail
      refine (of_any A m c l _ h hm).mono ?_
      rintro e w1 ⟨A1, n1, c1, rfl, hn1, hr1, hb1, hf1⟩
      have hl1 : n1 ≤ m := by have := of_length l; have := hr1.len; have := hlen.out; omega
      go_wp2_with fail
      refine (valid_any A1 n1 c1 (ofL l) n _ hr1 (by omega)).mono ?_
      rintro e w2 ⟨rfl, rfl⟩
      rw [h2'.out]
      clear hr1 hf1
      go_wp2_with fail
      go_ret
      exact ⟨retBool hv.out.symm, hb1⟩
  · have q1 : ((m : Int) == n) = false := by simpa using h1
    have hv : decide (OrdI l n) = false := decide_eq_false fun h => h1 (by have := h.1; omega)
    replace hv := Lib.hid hv
    clear h1 hlen
    go_enter Tryz.func49, Tryz.ntmps49
    go_wp2_with fail
    go_ret
    exact ⟨retBool hv.out.symm, Below.refl _ _⟩

/-- How many neighbours stand behind each node. -/
def IsLater (nb : Int → List Int) (n : Nat) (o ls : List Int) : Prop := ls.length = n ∧ ∀ i v, o[i]? = some v → ls.getD v.toNat 0 = (dg nb (o.drop (i + 1)) v : Int)
def LaterTo (nb : Int → List Int) (n : Nat) (o ls : List Int) (k : Nat) : Prop := ls.length = n ∧ ∀ (i : Nat) (v : Int), i < k → o[i]? = some v → ls.getD v.toNat 0 = (dg nb (o.drop (i + 1)) v : Int)
theorem nodup_at {o : List Int} (h : o.Nodup) {i j : Nat} {v : Int} (hi : o[i]? = some v) (hj : o[j]? = some v) : i = j := by
  obtain ⟨h1, e1⟩ := List.getElem?_eq_some_iff.1 hi
  obtain ⟨h2, e2⟩ := List.getElem?_eq_some_iff.1 hj
  have hp := List.pairwise_iff_getElem.1 h
  rcases Nat.lt_trichotomy i j with h | h | h
  · exact absurd (e1.trans e2.symm) (hp i j h1 h2 h)
  · exact h
  · exact absurd (e2.trans e1.symm) (hp j i h2 h1 h)
theorem later_step {nb : Int → List Int} {n : Nat} {o ls : List Int} {k : Nat} {v : Int} (h : LaterTo nb n o ls k) (ho : Per o n) (hv : o[k]? = some v) : LaterTo nb n o (ls.set v.toNat (dg nb (o.drop (k + 1)) v : Nat)) (k + 1) := by
  refine ⟨by rw [List.length_set]; exact h.1, fun i u hi hu => ?_⟩
  have hv0 := ho.2.2 v (mem_at hv)
  have hu0 := ho.2.2 u (mem_at hu)
  rw [List.getD_eq_getElem?_getD]
  by_cases he : i = k
  · subst he
    rw [hv] at hu
    injection hu with hu
    subst hu
    rw [List.getElem?_set_self (by rw [h.1]; omega)]
    rfl
  · have hne : u.toNat ≠ v.toNat := fun e => he (nodup_at ho.2.1 hu (by rw [hv, show v = u by omega]))
    rw [List.getElem?_set_ne (by omega), ← List.getD_eq_getElem?_getD]
    exact h.2 i u (by omega) hu

end Go.Proofs.YtdibfecejgjfmaaGreatDoor
