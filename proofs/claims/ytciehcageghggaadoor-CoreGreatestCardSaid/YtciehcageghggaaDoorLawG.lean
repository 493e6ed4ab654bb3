/- The law CoreGreatest: its walk. -/
import Derived.Test.YtciehcageghggaaDoorLawO
import Derived.Test.YtciehcageghggaaDoorRCoA
import Derived.IntWalk
set_option linter.unusedVariables false
namespace Go.Proofs.YtciehcageghggaaDoor
open Go.RowKit CoBit

/-- A pass over a set that is thinned out. -/
structure PG (nb : Int → List Int) (n k : Int) (l0 l : List Int) (i : Nat) (again : Bool) : Prop where
  vld : Vld l n
  rest : ∀ x ∈ l0.drop i, x ∈ l
  len : l.length ≤ l0.length
  yes : again = true → l.length < l0.length
  no : again = false → l = l0 ∧ ∀ x ∈ l0.take i, k ≤ (dg nb l0 x : Int)
theorem PG.start {nb : Int → List Int} {n k : Int} {l : List Int} (h : Vld l n) : PG nb n k l l 0 false :=
  ⟨h, fun x hx => (by simpa using hx), Nat.le_refl _, (fun h => by cases h), fun _ => ⟨rfl, fun x hx => by simp at hx⟩⟩
theorem PG.keep {nb : Int → List Int} {n k v : Int} {l0 l : List Int} {i : Nat} {again : Bool} (h : PG nb n k l0 l i again) (hv : l0[i]? = some v) (hd : k ≤ (dg nb l v : Int)) : PG nb n k l0 l (i + 1) again :=
  ⟨h.vld, fun x hx => h.rest x (by rw [drop_at hv]; exact List.mem_cons_of_mem _ hx), h.len, h.yes, fun ha => by
    obtain ⟨h1, h2⟩ := h.no ha
    subst h1
    refine ⟨rfl, fun x hx => ?_⟩
    rw [take_at hv] at hx
    rcases List.mem_append.1 hx with hx | hx
    · exact h2 x hx
    · rw [List.mem_singleton.1 hx]; exact hd⟩
theorem PG.drop {nb : Int → List Int} {n k v : Int} {l0 l : List Int} {i : Nat} {again : Bool} (h : PG nb n k l0 l i again) (h0 : l0.Pairwise (· < ·)) (hv : l0[i]? = some v) : PG nb n k l0 (minusL l [v]) (i + 1) true := by
  have hin : v ∈ l := h.rest v (by rw [drop_at hv]; simp)
  have hshort : (minusL l [v]).length < l.length := by
    rw [minus_sorted h.vld.2]
    refine Nat.lt_of_le_of_ne (List.length_filter_le _ _) fun e => ?_
    have := List.length_filter_eq_length_iff.1 e v hin
    simp at this
  refine ⟨by rw [minus_sorted h.vld.2]; exact vld_filter h.vld _, fun x hx => ?_, by have := h.len; omega, (fun _ => by have := h.len; omega), (fun h => by cases h)⟩
  rw [minus_sorted h.vld.2, List.mem_filter]
  refine ⟨h.rest x (by rw [drop_at hv]; exact List.mem_cons_of_mem _ hx), ?_⟩
  simp
  rintro rfl
  have h1 : (l0.drop i).Pairwise (· < ·) := h0.drop
  rw [drop_at hv] at h1
  have := (List.pairwise_cons.1 h1).1 x hx
  omega
/-- A set each of whose nodes has at least k neighbours in it. -/
def Thin (nb : Int → List Int) (n k : Int) (l : List Int) : Prop := ∀ v ∈ l, inC nb n k v
theorem PG.done {nb : Int → List Int} {n k : Int} {l0 l : List Int} {i : Nat} (h : PG nb n k l0 l i false) (hi : l0.length ≤ i) : Thin nb n k l := by
  obtain ⟨rfl, h2⟩ := h.no rfl
  rw [List.take_of_length_le hi] at h2
  exact fun v hv => ⟨l, hv, fun u hu => ⟨(h.vld.1 u hu).1, (h.vld.1 u hu).2, h2 u hu⟩⟩

set_option maxRecDepth 100000 in
set_option maxHeartbeats 2000000 in
theorem lawGreatest_any (A0 : Option Addr) (m0 c0 : Nat) (l : List Int) (K0 : Int) (w : World) (hT : Tab w) (h0 : RI w A0 m0 l) (hmc : m0 ≤ c0) (hm0 : m0 ≤ 1152921504606846976) :
    Calls Tryd.prog 7 #[.slice A0 m0 c0, .int .i64 K0] w fun e w' => e = .returned (.bool true) ∧ Below w.heap.size w w' := by
  obtain ⟨K, hK⟩ : ∃ K, K = K0 % 4 := ⟨_, rfl⟩
  have hK0 : 0 ≤ K := by omega
  have hK1 : K < 4 := by omega
  have hm := fun w => mkmod_any K0 4 w (by omega) (by omega)
  rw [← hK] at hm
  replace hm := Lib.hid hm
  clear hK
  go_enter Tryd.func7, Tryd.ntmps7
  go_wp2_with fail
  refine (new_any A0 m0 c0 l w h0 hmc hm0).mono ?_
  rintro e w1 ⟨rfl, hd1, hb1, hs1⟩
  go_wp2_with fail
  refine (mkgraph_any _ 9 _ hd1 (by omega)).mono ?_
  rintro e w2 ⟨n, es, A, m, c, rfl, hmcc, hr2, hf2, hsrt, hn9, hd2, hg2⟩
  have hz := Lib.hid (chk_of_srt hsrt (by omega) (by omega))
  have hlen : m ≤ 81 := by
    have h1 := srt_len hsrt
    have h2 := hr2.len
    have h3 : n * n ≤ 9 * 9 := Nat.mul_le_mul hn9 hn9
    omega
  have hml := Lib.hid hr2.len
  have hb2 : Below w.heap.size w w2 := hb1.grown hg2 (by omega) (fun k hk => by injection hk with hk; omega)
  have hs2 := hb2.size
  have hA0 : Hid (∀ ad, A = some ad → some ad.block ≠ some w.heap.size) := Lib.hid fun ad h e => by have := hf2 ad h; injection e with e; omega
  clear hs1 hb1 hf2 hg2 h0
  go_wp2_with fail
  generalize hw3 : w2.alloc (.cells #[.int .i64 n, .slice A m c] 28) = w3
  have hG : Blk w3 w2.heap.size 28 #[.int .i64 n, .slice A m c] := hw3 ▸ Blk.new w2 _ _
  have hr3 : RE w3 A m es := hw3 ▸ hr2.alloc _
  have hd3 : Dk w3 w.heap.size := hw3 ▸ hd2.alloc _
  have hb3 : Below w.heap.size w w3 := hw3 ▸ hb2.alloc hs2 _
  have hdl := hd2.lt
  clear hw3 hr2 hb2 hd2
  generalize w2.heap.size = gg at *
  have hgl := hG.lt
  refine (mkset_any w.heap.size n w3 hd3 (by omega)).mono ?_
  rintro e w4 ⟨s1, A4, n4, c4, rfl, hn4, hv4, hr4, hf4, -, hg4⟩
  have hs4 := hg4.size
  have hr34 := hr3.kept hg4 hA0.out
  have hG4 := hG.grown hg4 (by simp; omega)
  have hb4 := hb3.trans (grown_is_below hg4 (Nat.le_refl _) (by omega))
  have hn4' : n4 ≤ 9 := by have := vld_length hv4; have := hr4.len; omega
  replace hv4 := Lib.hid hv4
  replace hf4 : Fr w.heap.size A4 := hf4.mono (by omega)
  clear hr3 hG hd3 hb3 hg4 hA0
  go_wp2_with fail
  refine (hm.out _).mono ?_
  rintro e w5 ⟨rfl, rfl⟩
  go_wp2_with fail
  obtain ⟨KK, hKK⟩ : ∃ KK, KK = 1 + K := ⟨_, rfl⟩
  rw [← hKK]
  have hKK1 : 1 ≤ KK := by omega
  have hKK2 : KK ≤ 4 := by omega
  clear hKK hK0 hK1 hm
  go_loopw [7, 9] (fun v b wr => ∃ (A' : Option Addr) (n' c' : Nat) (l : List Int) (again : Bool), v = .slice A' n' c' ∧ b = .bool again ∧ n' ≤ c' ∧ n' ≤ 9 ∧ RI wr A' n' l ∧ Hid (Vld l n) ∧ Hid (again = false → Thin (nbG n es) n KK l) ∧ Below w4.heap.size w4 wr)
    (fun v b _ => match v, b with | .slice _ n' _, .bool true => n' + 1 | _, _ => 0)
  case atStart => exact ⟨A4, n4, c4, s1, true, rfl, rfl, hn4, hn4', hr4, hv4, Lib.hid (fun h => by cases h), Below.refl _ _⟩
  case round =>
    obtain ⟨A', n', c', l, again, rfl, rfl, hnc, hn64, hr, hgd, hdone, hb⟩ := hrel
    clear hr4 hv4
    have hs5 := hb.size
    cases again
    · have hth := Lib.hid (hdone.out rfl)
      have hG5 := hG4.below hb hG4.lt
      have hr35 := hr34.below hb (Nat.le_refl _)
      obtain ⟨k50, k51⟩ := blk2 hG5
      have hbb5 := hb4.trans (hb.mono hb4.size)
      have hT5 := hT.keep hbb5
      clear hdone hG4 hr34 hb4 hb hf4
      go_wp2_with fail
      refine (cCore_any A m c n KK es _ hT5 hr35 (by omega)).mono ?_
      rintro e w6 ⟨l6, ⟨A6, n6, c6, rfl, hn6, hr6, hb6, hf6⟩, hl6⟩
      rw [hz.out]
      have hL6 := Lib.hid (hl6.1 hz.out)
      have hs6 := hb6.size
      have hG6 := hG5.below hb6 hG5.lt
      have hr36 := hr35.below hb6 (Nat.le_refl _)
      have hr66 := RI.below hr hb6 (Nat.le_refl _)
      have hbb6 := hbb5.trans (hb6.mono hbb5.size)
      have hn69 : n6 ≤ 9 := by have := vld_length hL6.out.1; have := hr6.len; omega
      have hall := Lib.hid (fun v (hv : v ∈ l6) => inC_dg ((hL6.out.2 v).1 hv) (fun u hu => (hL6.out.2 u).2 hu))
      clear hl6 hb6 hG5 hr35 k50 k51 hbb5 hT5 hr
      go_wp2_with fail
      go_loopw [55] (fun i wr => ∃ j : Nat, j ≤ n6 ∧ i = .int .i64 j ∧ Below w6.heap.size w6 wr) (fun i _ => n6 - (intOf i).toNat)
      case atStart => exact ⟨0, Nat.zero_le _, rfl, Below.refl _ _⟩
      case round =>
        rename_i wr2 _
        obtain ⟨j, hj, rfl, hb⟩ := hrel
        have hs7 := hb.size
        by_cases hlt : j < n6
        · obtain ⟨ad, v, rfl, hv, hcv⟩ := (RI.below hr6 hb (Nat.le_refl _)).get hlt
          have hG7 := hG6.below hb hG6.lt
          obtain ⟨k70, k71⟩ := blk2 hG7
          have hr37 := hr36.below hb (Nat.le_refl _)
          have hr67 := RI.below hr6 hb (Nat.le_refl _)
          have hnl := nbG_length n es v
          replace hnl : (nbG n es v).length ≤ 162 := by have := hml.out; omega
          have hmd := Lib.hid (meet_dg n es l6 v)
          have hge := hall.out v (mem_at hv.out)
          rw [← hmd.out] at hge
          clear hmd
          go_wp2_with fail
          refine (neigh_any _ m c n es v _ hr37 (by omega)).mono ?_
          rintro e w8 ⟨A8, n8, c8, rfl, hn8, hr8, hb8, hf8⟩
          have hln : n8 ≤ 162 := by have := hr8.len; omega
          have hr68 := RI.below hr67 hb8 (Nat.le_refl _)
          have hb68 := hb.trans (hb8.mono hs7)
          have hs8 := hb8.size
          clear hb8 hr67 hr37 k70 k71 hG7 hb
          go_wp2_with fail
          refine (meet_any A8 (some ad) n8 c8 n6 c6 _ l6 _ hr8 (by omega) hr68 (by omega)).mono ?_
          rintro e w9 ⟨A9, n9, c9, rfl, hn9, hr9, hb9, hf9⟩
          have hge9 : ¬ (n9 : Int) < KK := by have := hr9.len; omega
          have hb69 := hb68.trans (hb9.mono (by omega))
          have hq : decide ((n9 : Int) < KK) = false := by simpa using hge9
          clear hb9 hb68 hr9 hge hnl hr8 hr68 hge9
          go_wp2_with fail
          go_roundw
          case rel => exact ⟨j + 1, by omega, by go_num, hb69⟩
          case measure => simp [intOf]; omega
        · have hbb7 := hbb6.trans (hb.mono hbb6.size)
          have hT7 := hT.keep hbb7
          have hr67 := RI.below hr6 hb (Nat.le_refl _)
          have hr77 := RI.below hr66 hb (Nat.le_refl _)
          have hin : decide (∀ x ∈ l, x ∈ l6) = true := decide_eq_true fun x hx => (hL6.out.2 x).2 (hth.out x hx)
          have hwi := within2_any A' A6 n' c' n6 c6 l l6 _ hr77 (by omega) hr67 (by omega)
          rw [hin] at hwi
          replace hwi := Lib.hid hwi
          clear hin hr67 hr77 hr6 hr66 hb hbb6 hG6 hr36 hall
          go_wp2_with fail
          refine hwi.out.mono ?_
          rintro e w8 ⟨rfl, rfl⟩
          go_wp2_with fail
          refine (awake_any _ hT7).mono ?_
          rintro e w8 ⟨rfl, hb8⟩
          have hbb8 := hbb7.trans (hb8.mono hbb7.size)
          clear hb8 hbb7 hT7
          go_wp2_with fail
          go_ret
          exact ⟨rfl, hbb8⟩
    · clear hdone
      have hlen0 := Lib.hid hr.len
      have hp0 := Lib.hid (PG.start (nb := nbG n es) (k := KK) hgd.out)
      have hsort := Lib.hid hgd.out.2
      go_wp2_with fail
      obtain ⟨wo, rfl⟩ : ∃ wo : World, wo = wr := ⟨_, rfl⟩
      go_loopw [7, 9, 30] (fun v b i wr => ∃ (j : Nat) (A2 : Option Addr) (n2 c2 : Nat) (l2 : List Int) (again : Bool), j ≤ n' ∧ i = .int .i64 j ∧ v = .slice A2 n2 c2 ∧ b = .bool again ∧ n2 ≤ c2 ∧ n2 ≤ 9 ∧ RI wr A2 n2 l2 ∧ Hid (PG (nbG n es) n KK l l2 j again) ∧ Below wo.heap.size wo wr)
        (fun _ _ i _ => n' - (intOf i).toNat)
      case atStart => exact ⟨0, A', n', c', l, false, Nat.zero_le _, rfl, rfl, rfl, hnc, hn64, hr, hp0, Below.refl _ _⟩
      case round =>
        obtain ⟨j, A2, n2, c2, l2, again, hj, rfl, rfl, rfl, hnc2, hn2, hr2, hp, hb2⟩ := hrel
        clear hp0
        have hs2' := hb2.size
        have hbo := hb.trans (hb2.mono hs5)
        by_cases hlt : j < n'
        · obtain ⟨ad, v, rfl, hv, hcv⟩ := (RI.below hr hb2 (Nat.le_refl _)).get hlt
          have hG7 := hG4.below hbo hG4.lt
          obtain ⟨g0, g1⟩ := blk2 hG7
          have hRE := hr34.below hbo (Nat.le_refl _)
          have hnl := nbG_length n es v
          have hmd := meet_dg n es l2 v
          replace hnl : (nbG n es v).length ≤ 162 := by have := hml.out; omega
          clear hbo hG7
          go_wp2_with fail
          refine (neigh_any _ m c n es v _ hRE (by omega)).mono ?_
          rintro e w6 ⟨A3, n3, c3, rfl, hn3, hr3, hb3, hf3⟩
          have hln : n3 ≤ 162 := by have := hr3.len; omega
          replace hr2 := RI.below hr2 hb3 (Nat.le_refl _)
          have hs3 := hb3.size
          have hb23 := hb2.trans (hb3.mono hs2')
          clear hb3 hf3 g0 g1 hRE hb2
          go_wp2_with fail
          refine (meet_any A3 A2 n3 c3 n2 c2 _ l2 _ hr3 (by omega) hr2 (by omega)).mono ?_
          rintro e w7 ⟨A5, n5, c5, rfl, hn5, hr5, hb5, hf5⟩
          have hd5 : n5 = dg (nbG n es) l2 v := by rw [← hmd, hr5.len]
          replace hd5 := Lib.hid hd5
          replace hr2 := RI.below hr2 hb5 (Nat.le_refl _)
          have hs6 := hb5.size
          replace hb23 := hb23.trans (hb5.mono (by omega))
          clear hr5 hb5 hf5 hr3 hmd hnl
          by_cases hk : (n5 : Int) < KK
          · have hpd := Lib.hid (hp.out.drop hsort.out hv.out)
            have hq : decide ((n5 : Int) < KK) = true := by simpa using hk
            go_wp2_with fail
            refine (minus_any A2 _ n2 c2 1 1 l2 [v] _ (hr2.alloc _) (by omega) (RI.one v) (by omega)).mono ?_
            rintro e w8 ⟨A9, n9, c9, rfl, hn9', hr9, hb9, hf9⟩
            simp only [World.size_alloc] at hb9 hf9
            have hn99 : n9 ≤ 9 := by
              have h1 := hpd.out.len
              have h2 := hr9.len
              have h3 := hlen0.out
              omega
            replace hb23 := (hb23.alloc (by omega) (.cells #[.int .i64 v] 3)).trans (hb9.mono (by omega))
            clear hb9 hr2
            go_wp2_with fail
            go_roundw
            case rel => exact ⟨j + 1, A9, n9, c9, _, true, by omega, by go_num, rfl, rfl, hn9', hn99, hr9, hpd, hb23⟩
            case measure => simp [intOf]; omega
          · have hpk := Lib.hid (hp.out.keep hv.out (by rw [← hd5.out]; omega))
            have hq : decide ((n5 : Int) < KK) = false := by simpa using hk
            clear hk
            go_wp2_with fail
            go_roundw
            case rel => exact ⟨j + 1, A2, n2, c2, _, again, by omega, by go_num, rfl, rfl, hnc2, hn2, hr2, hpk, hb23⟩
            case measure => simp [intOf]; omega
        · have hdone : again = false → Thin (nbG n es) n KK l2 := by
            rintro rfl
            exact hp.out.done (by rw [hlen0.out]; omega)
          have hlen2 : again = true → n2 < n' := fun ha => by
            have := hp.out.yes ha
            have := hr2.len
            have := hlen0.out
            omega
          have hgd2 := Lib.hid hp.out.vld
          replace hdone := Lib.hid hdone
          replace hlen2 := Lib.hid hlen2
          clear hb2
          go_wp2_with fail
          go_roundw
          case rel => exact ⟨A2, n2, c2, l2, again, rfl, rfl, hnc2, hn2, hr2, hgd2, hdone, hbo⟩
          case measure =>
            cases again
            · simp
            · have := hlen2.out rfl
              simp; omega
end Go.Proofs.YtciehcageghggaaDoor
