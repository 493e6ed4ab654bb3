/- The law LevelsCores. -/
import Derived.Test.YticekkjambkifaaDoorAwkL
import Derived.Test.YticekkjambkifaaDoorLvcP
set_option linter.unusedVariables false
set_option linter.unusedSimpArgs false
namespace Go.Proofs.YticekkjambkifaaDoor.Fl
open Go.RowKit Go.Proofs.YticekkjambkifaaDoor CoBit CoRat Rt

set_option maxRecDepth 100000 in
set_option maxHeartbeats 8000000 in
theorem lawCores_any (A0 : Option Addr) (m0 c0 : Nat) (l : List Int) (w : World) (hT : Tab w) (h0 : RI w A0 m0 l) (hmc : m0 ≤ c0) (hm0 : m0 ≤ 1152921504606846976) :
    Calls Tryd.prog 3 #[.slice A0 m0 c0] w fun e w' => e = .returned (.bool true) ∧ Below w.heap.size w w' := by
  go_enter Tryd.func3, Tryd.ntmps3
  go_wp2_with fail
  refine (new_any A0 m0 c0 l w h0 hmc hm0).mono ?_
  rintro e w1 ⟨rfl, hd1, hb1, hs1⟩
  go_wp2_with fail
  refine (mkgraph_any _ 8 _ hd1 (by omega)).mono ?_
  rintro e w2 ⟨n, es, A, m, c, rfl, hmcc, hr2, hf2, hsrt, hn9, hd2, hg2⟩
  have hz := Lib.hid (chk_of_srt hsrt (show (0 : Int) ≤ n by omega) (by omega))
  have hlen : m ≤ 81 := by
    have h1 := srt_len hsrt
    have h2 := hr2.len
    have h3 : n * n ≤ 8 * 8 := Nat.mul_le_mul hn9 hn9
    omega
  have hb2 : Below w.heap.size w w2 := hb1.grown hg2 (by omega) (fun k hk => by injection hk with hk; omega)
  have hs2 := hb2.size
  clear hs1 hb1 hf2 hg2 h0 hd1 hd2 hsrt
  go_upto_region 2 with fail
  have G3 := Blk.new w2 25 #[.int .i64 n, .slice A m c]
  have E3 := hr2.alloc (.cells #[.int .i64 n, .slice A m c] 25)
  have B3 := hb2.alloc hs2 (.cells #[.int .i64 n, .slice A m c] 25)
  clear hr2 hb2
  generalize w2.alloc (.cells #[.int .i64 n, .slice A m c] 25) = w3 at *
  generalize w2.heap.size = gg at *
  obtain ⟨d0, d1⟩ := blkG G3
  have hT3 := hT.keep B3
  have kb := Lib.hid (numbers_any A m c n es w3 E3 hT3 (by omega) hz.out (by omega))
  go_upto_region 3 with (first
    | (go_at_call 14; (with_reducible refine kb.out.mono ?_); intro e w4 hq; obtain ⟨g, ls, rfl, hP, hF, hb4, hgl⟩ := hq)
    | fail)
  have G4 := G3.below hb4 G3.lt
  have E4 := E3.below hb4 (Nat.le_refl _)
  have B4 := B3.trans (hb4.mono B3.size)
  clear G3 E3 B3 hb4 hT3 kb d0 d1
  obtain ⟨d0, d1⟩ := blkG G4
  have kr := rNumbers_any A m c (n : Int) es w4 E4 (by omega)
  rw [hz.out] at kr
  replace kr := Lib.hid kr
  replace hP := Lib.hid hP
  go_upto_region 4 with (first
    | (go_at_call 15; (with_reducible refine kr.out.mono ?_); intro e w5 hq; obtain ⟨nl, ⟨A5, n5, c5, rfl, hn5, hr5, hb5, hf5⟩, hN⟩ := hq)
    | fail)
  have hNu : Hid (IsNums (nbG n es) n nl) := Lib.hid (by have := hN.1 hz.out; rwa [Int.toNat_natCast] at this)
  obtain rfl : n = n5 := by rw [← hr5.len]; exact hNu.out.1.symm
  have F5 := hF.below hb5
  have B5 := B4.trans (hb5.mono B4.size)
  clear G4 E4 B4 hb5 kr d0 d1 hF hN hgl hf5
  have hex : Hid (∀ k, k < n → ∃ N D c : Nat, nmb ls k = ((N : Int), (D : Int)) ∧ nl.getD k 0 = (c : Int) ∧ N ≤ c * D ∧ c * D ≤ 2 * N ∧ N ≤ 266240 ∧ D ≤ 64 ∧ c ≤ 133120 * 64) := Lib.hid (fun k hk => core_gain hP.out hz.out (by omega) hNu.out hk)
  clear hP hNu
  go_upto_region 7 with fail
  go_loopw [34] (fun i wr => ∃ k : Nat, k ≤ n ∧ i = .int .i64 (k : Nat) ∧ Below w5.heap.size w5 wr) (fun i _ => n - (intOf i).toNat)
  case atStart => exact ⟨0, Nat.zero_le _, rfl, Below.refl _ _⟩
  case round =>
    obtain ⟨k, hk, rfl, hb⟩ := hrel
    by_cases hlt : k < n
    · have i0 : (k : Int) < (n : Int) := by omega
      have i1 : (0 : Int) ≤ (k : Int) := by omega
      obtain ⟨N, D, cc, hnm, hcc, hlo, hup, hN6, hD6, hc6⟩ := hex.out k hlt
      obtain ⟨y0, y1⟩ := (F5.below hb).cell hlt
      rw [hnm] at y0 y1
      simp only at y0 y1
      have Sr := (hr5.below hb (Nat.le_refl _)).alloc (.cells #[.int .i64 (N : Nat), .int .i64 (D : Nat)] 36)
      obtain ⟨ad, rfl, hca⟩ := Sr.at_ hlt
      rw [hcc] at hca
      have X6 := Blk.new wr 36 #[.int .i64 (N : Nat), .int .i64 (D : Nat)]
      have B6 := hb.alloc hb.size (.cells #[.int .i64 (N : Nat), .int .i64 (D : Nat)] 36)
      obtain ⟨P, hPe⟩ : ∃ P, P = cc * D := ⟨_, rfl⟩
      rw [← hPe] at hlo hup
      have e1 : (cc : Int) * (D : Int) = (P : Int) := by rw [hPe]; simp
      clear hPe hnm hcc
      go_upto_region 9 with fail
      clear y0 y1 hb
      generalize wr.alloc (.cells #[.int .i64 (N : Nat), .int .i64 (D : Nat)] 36) = w6 at *
      generalize wr.heap.size = gx at *
      have x0 := Blk.cell X6 0
      have x1 := Blk.cell X6 1
      simp at x0 x1
      have q1 : decide ((P : Int) < (N : Int)) = false := decide_eq_false (by omega)
      have q2 : decide (2 * (N : Int) < (P : Int)) = false := decide_eq_false (by omega)
      have w1 : IntKind.i64.wrap (P : Int) = (P : Int) := by rw [IntKind.wrap_i64]; omega
      have w2 : IntKind.i64.wrap (2 * (N : Int)) = 2 * (N : Int) := by rw [IntKind.wrap_i64]; omega
      clear hlo hup hN6 hD6 hc6 Sr X6
      generalize (N : Int) = NI at *
      generalize (D : Int) = DI at *
      generalize (cc : Int) = CI at *
      generalize (P : Int) = PI at *
      go_quiet (fail)
      go_wp2_with fail
      go_roundw
      case rel => exact ⟨k + 1, by omega, by go_num, below_drewN B6 _⟩
      case measure => simp [intOf]; omega
    · obtain rfl : k = n := by omega
      have i0 : ¬ (k : Int) < (k : Int) := by omega
      have Br := B5.trans (hb.mono B5.size)
      have ka := Lib.hid (awake22_any wr (hT.keep Br))
      clear hex F5 hr5
      go_wp2_with (first
        | (go_at_call 16; (with_reducible refine ka.out.mono ?_); rintro e w7 ⟨rfl, hb7⟩)
        | fail)
      go_ret
      exact ⟨rfl, Br.trans (hb7.mono Br.size)⟩
end Go.Proofs.YticekkjambkifaaDoor.Fl
