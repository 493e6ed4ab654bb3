/- Reference 19: Right, Loads, Bound of any split. -/
import Derived.Test.YticekkjambkifaaGreatDoorZam
import Derived.Test.YticekkjambkifaaGreatDoorRsN
set_option linter.unusedVariables false
set_option linter.unusedSimpArgs false
namespace Go.Proofs.YticekkjambkifaaGreatDoor.Fl
open Go.RowKit Go.Proofs.YticekkjambkifaaGreatDoor CoBit CoRat Rt

attribute [local irreducible] wpQuiet wpStill in
set_option maxRecDepth 100000 in
set_option maxHeartbeats 4000000 in
theorem rright_any (A0 : Option Addr) (m c0 : Nat) (den : Int) (A : Option Addr) (k c : Nat) (ps : List Int) (w : World) (h0 : RI w A0 m (List.replicate m 1)) (h : RI w A k ps) (hm : m ≤ 68719476736) (hk : k ≤ 68719476736) :
    Calls Tryz.prog 36 #[.slice A0 m c0, .agg #[.int .i64 den, .slice A k c]] w fun e w' => e = .returned (.bool (decide (FitS m den ps))) ∧ Below w.heap.size w w' := by
  have hl := h.len
  have b0 : Below w.heap.size w (w.alloc (.cells #[.int .i64 den, .slice A k c] 36)) := (Below.refl _ w).alloc (Nat.le_refl _) _
  have S0 := Blk.new w 36 #[.int .i64 den, .slice A k c]
  have hno : ∀ b : Bool, (FitS m den ps → b = true) → (¬ FitS m den ps → b = false) → decide (FitS m den ps) = b := fun b h1 h2 => by
    by_cases h : FitS m den ps
    · rw [decide_eq_true h, h1 h]
    · rw [decide_eq_false h, h2 h]
  by_cases h2 : den < 1
  · rw [hno false (fun h => by have := h.1; omega) (fun _ => rfl)]
    clear hno
    go_enter Tryz.func36, Tryz.ntmps36
    go_wp2_with fail
    go_ret
    exact ⟨rfl, b0⟩
  · by_cases h3 : 1048576 < den
    · rw [hno false (fun h => by have := h.2.1; omega) (fun _ => rfl)]
      clear hno
      go_enter Tryz.func36, Tryz.ntmps36
      go_wp2_with fail
      go_ret
      exact ⟨rfl, b0⟩
    · by_cases h4 : k = m
      · subst h4
        obtain ⟨R, hR⟩ : ∃ R, R = decide (FitS k den ps) := ⟨_, rfl⟩
        rw [← hR]
        replace hR := Lib.hid hR
        have hl2 := Lib.hid hl
        clear hno hl
        go_enter Tryz.func36, Tryz.ntmps36
        go_wp2_with fail
        go_loopw [26] (fun i wr => ∃ j, j ≤ k ∧ i = .int .i64 (j : Nat) ∧ Hid (FitP den (ps.take j)) ∧ Blk wr w.heap.size 36 #[.int .i64 den, .slice A k c] ∧ Below w.heap.size w wr) (fun i _ => k - (intOf i).toNat)
        case atStart => exact ⟨0, Nat.zero_le _, rfl, Lib.hid (fun p hp => by simp at hp), S0, b0⟩
        case round =>
          obtain ⟨j, hj, rfl, hf, hS, hb⟩ := hrel
          clear b0 S0
          by_cases hlt : j < k
          · have i0 : (j : Int) < (k : Int) := by omega
            obtain ⟨ad, p, rfl, hpv, hcp⟩ := (h.below hb (Nat.le_refl _)).get hlt
            obtain ⟨ad0, y, rfl, hyv, hcy⟩ := (h0.below hb (Nat.le_refl _)).get hlt
            obtain rfl : y = 1 := by
              have := hyv.out
              rw [List.getElem?_replicate, if_pos hlt] at this
              injection this with this
              exact this.symm
            have t0 := Blk.cell hS 0
            simp at t0
            have j0 : (0 : Int) ≤ (j : Int) := by omega
            have hmem := Lib.hid (List.mem_of_getElem? hpv.out)
            by_cases hp : 0 ≤ p ∧ p ≤ den
            · have q3 : decide (p < 0) = false := decide_eq_false (by omega)
              have q4 : decide (den < p) = false := decide_eq_false (by omega)
              have hnx : Hid (FitP den (ps.take (j + 1))) := Lib.hid (by
                intro q hq
                obtain ⟨hkl, he⟩ := List.getElem?_eq_some_iff.1 hpv.out
                rw [List.take_succ_eq_append_getElem hkl] at hq
                rcases List.mem_append.1 hq with hq | hq
                · exact hf.out q hq
                · rw [List.mem_singleton, he] at hq; subst hq; exact hp)
              clear hpv hyv hf hp
              go_wp2_with fail
              go_quiet (fail)
              have hS2 := hS.drewN nq
              have hb2 := below_drewN hb nq
              go_wp2_with fail
              go_roundw
              case rel => exact ⟨j + 1, by omega, by go_num, hnx, hS2, hb2⟩
              case measure => simp [intOf]; omega
            · have hRf : R = false := by rw [hR.out]; exact decide_eq_false (fun hh => hp (hh.2.2.2 p hmem.out))
              subst hRf
              by_cases hp0 : p < 0
              · have q3 : decide (p < 0) = true := decide_eq_true hp0
                clear hpv hyv hf hp
                go_wp2_with fail
                go_quiet (fail)
                have hb2 := below_drewN hb nq
                go_wp2_with fail
                go_ret
                exact ⟨rfl, hb2⟩
              · have q3 : decide (p < 0) = false := decide_eq_false hp0
                have q4 : decide (den < p) = true := decide_eq_true (by omega)
                clear hpv hyv hf hp
                go_wp2_with fail
                go_quiet (fail)
                have hb2 := below_drewN hb nq
                go_wp2_with fail
                go_ret
                exact ⟨rfl, hb2⟩
          · obtain rfl : j = k := by omega
            have i0 : ¬ (j : Int) < (j : Int) := by omega
            have hRt : R = true := by
              rw [hR.out]
              refine decide_eq_true ⟨by omega, by omega, hl2.out, ?_⟩
              have := hf.out
              rwa [List.take_of_length_le (by rw [hl2.out]; exact Nat.le_refl _)] at this
            subst hRt
            clear hf
            go_wp2_with fail
            go_ret
            exact ⟨rfl, hb⟩
      · rw [hno false (fun h => absurd (hl.symm.trans h.2.2.1) h4) (fun _ => rfl)]
        have q0 : ((k : Int) != (m : Int)) = true := by rw [bne_iff_ne]; omega
        clear hno hl h4
        go_enter Tryz.func36, Tryz.ntmps36
        go_wp2_with fail
        go_ret
        exact ⟨rfl, b0⟩
end Go.Proofs.YticekkjambkifaaGreatDoor.Fl
