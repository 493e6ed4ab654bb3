/- The reference's fault, Count, Ending, Instances. -/
import Derived.Test.YtkcmbpokoijglaaMobE
set_option linter.unusedVariables false
set_option linter.unusedSimpArgs false
namespace CoMot
theorem fnd_few {l : List Tick} {w : Int} {M : List Step} (hl : l.length ≤ 12) : (fnd l w M M.length []).length ≤ 4096 := by
  rw [fnd_inst, List.length_map]; exact inst_4096 hl w M
theorem endc_fnd (l : List Tick) (w : Int) (M : List Step) : endc l w M = ((fnd l w M M.length []).filter (fun a => decide (a.getLast? = some (l.length - 1)))).length := by
  rw [fnd_inst, List.filter_map, List.length_map]; rfl
theorem fnd_row {l : List Tick} {w : Int} {M : List Step} (hw : 0 ≤ w) (hl : ∀ y ∈ l, 0 ≤ y.t) : ∀ a ∈ fnd l w M M.length [], a.length = M.length := by
  intro a ha
  rw [fnd_inst] at ha
  obtain ⟨p, hp, rfl⟩ := List.mem_map.1 ha
  exact ((mem_inst hw hl p).1 hp).1
end CoMot
namespace Go.Proofs.Ytkcmbpokoijglaa
open Go.RowKit CoMot

set_option maxRecDepth 100000 in
set_option maxHeartbeats 4000000 in
theorem rfault_any (A B : Option Addr) (n c m d : Nat) (l : List Tick) (s : List Step) (v : Int) (w : World) (h : RS TE w A n l) (h' : RS SE w B m s) (hn : n ≤ 1099511627776) (hmd : m ≤ d) :
    Calls Try.prog 53 #[.slice A n c, .slice B m d, .int .i64 v] w fun r w' => r = .returned (.int .i64 (chkA l s v)) ∧ Below w.heap.size w w' := by
  have kc := rcheck31_any A n c l w h hn
  have kv := Lib.hid fun A n c m w h hc => rvalid31_any A n c m w h hc
  by_cases e1 : chkL l = 0
  · rw [e1] at kc
    replace kc := Lib.hid kc
    cases hv : vld s with
    | false =>
      have hR : Hid (chkA l s v = 4) := Lib.hid (by unfold chkA; rw [if_neg (by rw [e1]; simp), if_pos hv])
      replace e1 := Lib.hid e1
      replace hv := Lib.hid hv
      go_enter Try.func53, Try.ntmps53
      go_wp2_with fail
      (with_reducible refine (kc.out).mono ?_); rintro e w1 ⟨rfl, hb1⟩
      go_wp2_with fail
      (with_reducible refine (kv.out _ _ _ _ _ (h'.below hb1 (Nat.le_refl _)) hmd).mono ?_); rintro e w2 ⟨rfl, hb2⟩
      rw [hv.out]
      have hb := hb1.trans (hb2.mono hb1.size)
      go_wp2_with fail
      go_ret
      exact ⟨by rw [hR.out]; rfl, hb⟩
    | true =>
      have hR : Hid (chkA l s v = spn v) := Lib.hid (by unfold chkA; rw [if_neg (by rw [e1]; simp), if_neg (by rw [hv]; simp)])
      replace e1 := Lib.hid e1
      replace hv := Lib.hid hv
      by_cases h0 : v < 0
      · have d1 : decide (v < 0) = true := decide_eq_true h0
        have hS : Hid (spn v = 1) := Lib.hid (by unfold spn; rw [if_pos (.inl h0)])
        go_enter Try.func53, Try.ntmps53
        go_wp2_with fail
        (with_reducible refine (kc.out).mono ?_); rintro e w1 ⟨rfl, hb1⟩
        go_wp2_with fail
        (with_reducible refine (kv.out _ _ _ _ _ (h'.below hb1 (Nat.le_refl _)) hmd).mono ?_); rintro e w2 ⟨rfl, hb2⟩
        rw [hv.out]
        have hb := hb1.trans (hb2.mono hb1.size)
        go_wp2_with fail
        go_ret
        exact ⟨by rw [hR.out, hS.out]; rfl, hb⟩
      · have d1 : decide (v < 0) = false := decide_eq_false h0
        by_cases h1 : 1048576 < v
        · have d2 : decide (1048576 < v) = true := decide_eq_true h1
          have hS : Hid (spn v = 1) := Lib.hid (by unfold spn; rw [if_pos (.inr h1)])
          go_enter Try.func53, Try.ntmps53
          go_wp2_with fail
          (with_reducible refine (kc.out).mono ?_); rintro e w1 ⟨rfl, hb1⟩
          go_wp2_with fail
          (with_reducible refine (kv.out _ _ _ _ _ (h'.below hb1 (Nat.le_refl _)) hmd).mono ?_); rintro e w2 ⟨rfl, hb2⟩
          rw [hv.out]
          have hb := hb1.trans (hb2.mono hb1.size)
          go_wp2_with fail
          go_ret
          exact ⟨by rw [hR.out, hS.out]; rfl, hb⟩
        · have d2 : decide (1048576 < v) = false := decide_eq_false h1
          have hS : Hid (spn v = 0) := Lib.hid (by unfold spn; rw [if_neg (by omega)])
          go_enter Try.func53, Try.ntmps53
          go_wp2_with fail
          (with_reducible refine (kc.out).mono ?_); rintro e w1 ⟨rfl, hb1⟩
          go_wp2_with fail
          (with_reducible refine (kv.out _ _ _ _ _ (h'.below hb1 (Nat.le_refl _)) hmd).mono ?_); rintro e w2 ⟨rfl, hb2⟩
          rw [hv.out]
          have hb := hb1.trans (hb2.mono hb1.size)
          go_wp2_with fail
          go_ret
          exact ⟨by rw [hR.out, hS.out]; rfl, hb⟩
  · have hR : Hid (chkA l s v = chkL l) := Lib.hid (by unfold chkA; rw [if_pos e1])
    have q : (chkL l != 0) = true := by simpa using e1
    replace e1 := Lib.hid e1
    replace kc := Lib.hid kc
    go_enter Try.func53, Try.ntmps53
    go_wp2_with fail
    (with_reducible refine (kc.out).mono ?_); rintro e w1 ⟨rfl, hb1⟩
    go_wp2_with fail
    go_ret
    exact ⟨by rw [hR.out]; rfl, hb1⟩
/-- What find leaves when it begins with nothing. -/
theorem rfind0_any (A B : Option Addr) (n c m d : Nat) (l : List Tick) (s : List Step) (v : Int) (w : World) (h : RS TE w A n l) (h' : RS SE w B m s) (hn : n ≤ 12) (he : chkA l s v = 0) :
    Calls Try.prog 54 #[.slice A n c, .slice B m d, .int .i64 v, .slice none 0 0, .slice none 0 0] w fun r w' => ∃ A' k c', r = .returned (.slice A' k c') ∧ k ≤ c' ∧ RL NE w' A' k (fnd l v s s.length []) ∧ Below w.heap.size w w' := by
  obtain ⟨f1, f2, f3⟩ := chkA_zero he
  obtain ⟨t1, t2, t3, _⟩ := chkL_zero f1
  obtain ⟨v1, v2⟩ := vld_len f2
  have hl := h.len
  have hl' := h'.len
  have := rfind_any A B n c m d l s v (by omega) (by omega) (by omega) t2 m none 0 0 [] (.slice none 0 0) [] (fun _ => False) w h h' RS.none_ (Nat.le_refl _) LO.nil_ (fun _ _ _ h => h) (fun _ _ _ h => h) (fun _ _ _ h => h) (by omega) (by simp) (by
    rw [← hl']
    have := fnd_few (w := v) (M := s) (l := l) (by omega)
    simp only [List.length_nil]; omega)
  refine this.mono ?_
  rintro r w' ⟨out', Q', rfl, g1, g2, g3⟩
  obtain ⟨A', c', rfl, g4, g5⟩ := g1.len
  rw [hl']
  exact ⟨A', _, c', rfl, g4, g5, g2.below (Nat.le_refl _) (fun k _ h => h)⟩
set_option maxRecDepth 100000 in
set_option maxHeartbeats 4000000 in
theorem rcount_any (A B : Option Addr) (n c m d : Nat) (l : List Tick) (s : List Step) (v : Int) (w : World) (h : RS TE w A n l) (h' : RS SE w B m s) (hn : n ≤ 12) (hmd : m ≤ d) :
    Calls Try.prog 27 #[.slice A n c, .slice B m d, .int .i64 v] w fun r w' => r = .returned (.tuple #[.int .i64 (cntR l s v), .int .i64 (chkA l s v)]) ∧ Below w.heap.size w w' := by
  have kf := rfault_any A B n c m d l s v w h h' (by omega) hmd
  by_cases e1 : chkA l s v = 0
  · rw [e1] at kf
    have hR : Hid (cntR l s v = ((fnd l v s s.length []).length : Int)) := Lib.hid (by unfold cntR; rw [if_pos e1, fnd_inst, List.length_map])
    have kd := Lib.hid fun w h h' => rfind0_any A B n c m d l s v w h h' hn e1
    replace kf := Lib.hid kf
    have hE := Lib.hid e1
    clear e1
    go_enter Try.func27, Try.ntmps27
    go_wp2_with fail
    (with_reducible refine (kf.out).mono ?_); rintro e w1 ⟨rfl, hb1⟩
    go_wp2_with fail
    (with_reducible refine (kd.out _ (h.below hb1 (Nat.le_refl _)) (h'.below hb1 (Nat.le_refl _))).mono ?_); rintro e w2 ⟨A', k, c', rfl, hk, hr, hb2⟩
    have hb := hb1.trans (hb2.mono hb1.size)
    have hlen := Lib.hid hr.len
    go_wp2_with fail
    go_ret2
    exact ⟨by rw [hR.out, hE.out, hlen.out]; rfl, hb⟩
  · have hR : Hid (cntR l s v = 0) := Lib.hid (by unfold cntR; rw [if_neg e1])
    have q : (chkA l s v != 0) = true := by simpa using e1
    replace e1 := Lib.hid e1
    replace kf := Lib.hid kf
    go_enter Try.func27, Try.ntmps27
    go_wp2_with fail
    (with_reducible refine (kf.out).mono ?_); rintro e w1 ⟨rfl, hb1⟩
    go_wp2_with fail
    go_ret2
    exact ⟨by rw [hR.out]; rfl, hb1⟩
end Go.Proofs.Ytkcmbpokoijglaa
