/- motifs.Ending: the functions that look for the first tick that is not too old, and that count. -/
import Derived.Test.YtkcmbpokoijglaaMotK
import Derived.Test.YtkcmbpokoijglaaMoaA
import Derived.Test.YtkcmbpokoijglaaMotR
import Derived.BigQuiet
set_option linter.unusedVariables false
set_option linter.unusedSimpArgs false
namespace Go.Proofs.Ytkcmbpokoijglaa
open Go.RowKit CoMot

theorem enter_end1 (args : Array Value) (w : World) : Sem.run Try.prog (callFunc 56 args) w = .ok (.enter 56 args) w := by
  have h1 : ¬ Try.f56.name = "runtime.NumGoroutine" := fun h => by
    have h2 : ( Try.f56.name == "runtime.NumGoroutine") = false := by kernel_rfl
    rw [h] at h2; simp at h2
  have h3 : ¬ Try.f56.body = none := by
    have h2 : Try.f56.body.isNone = false := by kernel_rfl
    intro h; rw [h] at h2; cases h2
  simp [callFunc, go_sem, Try.func56, h1, h3]
theorem enter_end2 (args : Array Value) (w : World) : Sem.run Try.prog (callFunc 57 args) w = .ok (.enter 57 args) w := by
  have h1 : ¬ Try.f57.name = "runtime.NumGoroutine" := fun h => by
    have h2 : ( Try.f57.name == "runtime.NumGoroutine") = false := by kernel_rfl
    rw [h] at h2; simp at h2
  have h3 : ¬ Try.f57.body = none := by
    have h2 : Try.f57.body.isNone = false := by kernel_rfl
    intro h; rw [h] at h2; cases h2
  simp [callFunc, go_sem, Try.func57, h1, h3]
set_option maxRecDepth 100000 in
set_option maxHeartbeats 4000000 in
/-- Is this tick not too old? -/
theorem end1_any (ga gw : Nat) (A : Option Addr) (n c : Nat) (l : List Tick) (wd u v t : Int) (w : World) (h : RS TE w A n l) (h0 : 0 < n) (hn : n ≤ 4096) (B1 : Blk w ga 27 #[.slice A n c]) (B2 : Blk w gw 3 #[.int .i64 wd])
    (ht : ∀ x ∈ l, 0 ≤ x.t ∧ x.t ≤ 1048576) (ht0 : 0 ≤ t ∧ t ≤ 1048576) :
    Calls Try.prog 56 #[.agg #[.int .i64 u, .int .i64 v, .int .i64 t], .pointer (some ⟨ga, 0, none⟩), .pointer (some ⟨gw, 0, none⟩)] w fun e w' => e = .returned (.bool (decide (tim l (n - 1) - t ≤ wd))) ∧ Below w.heap.size w w' := by
  obtain ⟨ad, x, y, tt, rfl, hbl, hx, -, q0, q1, q2⟩ := h.tk' (show n - 1 < n by omega)
  have htt := ht _ (List.mem_of_getElem? hx)
  have et : tim l (n - 1) = tt := by unfold tim; rw [hx]; rfl
  rw [et]
  have a1 := Blk.cell B1 0
  have a2 := Blk.cell B2 0
  simp at a1 a2
  have e1 : IntKind.i64.wrap ((n : Int) - 1) = ((n - 1 : Nat) : Int) := by rw [IntWalk.i64_in _ ⟨by omega, by omega⟩]; omega
  have i2 : (0 : Int) ≤ ((n - 1 : Nat) : Int) := Int.natCast_nonneg _
  have i3 : ((n - 1 : Nat) : Int) < (n : Int) := by omega
  simp only at htt
  have e2 : IntKind.i64.wrap (tt - t) = tt - t := IntWalk.i64_in _ ⟨by omega, by omega⟩
  have hlt1 := B1.lt
  have hlt2 := B2.lt
  have hb0 : Below w.heap.size w (w.alloc (.cells #[.int .i64 u, .int .i64 v, .int .i64 t] 33)) := (Below.refl _ _).alloc (Nat.le_refl _) _
  have hN := Blk.new w 33 #[.int .i64 u, .int .i64 v, .int .i64 t]
  have z2 : (w.alloc (.cells #[.int .i64 u, .int .i64 v, .int .i64 t] 33)).cell? ⟨w.heap.size, 2, none⟩ = some (.int .i64 t) := Blk.cell hN 2
  replace a1 := (hb0.cell (p := ⟨ga, 0, none⟩) hlt1).trans a1
  replace a2 := (hb0.cell (p := ⟨gw, 0, none⟩) hlt2).trans a2
  replace q2 := (hb0.cell (p := ⟨(ad.add ((n - 1) * 3)).block, (ad.add ((n - 1) * 3)).off + 2, none⟩) (by show (ad.add ((n - 1) * 3)).block < _; rw [block_of_add]; exact hbl)).trans q2
  clear hx et hlt1 hlt2 hN q0 q1 B1 B2 ht h
  go_enter Try.func56, Try.ntmps56
  go_wp2_with fail
  generalize w.alloc (.cells #[.int .i64 u, .int .i64 v, .int .i64 t] 33) = wz at *
  generalize hgs : w.heap.size = gs at *
  go_quiet (fail)
  go_wp2_with fail
  go_ret
  exact ⟨rfl, by rw [hgs]; exact below_drewN hb0 _⟩
set_option maxRecDepth 100000 in
set_option maxHeartbeats 4000000 in
/-- The first tick that is not too old. -/
theorem endix_any (ga gw : Nat) (A : Option Addr) (n c : Nat) (l : List Tick) (wd : Int) (w : World) (h : RS TE w A n l) (h0 : 0 < n) (hn : n ≤ 4096) (B1 : Blk w ga 27 #[.slice A n c]) (B2 : Blk w gw 3 #[.int .i64 wd])
    (ht : ∀ x ∈ l, 0 ≤ x.t ∧ x.t ≤ 1048576) (hw : 0 ≤ wd) :
    Calls Try.prog 55 #[.slice A n c, .func (.func 56) #[] #[.pointer (some ⟨ga, 0, none⟩), .pointer (some ⟨gw, 0, none⟩)]] w fun e w' => ∃ o : Nat, e = .returned (.int .i64 (o : Int)) ∧ o < n ∧ Hid (∀ i, i < o → wd < tim l (n - 1) - tim l i) ∧ Below w.heap.size w w' := by
  have ke := Lib.hid fun u v t w h B1 B2 ht0 => end1_any ga gw A n c l wd u v t w h h0 hn B1 B2 ht ht0
  have ken := enter_end1
  go_enter Try.func55, Try.ntmps55
  go_wp2_with fail
  go_loopw [8] (fun i wr => ∃ k : Nat, k ≤ n ∧ i = .int .i64 k ∧ Hid (∀ i, i < k → wd < tim l (n - 1) - tim l i) ∧ Below w.heap.size w wr) (fun i _ => n - (intOf i).toNat)
  case atStart => exact ⟨0, Nat.zero_le _, rfl, Lib.hid (fun i hi => by omega), Below.refl _ _⟩
  case round =>
    obtain ⟨k, hk, rfl, hx, hb⟩ := hrel
    by_cases hlt : k < n
    · have hr := RS.below h hb (Nat.le_refl _)
      obtain ⟨ad, x, y, tt, rfl, hbl, hx1, -, q0, q1, q2⟩ := hr.tk' hlt
      have htt := ht _ (List.mem_of_getElem? hx1)
      simp only at htt
      have et : tim l k = tt := by unfold tim; rw [hx1]; rfl
      have i2 : (0 : Int) ≤ (k : Int) := Int.natCast_nonneg _
      have i3 : (k : Int) < (n : Int) := by omega
      have kk := Lib.hid (ke.out x y tt wr hr (B1.below hb B1.lt) (B2.below hb B2.lt) htt)
      clear hx1
      go_wp2_with fail
      (with_reducible refine kk.out.mono ?_)
      rintro e w2 ⟨rfl, hb2⟩
      rw [← et]
      have hb' := hb.trans (hb2.mono hb.size)
      by_cases hd : tim l (n - 1) - tim l k ≤ wd
      · rw [decide_eq_true hd]
        go_wp2_with fail
        go_ret
        exact ⟨k, rfl, hlt, hx, hb'⟩
      · rw [decide_eq_false hd]
        go_wp2_with fail
        go_roundw
        case rel => exact ⟨k + 1, by omega, by go_num, Lib.hid (fun i hi => by
          rcases Nat.lt_or_ge i k with h1 | h1
          · exact hx.out i h1
          · obtain rfl : i = k := by omega
            omega), hb'⟩
        case measure => simp [intOf]; omega
    · exfalso
      obtain rfl : k = n := by omega
      have := hx.out (k - 1) (by omega)
      omega
end Go.Proofs.Ytkcmbpokoijglaa
