/- The sanity check of chapter 35. -/
import Derived.Test.YtbaebeackbciaaaJouG
import Derived.Test.YtbaebeackbciaaaJouN
set_option linter.unusedVariables false
set_option linter.unusedSimpArgs false
namespace Go.Proofs.Ytbaebeackbciaaa
open Go.RowKit CoEv

set_option maxRecDepth 100000 in
set_option maxHeartbeats 4000000 in
theorem awake35_any (w : World) : Calls Try.prog 10 #[] w fun e w' => e = .returned (.bool true) ∧ Below w.heap.size w w' := by
  have hap : apL [] [awE] = btc [awE] := by unfold apL; rw [show ([] : List Nat).length = 0 from rfl, if_pos aw_rt]; rfl
  have hbl := Lib.hid (btc_len [awE])
  have ka : Hid (∀ (g : Nat) w, RS EE w (some ⟨g, 0, none⟩) 1 [awE] → Calls Try.prog 17 #[.slice none 0 0, .slice (some ⟨g, 0, none⟩) 1 1] w (RetGE BE w (btc [awE]) 0)) := Lib.hid fun g w hr => by
    have := jappend_any none 0 0 [] (some ⟨g, 0, none⟩) 1 1 [awE] w RS.none_ (Nat.le_refl _) hr (by omega) (by omega)
    rwa [hap, show ([] : List Nat).length = 0 from rfl, aw_rt] at this
  have kr := Lib.hid fun (A : Option Addr) (n c : Nat) w h hc hn => jread_any A n c (btc [awE]) w h (btc_byt _) hc hn
  clear hap
  have ks : Hid (∀ w, Calls Try.prog 18 #[.slice none 0 0] w fun e w' => e = .returned (.int .u32 2166136261) ∧ w' = w) := Lib.hid fun w => jsum_any none 0 0 [] w RS.none_ (fun x hx => by cases hx) (by omega)
  go_enter Try.func10, Try.ntmps10
  go_wp2_with fail
  have hE := Blk.new w 55 #[.int .i64 2, .int .i64 3, .int .i64 0, .int .i64 1, .int .i64 0, .int .i64 0, .int .i64 0]
  have hb0 : Below w.heap.size w ((w.alloc (.cells #[.int .i64 2, .int .i64 3, .int .i64 0, .int .i64 1, .int .i64 0, .int .i64 0, .int .i64 0] 55)).alloc (.cells #[.int .i64 2, .int .i64 3, .int .i64 0, .int .i64 1, .int .i64 0, .int .i64 0, .int .i64 0] 55)) := ((Below.refl _ _).alloc (Nat.le_refl _) _).alloc (by simp) _
  have hS : RS EE ((w.alloc (.cells #[.int .i64 2, .int .i64 3, .int .i64 0, .int .i64 1, .int .i64 0, .int .i64 0, .int .i64 0] 55)).alloc (.cells #[.int .i64 2, .int .i64 3, .int .i64 0, .int .i64 1, .int .i64 0, .int .i64 0, .int .i64 0] 55)) (some ⟨w.heap.size + 1, 0, none⟩) 1 [awE] := RS.blk (Blk.new' _ _ _ (by simp)) rfl rfl
  (with_reducible refine (ka.out _ _ hS).mono ?_)
  rintro e w1 ⟨A1, n1, c1, rfl, hc1, hr1, hb1, hf1⟩
  have hn1 : n1 = 16 := by rw [← hr1.len, hbl.out]; rfl
  subst hn1
  have hE1 := (hE.alloc (.cells #[.int .i64 2, .int .i64 3, .int .i64 0, .int .i64 1, .int .i64 0, .int .i64 0, .int .i64 0] 55)).below hb1 (by simp; omega)
  replace hb0 := hb0.trans (hb1.mono (by simp; omega))
  clear hE hS hb1 hf1
  go_wp2_with fail
  (with_reducible refine (kr.out _ _ _ _ hr1 hc1 (by omega)).mono ?_)
  rintro e w2 ⟨A2, n2, c2, L, k, rfl, hc2, hr2, hrd, hb2, hf2⟩
  obtain ⟨rfl, rfl⟩ := hrd.unique aw_read
  have hn2 : n2 = 1 := by rw [← hr2.len]; rfl
  subst hn2
  have hE2 := hE1.below hb2 hE1.lt
  replace hb0 := hb0.trans (hb2.mono hb0.size)
  obtain ⟨ad, A3, n3, c3, ys, rfl, hcell, hy, hc3, hr3, hlt3⟩ := hr2.get (i := 0) (by omega)
  have hys : ys = [awE] := by have := hy.out; injection this with this; exact this.symm
  subst hys
  have hn3 : n3 = 1 := by rw [← hr3.len]; rfl
  subst hn3
  obtain ⟨bd, ev, rfl, hlt4, hev, e0, e1, e2, e3, e4, e5, e6⟩ := hr3.ev (k := 0) (by omega)
  have hev' : ev = awE := by have := hev.out; injection this with this; exact this.symm
  subst hev'
  clear hE1 hb2 hr1 hr2 hf2 hrd hy hr3 hev hc1 hc2 hc3 ka kr
  replace hcell : w2.cell? ad = some (.slice (some bd) 1 c3) := hcell
  replace e0 : w2.cell? bd = some (.int .i64 2) := e0
  replace e1 : w2.cell? ⟨bd.block, bd.off + 1, none⟩ = some (.int .i64 3) := e1
  replace e2 : w2.cell? ⟨bd.block, bd.off + 2, none⟩ = some (.int .i64 0) := e2
  replace e3 : w2.cell? ⟨bd.block, bd.off + 3, none⟩ = some (.int .i64 1) := e3
  replace e4 : w2.cell? ⟨bd.block, bd.off + 4, none⟩ = some (.int .i64 0) := e4
  replace e5 : w2.cell? ⟨bd.block, bd.off + 5, none⟩ = some (.int .i64 0) := e5
  replace e6 : w2.cell? ⟨bd.block, bd.off + 6, none⟩ = some (.int .i64 0) := e6
  have t0 := hE2.cell 0
  have t1 := hE2.cell 1
  have t2 := hE2.cell 2
  have t3 := hE2.cell 3
  have t4 := hE2.cell 4
  have t5 := hE2.cell 5
  have t6 := hE2.cell 6
  simp at t0 t1 t2 t3 t4 t5 t6
  clear hE2
  go_wp2_with fail
  go_quiet (first | (go_at_call 18; exact Calls.quiet_of_same (ks.out _)))
  go_wp2_with fail
  go_ret
  exact ⟨rfl, below_drewN hb0 _⟩
end Go.Proofs.Ytbaebeackbciaaa
