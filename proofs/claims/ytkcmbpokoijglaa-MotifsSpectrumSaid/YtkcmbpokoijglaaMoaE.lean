/- motifs.Ending: the function that counts, and what it does in motifs.each. -/
import Derived.Test.YtkcmbpokoijglaaMoaD
set_option linter.unusedVariables false
set_option linter.unusedSimpArgs false
namespace CoMot
/-- One more, if the last index is i. -/
def up1 (i : Nat) (at' : List Nat) : Nat := if at'.getLast? = some i then 1 else 0
theorem filt_snoc (i : Nat) (p : List (List Nat × List Step)) (q : List Nat × List Step) : ((p ++ [q]).filter (lastB i)).length = (p.filter (lastB i)).length + up1 i q.1 := by
  rw [List.filter_append, List.length_append]
  congr 1
  unfold up1 lastB
  by_cases h : q.1.getLast? = some i
  · rw [if_pos h]; simp [h]
  · rw [if_neg h]; simp [h]
end CoMot
namespace Go.Proofs.Ytkcmbpokoijglaa
open Go.RowKit CoMot

theorem wrap_up (a : Nat) : wrap64 (wrap64 (a : Int) + 1) = wrap64 ((a + 1 : Nat) : Int) := by unfold wrap64; omega
theorem wrap_small {a : Int} (h : -1000000 ≤ a) (h2 : a ≤ 1000000) : IntKind.i64.wrap a = a := IntWalk.i64_in _ ⟨by omega, by omega⟩
set_option maxRecDepth 100000 in
set_option maxHeartbeats 4000000 in
theorem end2_any (g ga go a : Nat) (A B : Option Addr) (n c m d o : Nat) (at' : List Nat) (u : Value) (w : World) (h : RS NE w B m at') (hm : 0 < m) (hm4 : m ≤ 4096) (hn : n ≤ 4096) (ho : o < n) (hg : Blk w g 3 #[.int .i64 (wrap64 (a : Int))]) (B1 : Blk w ga 27 #[.slice A n c]) (B2 : Blk w go 3 #[.int .i64 (o : Int)]) :
    Calls Try.prog 57 #[.slice B m d, u, .pointer (some ⟨ga, 0, none⟩), .pointer (some ⟨go, 0, none⟩), .pointer (some ⟨g, 0, none⟩)] w fun e w' => e = .returned (.bool true) ∧ Same (fun k => k = g) w w' ∧ Blk w' g 3 #[.int .i64 (wrap64 ((a + up1 (n - o - 1) at' : Nat) : Int))] := by
  obtain ⟨ad, x, rfl, hbl, hx, q0⟩ := h.nat (show m - 1 < m by omega)
  have b0 := Blk.cell hg 0
  have f0 := Blk.frozen hg 0
  have a1 := Blk.cell B1 0
  have a2 := Blk.cell B2 0
  simp at b0 f0 a1 a2
  have hlast : at'.getLast? = some x := by rw [List.getLast?_eq_getElem?, h.len]; exact hx.out
  have e1 : IntKind.i64.wrap ((m : Int) - 1) = ((m - 1 : Nat) : Int) := by rw [wrap_small (by omega) (by omega)]; omega
  have e2 : IntKind.i64.wrap ((n : Int) - (o : Int)) = ((n - o : Nat) : Int) := by rw [wrap_small (by omega) (by omega)]; omega
  have e3 : IntKind.i64.wrap (((n - o : Nat) : Int) - 1) = ((n - o - 1 : Nat) : Int) := by rw [wrap_small (by omega) (by omega)]; omega
  have i2 : (0 : Int) ≤ ((m - 1 : Nat) : Int) := Int.natCast_nonneg _
  have i3 : ((m - 1 : Nat) : Int) < (m : Int) := by omega
  by_cases hd : x = n - o - 1
  · have hup : up1 (n - o - 1) at' = 1 := by unfold up1; rw [hlast, if_pos (by rw [hd])]
    have hb : ((x : Int) == ((n - o - 1 : Nat) : Int)) = true := by rw [hd]; simp
    rw [hup]
    have hw : Hid (wrap64 (wrap64 (a : Int) + 1) = wrap64 ((a + 1 : Nat) : Int)) := Lib.hid (wrap_up a)
    have hs := fun x => Same.set w g 0 x
    have hbb := fun x => Blk.set hg 0 x
    replace hs := Lib.hid hs
    replace hbb := Lib.hid hbb
    generalize wrap64 (a : Int) = y at *
    generalize n - o - 1 = z at *
    generalize n - o = z2 at *
    generalize m - 1 = z3 at *
    clear hx hlast hd hup h hg B1 B2
    go_enter Try.func57, Try.ntmps57
    go_wp2_with fail
    go_quiet (fail)
    go_wp2_with fail
    go_ret
    rw [hw.out]
    exact ⟨rfl, ((Same.refl (fun k => k = g) w).drewN _).trans (Same.set _ g 0 _) (fun k _ hk => hk), hbb.out _⟩
  · have hup : up1 (n - o - 1) at' = 0 := by unfold up1; rw [hlast, if_neg (fun e => hd (Option.some.inj e))]
    have hb : ((x : Int) == ((n - o - 1 : Nat) : Int)) = false := by simp; omega
    rw [hup]
    generalize n - o - 1 = z at *
    generalize n - o = z2 at *
    generalize m - 1 = z3 at *
    clear hx hlast hd hup h B1 B2
    go_enter Try.func57, Try.ntmps57
    go_wp2_with fail
    go_quiet (fail)
    go_wp2_with fail
    go_ret
    exact ⟨rfl, (Same.refl _ _).drewN _, hg⟩
/-- Ending's J: the counter's block holds how many ended with the last tick. -/
def eJ (g z : Nat) (pre : List (List Nat × List Step)) (W : World) (ow : Nat → Prop) : Prop := (∀ k, ow k ↔ k = g) ∧ Blk W g 3 #[.int .i64 (wrap64 (((pre.filter (lastB z)).length : Nat) : Int))]
theorem tk_end {W : World} {g gf ga go : Nat} {A A' B : Option Addr} {n n' c c' m d o : Nat} {l : List Tick} {M : List Step} {wd : Int} (h : RS TE W A' n' l) (hnc : n' ≤ c') (hn : n ≤ 4096) (hn' : n' = n - o) (ho : o < n) (hM : RS SE W B m M) (hmd : m ≤ d) (hm4 : m ≤ 4) (hm1 : 1 ≤ m) (hg : g < W.heap.size) (hgl : ∀ ad, A' = some ad → 0 < n' → ad.block ≠ g) (hgm : ∀ ad, B = some ad → 0 < m → ad.block ≠ g) (hgf : gf ≠ g) (hfB : Blk W gf 29 #[.slice B m d])
    (hga : ga ≠ g) (B1 : Blk W ga 27 #[.slice A n c]) (hgo : go ≠ g) (B2 : Blk W go 3 #[.int .i64 (o : Int)])
    (ht : ∀ x ∈ l, 0 ≤ x.t ∧ x.t ≤ 1048576) (hs : ∀ i j, i ≤ j → j < n' → tim l i ≤ tim l j) (hw : 0 ≤ wd ∧ wd ≤ 1048576) :
    TK ⟨l, A', n', c', m, wd, 65, #[.pointer (some ⟨gf, 0, none⟩)], 57, #[.pointer (some ⟨ga, 0, none⟩), .pointer (some ⟨go, 0, none⟩), .pointer (some ⟨g, 0, none⟩)], W.heap.size, W, fun k => k = g⟩ (pre M) (eJ g (n' - 1)) (fun _ _ _ => False) where
  keep := fun p W W' ow hJ hs => ⟨hJ.1, hs.blk hJ.2 (fun hn => hn ((hJ.1 g).2 rfl))⟩
  keepx := fun _ _ _ _ h _ => h
  call := fun at' ms s p hI hK _ hJ => by
    obtain ⟨A9, n9, c9, e9, hn9, hnc9, -, hr9, -⟩ := hI.oa.form
    have B1' := hI.kp.blk B1 hga
    have B2' := hI.kp.blk B2 hgo
    have hK' : at'.length = m := hK
    have q1 : 0 < n9 := by omega
    have q2 : n9 ≤ 4096 := by omega
    have e : (#[s.av, s.mv] ++ #[.pointer (some ⟨ga, 0, none⟩), .pointer (some ⟨go, 0, none⟩), .pointer (some ⟨g, 0, none⟩)] : Array Value) = #[.slice A9 n9 c9, s.mv, .pointer (some ⟨ga, 0, none⟩), .pointer (some ⟨go, 0, none⟩), .pointer (some ⟨g, 0, none⟩)] := by rw [e9]; rfl
    have kl := end2_any g ga go _ A A9 n c n9 c9 o at' s.mv s.W hr9 q1 q2 hn ho hJ.2 B1' B2'
    rw [← e] at kl
    refine kl.mono ?_
    rintro r W' ⟨rfl, h1, h2⟩
    refine ⟨s.ow, h1.mono (fun k _ hk => (hJ.1 k).2 hk), fun k hk => .inl hk, fun k hk => ?_, .inl ⟨rfl, hJ.1, ?_⟩⟩
    · rw [(hJ.1 k).1 hk]; exact h2.lt
    · rw [filt_snoc, hn']; rw [hn'] at h2; exact h2
  fits := fun at' ms s A'' n'' c'' xs hI hr hc hn'' => by
    have hMs : RS SE s.W B m M := hM.same hI.kp hgm
    exact of1_any gf A'' B n'' c'' m d xs M s.W hr (hI.kp.blk hfB hgf) hMs hmd hn'' (by have h4 : n'' ≤ m := hn''; omega)
  enterT := enter_end2
  enterF := enter_of1
  four := hm4
  tick := h
  cap := hnc
  lim := (by omega : n' ≤ 4096)
  far := hgl
  time := ht
  asc := hs
  wide := hw
end Go.Proofs.Ytkcmbpokoijglaa
