/- Printed by merge.py from FlwG, FlwH, CloM. -/
import Derived.Test.YticekkjambkifaaDoorFlwD
import Derived.Test.YticekkjambkifaaDoorFlwE
import Derived.Test.YticekkjambkifaaDoorZad
/- The greatest flow. -/
set_option linter.unusedVariables false
set_option linter.unusedSimpArgs false
namespace Go.Proofs.YticekkjambkifaaDoor.Fl
open Go.RowKit Go.Proofs.YticekkjambkifaaDoor
/-- All that the arcs can bear. -/
def capT (ac : List Ar) : Nat := ((List.range ac.length).map fun k => (ac.getD k (0, 0, 0)).2.2).sum
theorem sum_range_le (M : Nat) (g : Nat → Int) (h : Nat → Nat) (e : ∀ k, k < M → g k ≤ (h k : Int)) : ((List.range M).map g).sum ≤ (((List.range M).map h).sum : Nat) := by
  induction M with
  | zero => simp
  | succ M ih =>
    rw [List.range_succ, List.map_append, List.map_append, List.sum_append, List.sum_append]
    have h1 := ih (fun k hk => e k (by omega))
    have h2 := e M (by omega)
    simp only [List.map_cons, List.map_nil, List.sum_cons, List.sum_nil]
    omega
theorem sum_nat_le (M : Nat) (h : Nat → Nat) (b : Nat) (e : ∀ k, k < M → h k ≤ b) : ((List.range M).map h).sum ≤ M * b := by
  induction M with
  | zero => simp
  | succ M ih =>
    rw [List.range_succ, List.map_append, List.sum_append]
    have h1 := ih (fun k hk => e k (by omega))
    have h2 := e M (by omega)
    simp only [List.map_cons, List.map_nil, List.sum_cons, List.sum_nil]
    rw [Nat.succ_mul]
    omega
theorem ex_le {ac : List Ar} {L : List Nat} (h : OkL ac L) (u : Nat) : ex ac L u ≤ capT ac := by
  refine sum_range_le _ _ _ fun k hk => ?_
  have h1 := h.2 k hk
  unfold exK
  have h2 : ind ((ac.getD k (0, 0, 0)).1 = u) - ind ((ac.getD k (0, 0, 0)).2.1 = u) ≤ 1 := by unfold ind; split <;> split <;> omega
  have h3 : ((L.getD (2 * k + 1) 0 : Nat) : Int) * (ind ((ac.getD k (0, 0, 0)).1 = u) - ind ((ac.getD k (0, 0, 0)).2.1 = u)) ≤ (L.getD (2 * k + 1) 0 : Nat) * 1 := Int.mul_le_mul_of_nonneg_left h2 (Int.natCast_nonneg _)
  omega
theorem capT_le {ac : List Ar} (h : CapB ac) (hM : ac.length ≤ 1048576) : capT ac ≤ 1152921504606846976 := by
  have h1 := sum_nat_le ac.length (fun k => (ac.getD k (0, 0, 0)).2.2) 1099511627776 h
  have h2 : ac.length * 1099511627776 ≤ 1048576 * 1099511627776 := Nat.mul_le_mul_right _ hM
  unfold capT
  omega
theorem ex_zero {ac : List Ar} {L : List Nat} (h : ∀ k, k < ac.length → L.getD (2 * k + 1) 0 = 0) (u : Nat) : ex ac L u = 0 := by
  unfold ex
  rw [sum_range_eq _ _ (fun _ => 0) (fun k hk => by unfold exK; rw [h k hk]; simp)]
  generalize ac.length = M
  induction M with
  | zero => rfl
  | succ M ih => rw [List.range_succ, List.map_append, List.sum_append, ih]; rfl
/-- A flow that can't be greater. -/
structure Full (N : Nat) (ac : List Ar) (src sink : Nat) (L : List Nat) (lev : List Int) : Prop where
  ok : OkL ac L
  cons : ∀ u, u ≠ src → u ≠ sink → ex ac L u = 0
  lay : Lay N ac src L lev
  cut : lev.getD sink 0 < 0
set_option maxRecDepth 100000 in
set_option maxHeartbeats 4000000 in
theorem greatest_any (p : NP) (N : Nat) (ac : List Ar) (outs : List (List Nat)) (sink src : Nat) (L nx : List Nat) (lev : List Int) (hsr : src < N) (hsk : sink < N) (hne : src ≠ sink) (w : World) (h : NetM w p N ac outs sink L lev nx) (hN : Net N ac outs) (hll : lev.length = N) (hnl : nx.length = N) (hok : OkL ac L) (hz : ∀ u, ex ac L u = 0) (hcap : CapB ac) (hNm : N ≤ 1048576) (hM : ac.length ≤ 1048576) :
    Calls Tryd.prog 143 #[.pointer (some ⟨p.x, 0, none⟩), .int .i64 (src : Nat)] w fun e w' => ∃ val L' lev' nx', e = .returned (.int .i64 (val : Nat)) ∧ (val : Int) = ex ac L' src ∧ Full N ac src sink L' lev' ∧ NetM w' p N ac outs sink L' lev' nx' ∧ Same (fun k => k = p.gh ∨ k = p.gl ∨ k = p.gn) w w' := by
  have hct := capT_le hcap hM
  go_enter Tryd.func143, Tryd.ntmps143
  go_wp2_with fail
  go_loopg [5] (capT ac) (fun g s wr => ∃ (L1 : List Nat) (lev1 : List Int) (nx1 : List Nat) (val : Nat), s = .int .i64 (val : Nat) ∧ Hid (OkL ac L1) ∧ NetM wr p N ac outs sink L1 lev1 nx1 ∧ Hid (lev1.length = N ∧ nx1.length = N) ∧ Hid ((val : Int) = ex ac L1 src) ∧ Hid (∀ u, u ≠ src → u ≠ sink → ex ac L1 u = 0) ∧ Same (fun k => k = p.gh ∨ k = p.gl ∨ k = p.gn) w wr ∧ capT ac - val ≤ g ∧ val ≤ capT ac)
  case atStart => exact ⟨L, lev, nx, 0, rfl, Lib.hid hok, h, Lib.hid ⟨hll, hnl⟩, Lib.hid (by rw [hz]; rfl), Lib.hid (fun u _ _ => hz u), Same.refl _ _, by omega, Nat.zero_le _⟩
  case round =>
    obtain ⟨L1, lev1, nx1, val, rfl, ho, hMw, hlen, hval, hcons, hsm, hg, hvc⟩ := hrel
    have kl := Lib.hid (layers_any p N ac outs sink L1 nx1 lev1 src hsr hsk wr hMw hN hlen.out.1 hlen.out.2 hNm hM)
    clear hlen
    go_wp2_with fail
    refine kl.out.mono ?_
    clear kl hMw
    rintro e w1 ⟨lev2, rfl, hlay, M1, s1⟩
    have hsm1 := hsm.trans s1 (fun k _ e => by rcases e with e | e; exact .inr (.inl e); exact .inr (.inr e))
    clear hsm s1
    by_cases hlv : 0 ≤ lev2.getD sink 0
    · have q0 : decide (0 ≤ lev2.getD sink 0) = true := decide_eq_true hlv
      rw [q0]
      have kp := Lib.hid (push_any p N ac outs sink lev2 hN hcap hlay.len hsk hlay.low hlay.up hNm hM N src 4611686018427387904 L1 (List.replicate N 0) w1 M1 ho.out (by rw [List.length_replicate]) (fun u => by
        have : (List.replicate N 0).getD u 0 = 0 := by
          rw [List.getD_eq_getElem?_getD, List.getElem?_replicate]
          split <;> rfl
        rw [this]; exact Nat.zero_le _) hsr (by omega) (by omega) (by rw [hlay.at_]; omega) (by rw [hlay.at_]; omega))
      have hpos := fun r L' nx' => push_pos (N := N) (ac := ac) (outs := outs) (src := src) (sink := sink) (lev := lev2) (most := 4611686018427387904) (L := L1) (nx := List.replicate N 0) (L' := L') (nx' := nx') (r := r) hN hlay hlv hsk (fun u => by
        rw [List.getD_eq_getElem?_getD, List.getElem?_replicate]
        split <;> rfl)
      have hlen2 := Lib.hid hlay.len
      replace hlay := Lib.hid hlay
      replace hpos := Lib.hid hpos
      clear hlv q0 M1
      go_wp2_with fail
      refine kp.out.mono ?_
      clear kp
      rintro e w2 ⟨r, L2, nx2, rfl, hp, M2, s2⟩
      have hr1 := hpos.out r L2 nx2 hp
      have hsm2 := hsm1.trans s2 (fun k _ e => by rcases e with e | e; exact .inl e; exact .inr (.inr e))
      have hex : ((val + r : Nat) : Int) = ex ac L2 src := by
        rw [hp.exc src, ← hval.out]
        unfold ind
        rw [if_pos rfl, if_neg (fun e => hne e.symm)]
        omega
      have hco : ∀ u, u ≠ src → u ≠ sink → ex ac L2 u = 0 := fun u h1 h2 => by
        rw [hp.exc u, hcons.out u h1 h2]
        unfold ind
        rw [if_neg (fun e => h1 e.symm), if_neg (fun e => h2 e.symm)]
        simp
      have hle := ex_le hp.ok src
      rw [← hex] at hle
      have hsum : ((val + r : Nat) : Int) = (val : Int) + (r : Int) := by omega
      have w0 : -9223372036854775808 ≤ (val : Int) + (r : Int) := by omega
      have w3 : (val : Int) + (r : Int) ≤ 9223372036854775807 := by omega
      have hfin := Lib.hid (And.intro hp.ok (And.intro hp.nlen (And.intro hex hco)))
      clear hex hco hsm1 s2 hpos
      replace hp := Lib.hid hp
      go_wp2_with fail
      go_roundg (capT ac - (val + r))
      case rel => exact ⟨L2, lev2, nx2, val + r, by rw [hsum], Lib.hid hfin.out.1, M2, Lib.hid ⟨hlen2.out, hfin.out.2.1⟩, Lib.hid hfin.out.2.2.1, Lib.hid hfin.out.2.2.2, hsm2, Nat.le_refl _, by omega⟩
      case measure => omega
    · have q0 : decide (0 ≤ lev2.getD sink 0) = false := decide_eq_false hlv
      rw [q0]
      have hf : Full N ac src sink L1 lev2 := ⟨ho.out, hcons.out, hlay, by omega⟩
      replace hf := Lib.hid hf
      clear q0 hlv hlay
      go_wp2_with fail
      go_ret
      exact ⟨val, L1, lev2, _, rfl, hval.out, hf.out, M1, hsm1⟩
end Go.Proofs.YticekkjambkifaaDoor.Fl

/- A greatest flow and its least cut, in plain Lean. -/
set_option linter.unusedVariables false
set_option linter.unusedSimpArgs false
namespace Go.Proofs.YticekkjambkifaaDoor.Fl

def sumZ (M : Nat) (f : Nat → Int) : Int := ((List.range M).map f).sum
theorem sumZ_succ (M : Nat) (f : Nat → Int) : sumZ (M + 1) f = sumZ M f + f M := by
  unfold sumZ
  rw [List.range_succ, List.map_append, List.sum_append]; simp
theorem sumZ_zero (f : Nat → Int) : sumZ 0 f = 0 := rfl
theorem sumZ_congr {M : Nat} {f g : Nat → Int} (h : ∀ k, k < M → f k = g k) : sumZ M f = sumZ M g := sum_range_eq M f g h
theorem sumZ_le {M : Nat} {f g : Nat → Int} (h : ∀ k, k < M → f k ≤ g k) : sumZ M f ≤ sumZ M g := by
  induction M with
  | zero => simp [sumZ_zero]
  | succ M ih => rw [sumZ_succ, sumZ_succ]; have := ih (fun k hk => h k (by omega)); have := h M (by omega); omega
theorem sumZ_tight {M : Nat} {f g : Nat → Int} (h : ∀ k, k < M → f k ≤ g k) (h2 : sumZ M g ≤ sumZ M f) : ∀ k, k < M → f k = g k := by
  induction M with
  | zero => intro k hk; omega
  | succ M ih =>
    rw [sumZ_succ, sumZ_succ] at h2
    have h3 := sumZ_le (M := M) (fun k hk => h k (by omega))
    have h4 := h M (by omega)
    intro k hk
    rcases Nat.lt_or_ge k M with hlt | hge
    · exact ih (fun k hk => h k (by omega)) (by omega) k hlt
    · obtain rfl : k = M := by omega
      omega
theorem sumZ_add {M : Nat} (f g : Nat → Int) : sumZ M (fun k => f k + g k) = sumZ M f + sumZ M g := by
  induction M with
  | zero => rfl
  | succ M ih => rw [sumZ_succ, sumZ_succ, sumZ_succ, ih]; omega
theorem sumZ_mul {M : Nat} (c : Int) (f : Nat → Int) : sumZ M (fun k => c * f k) = c * sumZ M f := by
  induction M with
  | zero => simp [sumZ_zero]
  | succ M ih => rw [sumZ_succ, sumZ_succ, ih, Int.mul_add]
theorem sumZ_nil {M : Nat} {f : Nat → Int} (h : ∀ k, k < M → f k = 0) : sumZ M f = 0 := by
  induction M with
  | zero => rfl
  | succ M ih => rw [sumZ_succ, ih (fun k hk => h k (by omega)), h M (by omega)]; rfl
def frA (ac : List Ar) (k : Nat) : Nat := (ac.getD k (0, 0, 0)).1
def toA (ac : List Ar) (k : Nat) : Nat := (ac.getD k (0, 0, 0)).2.1
def cpA (ac : List Ar) (k : Nat) : Nat := (ac.getD k (0, 0, 0)).2.2
/-- What goes over arc k. -/
def flw (L : List Nat) (k : Nat) : Nat := L.getD (2 * k + 1) 0
def indB (b : Bool) : Int := if b then 1 else 0
theorem ex_eq (ac : List Ar) (L : List Nat) (u : Nat) : ex ac L u = sumZ ac.length fun k => (flw L k : Int) * (ind (frA ac k = u) - ind (toA ac k = u)) := rfl
/-- What goes out of a set, less what comes in. -/
def netF (ac : List Ar) (L : List Nat) (T : Nat → Bool) : Int := sumZ ac.length fun k => (flw L k : Int) * (indB (T (frA ac k)) - indB (T (toA ac k)))
/-- What the arcs out of a set can bear. -/
def cutC (ac : List Ar) (T : Nat → Bool) : Int := sumZ ac.length fun k => if T (frA ac k) = true ∧ T (toA ac k) = false then (cpA ac k : Int) else 0
def upTo (T : Nat → Bool) (m : Nat) : Nat → Bool := fun u => T u && decide (u < m)
theorem upTo_step (T : Nat → Bool) (m a : Nat) : indB (upTo T (m + 1) a) = indB (upTo T m a) + indB (T m) * ind (a = m) := by
  unfold upTo indB ind
  by_cases h : a = m
  · subst h
    rw [if_pos rfl, decide_eq_true (Nat.lt_succ_self a), decide_eq_false (Nat.lt_irrefl a), Bool.and_true, Bool.and_false]; simp
  · rw [if_neg h]
    by_cases h2 : a < m
    · rw [decide_eq_true h2, decide_eq_true (show a < m + 1 by omega)]; simp
    · rw [decide_eq_false h2, decide_eq_false (show ¬ a < m + 1 by omega)]; simp
theorem netF_step (ac : List Ar) (L : List Nat) (T : Nat → Bool) (m : Nat) : netF ac L (upTo T (m + 1)) = netF ac L (upTo T m) + indB (T m) * ex ac L m := by
  rw [ex_eq, ← sumZ_mul]
  unfold netF
  rw [← sumZ_add]
  refine sumZ_congr fun k hk => ?_
  rw [upTo_step, upTo_step]
  generalize indB (upTo T m (frA ac k)) = a
  generalize indB (upTo T m (toA ac k)) = b
  generalize ind (frA ac k = m) = c
  generalize ind (toA ac k = m) = d
  grind
theorem netF_zero (ac : List Ar) (L : List Nat) (T : Nat → Bool) : netF ac L (upTo T 0) = 0 := sumZ_nil fun k hk => by
  unfold upTo; simp [indB]
theorem netF_eq {N : Nat} {ac : List Ar} {L : List Nat} {src sink : Nat} {T : Nat → Bool} (hen : ∀ a ∈ ac, a.1 < N ∧ a.2.1 < N) (hs : src < N) (h0 : T src = true) (h1 : T sink = false) (hc : ∀ u, u ≠ src → u ≠ sink → ex ac L u = 0) : netF ac L T = ex ac L src := by
  have key : ∀ m, netF ac L (upTo T m) = if src < m then ex ac L src else 0 := by
    intro m
    induction m with
    | zero => rw [netF_zero, if_neg (Nat.not_lt_zero _)]
    | succ m ih =>
      rw [netF_step, ih]
      by_cases e : m = src
      · subst e
        rw [if_neg (Nat.lt_irrefl _), if_pos (Nat.lt_succ_self _), h0]; simp [indB]
      · by_cases e2 : m = sink
        · subst e2
          rw [h1]
          by_cases h2 : src < m
          · rw [if_pos h2, if_pos (by omega)]; simp [indB]
          · rw [if_neg h2, if_neg (by omega)]; simp [indB]
        · rw [hc m e e2]
          by_cases h2 : src < m
          · rw [if_pos h2, if_pos (by omega)]; simp
          · rw [if_neg h2, if_neg (by omega)]; simp
  have h2 := key N
  rw [if_pos hs] at h2
  rw [← h2]
  refine sumZ_congr fun k hk => ?_
  have h3 := hen (ac.getD k (0, 0, 0)) (by rw [List.getD_eq_getElem?_getD, List.getElem?_eq_getElem hk]; exact List.getElem_mem hk)
  have h4 : upTo T N (frA ac k) = T (frA ac k) := by unfold upTo; rw [decide_eq_true (show frA ac k < N from h3.1), Bool.and_true]
  have h5 : upTo T N (toA ac k) = T (toA ac k) := by unfold upTo; rw [decide_eq_true (show toA ac k < N from h3.2), Bool.and_true]
  rw [h4, h5]
theorem OkL.cap {ac : List Ar} {L : List Nat} (h : OkL ac L) {k : Nat} (hk : k < ac.length) : L.getD (2 * k) 0 + flw L k = cpA ac k := h.2 k hk
theorem flow_le {ac : List Ar} {L : List Nat} (h : OkL ac L) (T : Nat → Bool) : ∀ k, k < ac.length → (flw L k : Int) * (indB (T (frA ac k)) - indB (T (toA ac k))) ≤ if T (frA ac k) = true ∧ T (toA ac k) = false then (cpA ac k : Int) else 0 := by
  intro k hk
  have h1 := h.cap hk
  cases T (frA ac k) <;> cases T (toA ac k) <;> simp [indB] <;> omega
/-- The set S is the greatest one of a least cut, and nothing more can flow. -/
structure MinCut (ac : List Ar) (src sink : Nat) (L : List Nat) (S : Nat → Bool) : Prop where
  ok : OkL ac L
  cons : ∀ u, u ≠ src → u ≠ sink → ex ac L u = 0
  in_ : S src = true
  out_ : S sink = false
  cut : cutC ac S = ex ac L src
  ge : ∀ T : Nat → Bool, T src = true → T sink = false → ex ac L src ≤ cutC ac T
  sat : ∀ T : Nat → Bool, T src = true → T sink = false → cutC ac T ≤ ex ac L src → ∀ k, k < ac.length → T (frA ac k) = true → T (toA ac k) = false → flw L k = cpA ac k
  great : ∀ T : Nat → Bool, T src = true → T sink = false → cutC ac T ≤ ex ac L src → ∀ u, T u = true → S u = true
theorem min_cut {N : Nat} {ac : List Ar} {src sink : Nat} {L : List Nat} {lev : List Int} {R : List Bool} (hen : ∀ a ∈ ac, a.1 < N ∧ a.2.1 < N) (hs : src < N) (hf : Full N ac src sink L lev) (hr : Reach N ac L sink R) : MinCut ac src sink L (fun u => !R.getD u false) := by
  have hlow : ∀ u, R.getD u false = true → lev.getD u 0 < 0 := hr.least (fun u => lev.getD u 0 < 0) hf.cut fun i hi hL h => by
    rcases Int.lt_or_le (lev.getD (fr ac i) 0) 0 with h1 | h1
    · exact h1
    · have := hf.lay.clos i hi hL h1; omega
  have hsrc : R.getD src false = false := by
    cases h : R.getD src false with
    | false => rfl
    | true => have := hlow src h; rw [hf.lay.at_] at this; omega
  have hge : ∀ T : Nat → Bool, T src = true → T sink = false → ex ac L src ≤ cutC ac T := fun T h0 h1 => by
    rw [← netF_eq hen hs h0 h1 hf.cons]
    exact sumZ_le (flow_le hf.ok T)
  have hti : ∀ T : Nat → Bool, T src = true → T sink = false → cutC ac T ≤ ex ac L src → ∀ k, k < ac.length → (flw L k : Int) * (indB (T (frA ac k)) - indB (T (toA ac k))) = if T (frA ac k) = true ∧ T (toA ac k) = false then (cpA ac k : Int) else 0 := fun T h0 h1 h2 => by
    rw [← netF_eq hen hs h0 h1 hf.cons] at h2
    exact sumZ_tight (flow_le hf.ok T) h2
  have hin : (fun u => !R.getD u false) src = true := by show (!R.getD src false) = true; rw [hsrc]; rfl
  have hout : (fun u => !R.getD u false) sink = false := by show (!R.getD sink false) = false; rw [hr.at_]; rfl
  refine ⟨hf.ok, hf.cons, hin, hout, ?_, hge, fun T h0 h1 h2 k hk h3 h4 => ?_, fun T h0 h1 h2 u hu => ?_⟩
  · rw [← netF_eq hen hs (T := fun u => !R.getD u false) hin hout hf.cons]
    unfold cutC netF
    refine (sumZ_congr fun k hk => ?_).symm
    have hcap := hf.ok.cap hk
    have c0 := hr.clos (2 * k) (by omega)
    have c1 := hr.clos (2 * k + 1) (by omega)
    rw [hd_even, fr_even] at c0
    rw [hd_odd, fr_odd] at c1
    change 0 < L.getD (2 * k) 0 → R.getD (toA ac k) false = true → R.getD (frA ac k) false = true at c0
    change 0 < flw L k → R.getD (frA ac k) false = true → R.getD (toA ac k) false = true at c1
    show (flw L k : Int) * (indB (!R.getD (frA ac k) false) - indB (!R.getD (toA ac k) false)) = if (!R.getD (frA ac k) false) = true ∧ (!R.getD (toA ac k) false) = false then (cpA ac k : Int) else 0
    generalize R.getD (frA ac k) false = a at *
    generalize R.getD (toA ac k) false = b at *
    generalize L.getD (2 * k) 0 = l0 at *
    cases a <;> cases b
    · simp [indB]
    · have : ¬ 0 < l0 := fun h => by have := c0 h rfl; cases this
      simp [indB]; omega
    · have : ¬ 0 < flw L k := fun h => by have := c1 h rfl; cases this
      simp [indB]; omega
    · simp [indB]
  · have := hti T h0 h1 h2 k hk
    rw [h3, h4] at this
    simp [indB] at this
    omega
  · have htight := hti T h0 h1 h2
    have hcl := hr.least (fun u => T u = false) h1 fun i hi hL h => by
      obtain ⟨k, rfl | rfl⟩ := half_cases i
      · have hk : k < ac.length := by omega
        have ht := htight k hk
        have hcap := hf.ok.cap hk
        rw [hd_even] at h
        rw [fr_even]
        change T (toA ac k) = false at h
        show T (frA ac k) = false
        cases hA : T (frA ac k) with
        | false => rfl
        | true =>
          rw [h, hA] at ht
          simp [indB] at ht
          omega
      · have hk : k < ac.length := by omega
        have ht := htight k hk
        rw [hd_odd] at h
        rw [fr_odd]
        change T (frA ac k) = false at h
        show T (toA ac k) = false
        cases hA : T (toA ac k) with
        | false => rfl
        | true =>
          rw [h, hA] at ht
          simp [indB] at ht
          change 0 < flw L k at hL
          omega
    cases hR : R.getD u false with
    | false => rfl
    | true => have := hcl u hR; rw [this] at hu; cases hu
end Go.Proofs.YticekkjambkifaaDoor.Fl

/- The set of the greatest gain as a least cut, in plain Lean. -/
set_option linter.unusedVariables false
set_option linter.unusedSimpArgs false
namespace Go.Proofs.YticekkjambkifaaDoor.Fl
open Go.RowKit Go.Proofs.YticekkjambkifaaDoor CoBit

/- ### sums -/
theorem sumZ_front (M : Nat) (f : Nat → Int) : sumZ (M + 1) f = f 0 + sumZ M fun k => f (k + 1) := by
  induction M with
  | zero => simp [sumZ_succ, sumZ_zero]
  | succ M ih => rw [sumZ_succ, ih, sumZ_succ]; omega
/-- A sum over the arcs of a list, the first of which has the number o. -/
def sumL (g : Nat → Ar → Int) : List Ar → Nat → Int
  | [], _ => 0
  | a :: l, o => g o a + sumL g l (o + 1)
theorem sumL_append (g : Nat → Ar → Int) (l l' : List Ar) (o : Nat) : sumL g (l ++ l') o = sumL g l o + sumL g l' (o + l.length) := by
  induction l generalizing o with
  | nil => simp [sumL]
  | cons a l ih => rw [List.cons_append, sumL, ih, sumL, List.length_cons, show o + 1 + l.length = o + (l.length + 1) by omega]; omega
theorem sumL_range (g : Nat → Ar → Int) (l : List Ar) (o : Nat) : sumZ l.length (fun k => g (o + k) (l.getD k (0, 0, 0))) = sumL g l o := by
  induction l generalizing o with
  | nil => rfl
  | cons a l ih =>
    rw [List.length_cons, sumZ_front, sumL, ← ih (o + 1)]
    congr 1
    refine sumZ_congr fun k hk => ?_
    rw [show o + (k + 1) = o + 1 + k by omega]
    rfl
theorem sumL_zero {g : Nat → Ar → Int} {l : List Ar} {o : Nat} (h : ∀ k a, a ∈ l → g k a = 0) : sumL g l o = 0 := by
  induction l generalizing o with
  | nil => rfl
  | cons a l ih => rw [sumL, h _ _ (List.mem_cons_self ..), ih fun k b hb => h k b (List.mem_cons_of_mem _ hb)]; rfl
theorem cutC_sumL (ac : List Ar) (T : Nat → Bool) : cutC ac T = sumL (fun _ a => if T a.1 = true ∧ T a.2.1 = false then (a.2.2 : Int) else 0) ac 0 := sumL_range (fun _ a => if T a.1 = true ∧ T a.2.1 = false then (a.2.2 : Int) else 0) ac 0
theorem ex_sumL (ac : List Ar) (L : List Nat) (u : Nat) : ex ac L u = sumL (fun k a => (flw L k : Int) * (ind (a.1 = u) - ind (a.2.1 = u))) ac 0 := by
  rw [ex_eq, ← sumL_range]
  refine sumZ_congr fun k hk => ?_
  rw [Nat.zero_add]; rfl

/- ### the network -/
def nArc (bs : List Nat) (F D P v : Nat) : List Ar := if F.testBit v = true then [(0, 2 + v, bs.getD v 0 * D), (2 + v, 1, P)] else []
def nArcs (bs : List Nat) (F D P c : Nat) : List Ar := (List.range c).flatMap (nArc bs F D P)
def eArc (C D i : Nat) (e : Int × Int) : List Ar := [(0, 2 + C + i, D), (2 + C + i, 2 + e.1.toNat, D), (2 + C + i, 2 + e.2.toNat, D)]
def eArcs (es : List (Int × Int)) (C D m : Nat) : List Ar := (List.range m).flatMap fun i => eArc C D i (es.getD i (0, 0))
def netA (es : List (Int × Int)) (bs : List Nat) (C F D P : Nat) : List Ar := nArcs bs F D P C ++ eArcs es C D es.length
theorem nArcs_succ (bs : List Nat) (F D P c : Nat) : nArcs bs F D P (c + 1) = nArcs bs F D P c ++ nArc bs F D P c := by
  unfold nArcs
  rw [List.range_succ, List.flatMap_append]; simp
theorem eArcs_succ (es : List (Int × Int)) (C D m : Nat) : eArcs es C D (m + 1) = eArcs es C D m ++ eArc C D m (es.getD m (0, 0)) := by
  unfold eArcs
  rw [List.range_succ, List.flatMap_append]; simp
theorem eArcs_len (es : List (Int × Int)) (C D m : Nat) : (eArcs es C D m).length = 3 * m := by
  induction m with
  | zero => rfl
  | succ m ih => rw [eArcs_succ, List.length_append, ih]; simp [eArc]; omega
theorem nArcs_len (bs : List Nat) (F D P c : Nat) : (nArcs bs F D P c).length ≤ 2 * c := by
  induction c with
  | zero => exact Nat.le_refl _
  | succ c ih => rw [nArcs_succ, List.length_append]; unfold nArc; split <;> simp <;> omega
/-- The graph of a problem: the ends of its edges are nodes that can be taken. -/
structure Prb (es : List (Int × Int)) (bs : List Nat) (C F : Nat) : Prop where
  lt : ∀ e ∈ es, 0 ≤ e.1 ∧ e.1 < e.2 ∧ e.2 < C
  fre : ∀ e ∈ es, F.testBit e.1.toNat = true ∧ F.testBit e.2.toNat = true
  sub : ∀ v, F.testBit v = true → v < C
  small : C ≤ 64
  blen : bs.length = C
  bsm : ∀ b ∈ bs, b ≤ 4096
  elen : es.length ≤ 4096
theorem Prb.at_ {es : List (Int × Int)} {bs : List Nat} {C F : Nat} (h : Prb es bs C F) {i : Nat} (hi : i < es.length) : ∃ u v : Nat, es.getD i (0, 0) = ((u : Int), (v : Int)) ∧ u < v ∧ v < C ∧ F.testBit u = true ∧ F.testBit v = true := by
  have he : es.getD i (0, 0) ∈ es := by rw [List.getD_eq_getElem?_getD, List.getElem?_eq_getElem hi]; exact List.getElem_mem hi
  obtain ⟨h1, h2, h3⟩ := h.lt _ he
  obtain ⟨h4, h5⟩ := h.fre _ he
  generalize es.getD i (0, 0) = e at *
  obtain ⟨a, b⟩ := e
  simp only at h1 h2 h3 h4 h5
  refine ⟨a.toNat, b.toNat, ?_, by omega, by omega, h4, h5⟩
  rw [Int.toNat_of_nonneg h1, Int.toNat_of_nonneg (by omega)]
theorem netA_ends {es : List (Int × Int)} {bs : List Nat} {C F D P : Nat} (h : Prb es bs C F) : ∀ a ∈ netA es bs C F D P, a.1 < 2 + C + es.length ∧ a.2.1 < 2 + C + es.length := by
  intro a ha
  rcases List.mem_append.1 ha with h1 | h1
  · obtain ⟨v, hv, hm⟩ := List.mem_flatMap.1 h1
    rw [List.mem_range] at hv
    unfold nArc at hm
    split at hm
    · simp at hm
      rcases hm with rfl | rfl <;> simp <;> omega
    · cases hm
  · obtain ⟨i, hi, hm⟩ := List.mem_flatMap.1 h1
    rw [List.mem_range] at hi
    obtain ⟨u, v, he, h2, h3, -, -⟩ := h.at_ hi
    rw [he] at hm
    simp [eArc] at hm
    rcases hm with rfl | rfl | rfl <;> simp <;> omega

theorem netA_cap {es : List (Int × Int)} {bs : List Nat} {C F D P : Nat} (h : Prb es bs C F) (hP : P ≤ 1048576) (hD : D ≤ 1048576) : ∀ a ∈ netA es bs C F D P, a.2.2 ≤ 1099511627776 := by
  intro a ha
  rcases List.mem_append.1 ha with h1 | h1
  · obtain ⟨v, hv, hm⟩ := List.mem_flatMap.1 h1
    unfold nArc at hm
    split at hm
    · simp at hm
      rcases hm with rfl | rfl
      · have hb : bs.getD v 0 ≤ 4096 := by
          rw [List.getD_eq_getElem?_getD]
          cases he : bs[v]? with
          | none => exact Nat.zero_le _
          | some b => exact h.bsm b (List.mem_of_getElem? he)
        exact Nat.le_trans (Nat.mul_le_mul hb hD) (by omega)
      · simp only; omega
    · cases hm
  · obtain ⟨i, hi, hm⟩ := List.mem_flatMap.1 h1
    simp [eArc] at hm
    rcases hm with rfl | rfl | rfl <;> simp only <;> omega
/- ### gains -/
def bonus (bs : List Nat) (x : Nat) : Nat := ((bl x).map fun v => bs.getD v 0).sum
/-- What a set contains. -/
def wtI (es : List (Int × Int)) (bs : List Nat) (x : Nat) : Nat := insE es (bset x) + bonus bs x
/-- The gain of a set at a price of P for each node and D for each edge. -/
def val (es : List (Int × Int)) (bs : List Nat) (D P x : Nat) : Int := (D : Int) * (wtI es bs x : Nat) - (P : Int) * (pop x : Nat)
theorem sum_bits (x s n : Nat) (f : Nat → Int) : ((bitsIn x s n).map f).sum = sumZ n fun v => if x.testBit (s + v) = true then f (s + v) else 0 := by
  induction n generalizing s with
  | zero => simp [bitsIn, sumZ_zero]
  | succ n ih =>
    rw [sumZ_front, bitsIn_succ, Nat.add_zero]
    have e : (sumZ n fun k => if x.testBit (s + (k + 1)) = true then f (s + (k + 1)) else 0) = sumZ n fun v => if x.testBit (s + 1 + v) = true then f (s + 1 + v) else 0 :=
      sumZ_congr fun k _ => by rw [show s + (k + 1) = s + 1 + k by omega]
    rw [e, ← ih (s + 1)]
    simp only [Nat.add_zero]
    split
    · rw [List.map_cons, List.sum_cons]
    · rw [Int.zero_add]
theorem sumZ_cut {M C : Nat} (f : Nat → Int) (hC : C ≤ M) (h : ∀ v, C ≤ v → f v = 0) : sumZ M f = sumZ C f := by
  induction M with
  | zero => obtain rfl : C = 0 := by omega
            rfl
  | succ M ih =>
    by_cases e : C = M + 1
    · rw [e]
    · rw [sumZ_succ, ih (by omega), h M (by omega)]; omega
theorem sum_bl {x C : Nat} (hC : C ≤ 64) (hx : ∀ v, x.testBit v = true → v < C) (f : Nat → Int) : ((bl x).map f).sum = sumZ C fun v => if x.testBit v = true then f v else 0 := by
  unfold bl
  rw [sum_bits]
  simp only [Nat.zero_add]
  refine sumZ_cut _ hC fun v hv => ?_
  rw [if_neg (fun h => by have := hx v h; omega)]
theorem cast_sum (l : List Nat) (f : Nat → Nat) : (((l.map f).sum : Nat) : Int) = (l.map fun v => (f v : Int)).sum := by
  induction l with
  | nil => rfl
  | cons a l ih => simp only [List.map_cons, List.sum_cons]; rw [Int.natCast_add, ih]
theorem pop_sum {x C : Nat} (hC : C ≤ 64) (hx : ∀ v, x.testBit v = true → v < C) : ((pop x : Nat) : Int) = sumZ C fun v => if x.testBit v = true then 1 else 0 := by
  rw [pop_bl, ← sum_bl hC hx (fun _ => 1)]
  generalize bl x = l
  induction l with
  | nil => rfl
  | cons a l ih => simp only [List.length_cons, List.map_cons, List.sum_cons, ← ih]; omega
theorem bonus_sum {x C : Nat} (bs : List Nat) (hC : C ≤ 64) (hx : ∀ v, x.testBit v = true → v < C) : ((bonus bs x : Nat) : Int) = sumZ C fun v => if x.testBit v = true then (bs.getD v 0 : Int) else 0 := by
  unfold bonus
  rw [cast_sum, ← sum_bl hC hx]
theorem insE_sum (es : List (Int × Int)) (S : List Int) : ((insE es S : Nat) : Int) = sumZ es.length fun i => if (es.getD i (0, 0)).1 ∈ S ∧ (es.getD i (0, 0)).2 ∈ S then 1 else 0 := by
  induction es with
  | nil => rfl
  | cons e es ih =>
    rw [insE_cons, List.length_cons, sumZ_front, Int.natCast_add, ih, Int.add_comm]
    congr 1
    simp only [List.getD_cons_zero]
    split <;> rfl
theorem mem_bs {x : Nat} {u C : Nat} (hu : u < C) (hC : C ≤ 64) : (u : Int) ∈ bset x ↔ x.testBit u = true := by rw [mem_bset]; exact ⟨fun h => h.2, fun h => ⟨by omega, h⟩⟩

/- ### cuts -/
section
variable {es : List (Int × Int)} {bs : List Nat} {C F D P : Nat}
def nCut (bs : List Nat) (F D P : Nat) (T : Nat → Bool) (v : Nat) : Int := if F.testBit v = true then (if T (2 + v) = true then (P : Int) else (bs.getD v 0 * D : Nat)) else 0
def eC (D : Nat) (a b c : Bool) : Int := if a = true then (if b = true then 0 else (D : Int)) + (if c = true then 0 else (D : Int)) else D
def eCut (C D : Nat) (T : Nat → Bool) (i : Nat) (e : Int × Int) : Int := eC D (T (2 + C + i)) (T (2 + e.1.toNat)) (T (2 + e.2.toNat))
theorem cut_net (T : Nat → Bool) (h0 : T 0 = true) (h1 : T 1 = false) : cutC (netA es bs C F D P) T = sumZ C (nCut bs F D P T) + sumZ es.length fun i => eCut C D T i (es.getD i (0, 0)) := by
  rw [cutC_sumL]
  unfold netA
  rw [sumL_append]
  congr 1
  · generalize 0 = o
    induction C with
    | zero => rfl
    | succ c ih =>
      rw [nArcs_succ, sumL_append, ih, sumZ_succ]
      congr 1
      unfold nArc nCut
      split
      · simp only [sumL, h0, h1]
        cases T (2 + c) <;> simp
      · rfl
  · generalize es.length = m
    generalize 0 + (nArcs bs F D P C).length = o
    induction m with
    | zero => rfl
    | succ m ih =>
      rw [eArcs_succ, sumL_append, ih, sumZ_succ]
      congr 1
      unfold eArc eCut eC
      simp only [sumL, h0]
      generalize (es.getD m (0, 0)).1.toNat = u
      generalize (es.getD m (0, 0)).2.toNat = v
      cases T (2 + C + m) <;> cases T (2 + u) <;> cases T (2 + v) <;> simp
/-- The set of the network for a set of nodes. -/
def TS (es : List (Int × Int)) (C x : Nat) : Nat → Bool := fun u => if u = 0 then true else if u = 1 then false else if u < 2 + C then x.testBit (u - 2) else x.testBit (es.getD (u - 2 - C) (0, 0)).1.toNat && x.testBit (es.getD (u - 2 - C) (0, 0)).2.toNat
theorem TS_node {x v : Nat} (hv : v < C) : TS es C x (2 + v) = x.testBit v := by
  unfold TS
  rw [if_neg (by omega), if_neg (by omega), if_pos (by omega), show 2 + v - 2 = v by omega]
theorem TS_edge (x i : Nat) : TS es C x (2 + C + i) = (x.testBit (es.getD i (0, 0)).1.toNat && x.testBit (es.getD i (0, 0)).2.toNat) := by
  unfold TS
  rw [if_neg (by omega), if_neg (by omega), if_neg (by omega), show 2 + C + i - 2 - C = i by omega]
/-- All that the source can send. -/
def allS (es : List (Int × Int)) (bs : List Nat) (C F D : Nat) : Int := (sumZ C fun v => if F.testBit v = true then ((bs.getD v 0 * D : Nat) : Int) else 0) + (es.length : Int) * D
theorem sumZ_const (M : Nat) (c : Int) : sumZ M (fun _ => c) = M * c := by
  induction M with
  | zero => simp [sumZ_zero]
  | succ M ih => rw [sumZ_succ, ih, Int.natCast_add, Int.add_mul]; omega
theorem cut_TS (h : Prb es bs C F) {x : Nat} (hx : ∀ v, x.testBit v = true → F.testBit v = true) : cutC (netA es bs C F D P) (TS es C x) = allS es bs C F D - val es bs D P x := by
  have hxC : ∀ v, x.testBit v = true → v < C := fun v hv => h.sub v (hx v hv)
  rw [cut_net _ rfl rfl]
  unfold val wtI allS
  rw [Int.natCast_add, pop_sum h.small hxC, bonus_sum bs h.small hxC, insE_sum, Int.mul_add, ← sumZ_mul, ← sumZ_mul, ← sumZ_mul]
  have e1 : sumZ C (nCut bs F D P (TS es C x)) + (sumZ C fun k => (D : Int) * if x.testBit k = true then (bs.getD k 0 : Int) else 0) = (sumZ C fun v => if F.testBit v = true then ((bs.getD v 0 * D : Nat) : Int) else 0) + sumZ C fun k => (P : Int) * if x.testBit k = true then 1 else 0 := by
    rw [← sumZ_add, ← sumZ_add]
    refine sumZ_congr fun v hv => ?_
    unfold nCut
    rw [TS_node hv]
    by_cases h1 : x.testBit v = true
    · rw [if_pos h1, if_pos h1, if_pos h1, if_pos (hx v h1), if_pos (hx v h1), Int.natCast_mul, Int.mul_one, Int.mul_comm (D : Int)]; omega
    · rw [if_neg h1, if_neg h1, if_neg h1]; simp
  have e2 : (sumZ es.length fun i => eCut C D (TS es C x) i (es.getD i (0, 0))) + (sumZ es.length fun k => (D : Int) * if (es.getD k (0, 0)).1 ∈ bset x ∧ (es.getD k (0, 0)).2 ∈ bset x then 1 else 0) = (es.length : Int) * D := by
    rw [← sumZ_add, ← sumZ_const]
    refine sumZ_congr fun i hi => ?_
    obtain ⟨u, v, he, h2, h3, -, -⟩ := h.at_ hi
    have t1 := TS_node (es := es) (C := C) (x := x) (show u < C by omega)
    have t2 := TS_node (es := es) (C := C) (x := x) h3
    have t3 := TS_edge (es := es) (C := C) x i
    unfold eCut
    rw [he] at t3 ⊢
    simp only [Int.toNat_natCast] at t3 ⊢
    rw [t1, t2, t3]
    simp only [mem_bs (x := x) (show u < C by omega) h.small, mem_bs (x := x) h3 h.small]
    cases x.testBit u <;> cases x.testBit v <;> simp [eC]
  omega
/-- The set m has the greatest gain of all sets, and contains all that have it. -/
structure IsMax (es : List (Int × Int)) (bs : List Nat) (F D P m : Nat) : Prop where
  sub : ∀ v, m.testBit v = true → F.testBit v = true
  max : ∀ x, (∀ v, x.testBit v = true → F.testBit v = true) → val es bs D P x ≤ val es bs D P m
  great : ∀ x, (∀ v, x.testBit v = true → F.testBit v = true) → val es bs D P m ≤ val es bs D P x → ∀ v, x.testBit v = true → m.testBit v = true
theorem cut_max (h : Prb es bs C F) {L : List Nat} {S : Nat → Bool} {m : Nat} (hc : MinCut (netA es bs C F D P) 0 1 L S) (hm : ∀ v, m.testBit v = (F.testBit v && S (2 + v))) :
    IsMax es bs F D P m ∧ ex (netA es bs C F D P) L 0 = allS es bs C F D - val es bs D P m := by
  have hsub : ∀ v, m.testBit v = true → F.testBit v = true := fun v hv => by rw [hm, Bool.and_eq_true] at hv; exact hv.1
  have hB : cutC (netA es bs C F D P) (TS es C m) ≤ cutC (netA es bs C F D P) S := by
    rw [cut_net _ rfl rfl, cut_net _ hc.in_ hc.out_]
    refine Int.add_le_add (Int.le_of_eq (sumZ_congr fun v hv => ?_)) (sumZ_le fun i hi => ?_)
    · unfold nCut
      by_cases hF : F.testBit v = true
      · rw [if_pos hF, if_pos hF, TS_node hv, hm, hF, Bool.true_and]
      · rw [if_neg hF, if_neg hF]
    · obtain ⟨u, v, he, h2, h3, h4, h5⟩ := h.at_ hi
      have t1 := TS_node (es := es) (C := C) (x := m) (show u < C by omega)
      have t2 := TS_node (es := es) (C := C) (x := m) h3
      have t3 := TS_edge (es := es) (C := C) m i
      rw [he] at t3
      rw [hm, h4, Bool.true_and] at t1
      rw [hm, h5, Bool.true_and] at t2
      simp only [Int.toNat_natCast] at t3
      rw [hm, hm, h4, h5, Bool.true_and, Bool.true_and] at t3
      unfold eCut
      rw [he]
      simp only [Int.toNat_natCast]
      rw [t1, t2, t3]
      cases S (2 + C + i) <;> cases S (2 + u) <;> cases S (2 + v) <;> simp [eC] <;> omega
  have hA := fun x hx => cut_TS (D := D) (P := P) h (x := x) hx
  rw [hA m hsub, hc.cut] at hB
  have hge : ∀ x, (∀ v, x.testBit v = true → F.testBit v = true) → ex (netA es bs C F D P) L 0 ≤ allS es bs C F D - val es bs D P x := fun x hx => by
    rw [← hA x hx]; exact hc.ge _ rfl rfl
  have hgm := hge m hsub
  refine ⟨⟨hsub, fun x hx => by have := hge x hx; omega, fun x hx hv v hxv => ?_⟩, by omega⟩
  have hcut : cutC (netA es bs C F D P) (TS es C x) ≤ ex (netA es bs C F D P) L 0 := by rw [hA x hx]; omega
  have hF := hx v hxv
  have := hc.great _ rfl rfl hcut (2 + v) (by rw [TS_node (h.sub v hF)]; exact hxv)
  rw [hm, hF, this]; rfl
end
end Go.Proofs.YticekkjambkifaaDoor.Fl
