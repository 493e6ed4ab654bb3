/- Printed by merge.py from FlwM, FlwA, FlwB. -/
import Derived.Test.YticekkjambkifaaDoorZaa
import Derived.Test.YticekkjambkifaaDoorZab
import Derived.BigRegion
/- Greatest flows in plain Lean: residuals, excess, one push, layers, and why pushing ends. -/
set_option linter.unusedVariables false
set_option linter.unusedSimpArgs false
namespace Go.Proofs.YticekkjambkifaaDoor.Fl

/-- An arc: from, to, most. -/
abbrev Ar := Nat × Nat × Nat
def fr (ac : List Ar) (i : Nat) : Nat := if i % 2 = 0 then (ac.getD (i / 2) (0, 0, 0)).1 else (ac.getD (i / 2) (0, 0, 0)).2.1
def hd (ac : List Ar) (i : Nat) : Nat := if i % 2 = 0 then (ac.getD (i / 2) (0, 0, 0)).2.1 else (ac.getD (i / 2) (0, 0, 0)).1
/-- The other half of an arc. -/
def mt (i : Nat) : Nat := if i % 2 = 0 then i + 1 else i - 1
theorem mt_even (k : Nat) : mt (2 * k) = 2 * k + 1 := by unfold mt; rw [if_pos (by omega)]
theorem mt_odd (k : Nat) : mt (2 * k + 1) = 2 * k := by unfold mt; rw [if_neg (by omega)]; omega
theorem half_cases (i : Nat) : ∃ k, i = 2 * k ∨ i = 2 * k + 1 := ⟨i / 2, by omega⟩
theorem mt_lt {i M : Nat} (h : i < 2 * M) : mt i < 2 * M := by obtain ⟨k, rfl | rfl⟩ := half_cases i <;> first | (rw [mt_even]; omega) | (rw [mt_odd]; omega)
theorem mt_mt (i : Nat) : mt (mt i) = i := by obtain ⟨k, rfl | rfl⟩ := half_cases i <;> first | rw [mt_even, mt_odd] | rw [mt_odd, mt_even]
theorem mt_ne (i : Nat) : mt i ≠ i := by obtain ⟨k, rfl | rfl⟩ := half_cases i <;> first | (rw [mt_even]; omega) | (rw [mt_odd]; omega)
theorem fr_even (ac : List Ar) (k : Nat) : fr ac (2 * k) = (ac.getD k (0, 0, 0)).1 := by unfold fr; rw [if_pos (by omega), show 2 * k / 2 = k by omega]
theorem fr_odd (ac : List Ar) (k : Nat) : fr ac (2 * k + 1) = (ac.getD k (0, 0, 0)).2.1 := by unfold fr; rw [if_neg (by omega), show (2 * k + 1) / 2 = k by omega]
theorem hd_even (ac : List Ar) (k : Nat) : hd ac (2 * k) = (ac.getD k (0, 0, 0)).2.1 := by unfold hd; rw [if_pos (by omega), show 2 * k / 2 = k by omega]
theorem hd_odd (ac : List Ar) (k : Nat) : hd ac (2 * k + 1) = (ac.getD k (0, 0, 0)).1 := by unfold hd; rw [if_neg (by omega), show (2 * k + 1) / 2 = k by omega]
theorem fr_mt (ac : List Ar) (i : Nat) : fr ac (mt i) = hd ac i := by
  obtain ⟨k, rfl | rfl⟩ := half_cases i
  · rw [mt_even, fr_odd, hd_even]
  · rw [mt_odd, fr_even, hd_odd]
theorem hd_mt (ac : List Ar) (i : Nat) : hd ac (mt i) = fr ac i := by rw [← fr_mt, mt_mt]

/-- The network's halves lie in the lists of their first nodes. -/
structure Net (N : Nat) (ac : List Ar) (outs : List (List Nat)) : Prop where
  ends : ∀ a ∈ ac, a.1 < N ∧ a.2.1 < N
  len : outs.length = N
  out_mem : ∀ u, ∀ i ∈ outs.getD u [], i < 2 * ac.length ∧ fr ac i = u
  mem_out : ∀ i, i < 2 * ac.length → i ∈ outs.getD (fr ac i) []
  small : ∀ u, (outs.getD u []).length ≤ 2 * ac.length
theorem Net.fr_lt {N : Nat} {ac : List Ar} {outs : List (List Nat)} (h : Net N ac outs) {i : Nat} (hi : i < 2 * ac.length) : fr ac i < N ∧ hd ac i < N := by
  obtain ⟨k, hk⟩ := half_cases i
  have hk' : k < ac.length := by omega
  have h1 := h.ends (ac.getD k (0, 0, 0)) (by rw [List.getD_eq_getElem?_getD, List.getElem?_eq_getElem hk']; exact List.getElem_mem hk')
  rcases hk with rfl | rfl
  · rw [fr_even, hd_even]; exact h1
  · rw [fr_odd, hd_odd]; exact ⟨h1.2, h1.1⟩

/-- What is left on both halves of an arc is its most. -/
def OkL (ac : List Ar) (L : List Nat) : Prop := L.length = 2 * ac.length ∧ ∀ k, k < ac.length → L.getD (2 * k) 0 + L.getD (2 * k + 1) 0 = (ac.getD k (0, 0, 0)).2.2
def ind (p : Prop) [Decidable p] : Int := if p then 1 else 0
/-- What goes out of a node, less what comes in. -/
def exK (ac : List Ar) (L : List Nat) (u k : Nat) : Int := (L.getD (2 * k + 1) 0 : Int) * (ind ((ac.getD k (0, 0, 0)).1 = u) - ind ((ac.getD k (0, 0, 0)).2.1 = u))
def ex (ac : List Ar) (L : List Nat) (u : Nat) : Int := ((List.range ac.length).map (exK ac L u)).sum
/-- n more over half i. -/
def snd (L : List Nat) (i n : Nat) : List Nat := (L.set i (L.getD i 0 - n)).set (mt i) (L.getD (mt i) 0 + n)
theorem getD_set_nat (L : List Nat) (i j v : Nat) (hi : i < L.length) : (L.set i v).getD j 0 = if j = i then v else L.getD j 0 := by
  rw [List.getD_eq_getElem?_getD, List.getD_eq_getElem?_getD, List.getElem?_set]
  by_cases h : i = j
  · subst h; rw [if_pos rfl, if_pos hi, if_pos rfl]; rfl
  · rw [if_neg h, if_neg (fun e => h e.symm)]
theorem snd_length (L : List Nat) (i n : Nat) : (snd L i n).length = L.length := by unfold snd; simp
theorem snd_get {L : List Nat} {i n M : Nat} (hl : L.length = 2 * M) (hi : i < 2 * M) (j : Nat) : (snd L i n).getD j 0 = if j = mt i then L.getD (mt i) 0 + n else if j = i then L.getD i 0 - n else L.getD j 0 := by
  unfold snd
  rw [getD_set_nat _ _ _ _ (by rw [List.length_set, hl]; exact mt_lt hi), getD_set_nat _ _ _ _ (by rw [hl]; exact hi)]
theorem sum_range_eq (M : Nat) (g h : Nat → Int) (e : ∀ k, k < M → g k = h k) : ((List.range M).map g).sum = ((List.range M).map h).sum := by
  congr 1
  exact List.map_congr_left fun k hk => e k (List.mem_range.1 hk)
theorem sum_range_one (M k0 : Nat) (g h : Nat → Int) (d : Int) (hk : k0 < M) (e : ∀ k, k < M → k ≠ k0 → g k = h k) (e0 : g k0 = h k0 + d) : ((List.range M).map g).sum = ((List.range M).map h).sum + d := by
  induction M with
  | zero => omega
  | succ M ih =>
    rw [List.range_succ, List.map_append, List.map_append, List.sum_append, List.sum_append]
    by_cases hM : k0 = M
    · subst hM
      rw [sum_range_eq k0 g h (fun k hk => e k (by omega) (by omega))]
      simp only [List.map_cons, List.map_nil, List.sum_cons, List.sum_nil]
      omega
    · rw [ih (by omega) (fun k hk hne => e k (by omega) hne)]
      simp only [List.map_cons, List.map_nil, List.sum_cons, List.sum_nil]
      rw [e M (by omega) (fun h => hM h.symm)]
      omega
theorem OkL.le {ac : List Ar} {L : List Nat} (h : OkL ac L) {i : Nat} (hi : i < 2 * ac.length) : L.getD i 0 + L.getD (mt i) 0 = (ac.getD (i / 2) (0, 0, 0)).2.2 := by
  obtain ⟨k, rfl | rfl⟩ := half_cases i
  · rw [mt_even, show 2 * k / 2 = k by omega]; exact h.2 k (by omega)
  · rw [mt_odd, show (2 * k + 1) / 2 = k by omega, ← h.2 k (by omega)]; omega
theorem OkL.snd {ac : List Ar} {L : List Nat} (h : OkL ac L) {i n : Nat} (hi : i < 2 * ac.length) (hn : n ≤ L.getD i 0) : OkL ac (snd L i n) := by
  refine ⟨by rw [snd_length]; exact h.1, fun k hk => ?_⟩
  rw [snd_get h.1 hi, snd_get h.1 hi]
  have h0 := h.2 k hk
  obtain ⟨k0, rfl | rfl⟩ := half_cases i
  · rw [mt_even] at *
    by_cases hkk : k = k0
    · subst hkk
      rw [if_neg (by omega), if_pos rfl, if_pos rfl]; omega
    · rw [if_neg (by omega), if_neg (by omega), if_neg (by omega), if_neg (by omega)]; exact h0
  · rw [mt_odd] at *
    by_cases hkk : k = k0
    · subst hkk
      rw [if_pos rfl, if_neg (by omega), if_pos rfl]; omega
    · rw [if_neg (by omega), if_neg (by omega), if_neg (by omega), if_neg (by omega)]; exact h0
theorem ex_snd {ac : List Ar} {L : List Nat} (h : OkL ac L) {i n : Nat} (hi : i < 2 * ac.length) (hn : n ≤ L.getD i 0) (u : Nat) : ex ac (snd L i n) u = ex ac L u + n * (ind (fr ac i = u) - ind (hd ac i = u)) := by
  unfold ex
  obtain ⟨k0, rfl | rfl⟩ := half_cases i
  · refine sum_range_one _ k0 _ _ _ (by omega) (fun k hk hne => ?_) ?_
    · unfold exK
      rw [snd_get h.1 hi, mt_even, if_neg (by omega), if_neg (by omega)]
    · unfold exK
      rw [snd_get h.1 hi, mt_even, if_pos rfl, fr_even, hd_even]
      push_cast
      generalize (ind ((ac.getD k0 (0, 0, 0)).1 = u) - ind ((ac.getD k0 (0, 0, 0)).2.1 = u)) = D
      rw [Int.add_mul]
  · refine sum_range_one _ k0 _ _ _ (by omega) (fun k hk hne => ?_) ?_
    · unfold exK
      rw [snd_get h.1 hi, mt_odd, if_neg (by omega), if_neg (by omega)]
    · unfold exK
      rw [snd_get h.1 hi, mt_odd, if_neg (by omega), if_pos rfl, fr_odd, hd_odd, Int.ofNat_sub hn]
      generalize ind ((ac.getD k0 (0, 0, 0)).1 = u) = D1
      generalize ind ((ac.getD k0 (0, 0, 0)).2.1 = u) = D2
      grind

/-- No arc ahead of a node's place can send anything on. -/
def Dead (ac : List Ar) (outs : List (List Nat)) (sink : Nat) (lev : List Int) (L nx : List Nat) : Prop :=
  ∀ u j i, j < nx.getD u 0 → (outs.getD u [])[j]? = some i → L.getD i 0 = 0 ∨ lev.getD (hd ac i) 0 ≠ lev.getD u 0 + 1 ∨ (hd ac i ≠ sink ∧ nx.getD (hd ac i) 0 = (outs.getD (hd ac i) []).length)
/-- What a push from v has done. -/
structure Push (N : Nat) (ac : List Ar) (outs : List (List Nat)) (sink : Nat) (lev : List Int) (v most : Nat) (L nx : List Nat) (r : Nat) (L' nx' : List Nat) : Prop where
  le : r ≤ most
  ok : OkL ac L'
  exc : ∀ u, ex ac L' u = ex ac L u + r * (ind (v = u) - ind (sink = u))
  nlen : nx'.length = N
  nle : ∀ u, nx'.getD u 0 ≤ (outs.getD u []).length
  mono : ∀ u, nx.getD u 0 ≤ nx'.getD u 0
  low : ∀ u, lev.getD u 0 < lev.getD v 0 → nx'.getD u 0 = nx.getD u 0
  lowL : ∀ i, i < 2 * ac.length → (lev.getD (fr ac i) 0 < lev.getD v 0 ∨ lev.getD (hd ac i) 0 < lev.getD v 0) → L'.getD i 0 = L.getD i 0
  zero : r = 0 → L' = L ∧ (Dead ac outs sink lev L nx → Dead ac outs sink lev L nx')
  done : r = 0 → v ≠ sink ∧ nx'.getD v 0 = (outs.getD v []).length

section
variable {N : Nat} {ac : List Ar} {outs : List (List Nat)} {sink : Nat} {lev : List Int} {v most : Nat} {L nx L1 nx1 : List Nat} {s : Nat}
/-- What holds in the loop of a push from v: s is sent. -/
structure Loop (N : Nat) (ac : List Ar) (outs : List (List Nat)) (sink : Nat) (lev : List Int) (v most : Nat) (L nx : List Nat) (s : Nat) (L' nx' : List Nat) : Prop where
  le : s ≤ most
  ok : OkL ac L'
  exc : ∀ u, ex ac L' u = ex ac L u + s * (ind (v = u) - ind (sink = u))
  nlen : nx'.length = N
  nle : ∀ u, nx'.getD u 0 ≤ (outs.getD u []).length
  mono : ∀ u, nx.getD u 0 ≤ nx'.getD u 0
  low : ∀ u, lev.getD u 0 < lev.getD v 0 → nx'.getD u 0 = nx.getD u 0
  lowL : ∀ i, i < 2 * ac.length → (lev.getD (fr ac i) 0 < lev.getD v 0 ∨ lev.getD (hd ac i) 0 < lev.getD v 0) → L'.getD i 0 = L.getD i 0
  zero : s = 0 → L' = L ∧ (Dead ac outs sink lev L nx → Dead ac outs sink lev L nx')
theorem Loop.start (ok : OkL ac L) (hn : nx.length = N) (hle : ∀ u, nx.getD u 0 ≤ (outs.getD u []).length) : Loop N ac outs sink lev v most L nx 0 L nx :=
  ⟨Nat.zero_le _, ok, fun u => by simp, hn, hle, fun _ => Nat.le_refl _, fun _ _ => rfl, fun _ _ _ => rfl, fun _ => ⟨rfl, fun h => h⟩⟩
theorem Loop.push (h : Loop N ac outs sink lev v most L nx s L1 nx1) (hv : v ≠ sink) (hend : s = 0 → nx1.getD v 0 = (outs.getD v []).length) : Push N ac outs sink lev v most L nx s L1 nx1 :=
  ⟨h.le, h.ok, h.exc, h.nlen, h.nle, h.mono, h.low, h.lowL, h.zero, fun h0 => ⟨hv, hend h0⟩⟩
theorem Push.sink_ (ok : OkL ac L) (hn : nx.length = N) (hle : ∀ u, nx.getD u 0 ≤ (outs.getD u []).length) (hm : 1 ≤ most) : Push N ac outs sink lev sink most L nx most L nx :=
  ⟨Nat.le_refl _, ok, fun u => by rw [Int.sub_self, Int.mul_zero, Int.add_zero], hn, hle, fun _ => Nat.le_refl _, fun _ _ => rfl, fun _ _ _ => rfl, fun _ => ⟨rfl, fun h => h⟩, fun h => by omega⟩
theorem getD_set_ne (l : List Nat) (i j x : Nat) (h : j ≠ i) : (l.set i x).getD j 0 = l.getD j 0 := by
  rw [List.getD_eq_getElem?_getD, List.getD_eq_getElem?_getD, List.getElem?_set, if_neg (fun e => h e.symm)]
/-- An arc that is passed by. -/
theorem Loop.skip (h : Loop N ac outs sink lev v most L nx s L1 nx1) (hvN : v < N) {i : Nat} (hi : (outs.getD v [])[nx1.getD v 0]? = some i) (hd0 : L1.getD i 0 = 0 ∨ lev.getD (hd ac i) 0 ≠ lev.getD v 0 + 1) : Loop N ac outs sink lev v most L nx s L1 (nx1.set v (nx1.getD v 0 + 1)) := by
  have hl : nx1.getD v 0 < (outs.getD v []).length := (List.getElem?_eq_some_iff.1 hi).1
  have hvl : v < nx1.length := by rw [h.nlen]; exact hvN
  refine ⟨h.le, h.ok, h.exc, by rw [List.length_set]; exact h.nlen, fun u => ?_, fun u => ?_, fun u hu => ?_, h.lowL, fun h0 => ⟨(h.zero h0).1, fun hD => ?_⟩⟩
  · rw [getD_set_nat _ _ _ _ hvl]; split
    · rename_i e; subst e; omega
    · exact h.nle u
  · rw [getD_set_nat _ _ _ _ hvl]; split
    · rename_i e; subst e; have := h.mono u; omega
    · exact h.mono u
  · rw [getD_set_ne _ _ _ _ (fun e => by subst e; omega)]; exact h.low u hu
  · obtain ⟨rfl, hz⟩ := h.zero h0
    have hD1 := hz hD
    intro u j i' hj hi'
    rw [getD_set_nat _ _ _ _ hvl] at hj
    have key : L1.getD i' 0 = 0 ∨ lev.getD (hd ac i') 0 ≠ lev.getD u 0 + 1 ∨ (hd ac i' ≠ sink ∧ nx1.getD (hd ac i') 0 = (outs.getD (hd ac i') []).length) := by
      by_cases hu : u = v
      · subst hu
        rw [if_pos rfl] at hj
        rcases Nat.lt_or_ge j (nx1.getD u 0) with hlt | hge
        · exact hD1 u j i' hlt hi'
        · obtain rfl : j = nx1.getD u 0 := by omega
          rw [hi] at hi'; injection hi' with hi'; subst hi'
          rcases hd0 with h1 | h1
          · exact .inl h1
          · exact .inr (.inl h1)
      · rw [if_neg hu] at hj; exact hD1 u j i' hj hi'
    rcases key with h1 | h1 | ⟨h1, h2⟩
    · exact .inl h1
    · exact .inr (.inl h1)
    · refine .inr (.inr ⟨h1, ?_⟩)
      rw [getD_set_ne _ _ _ _ (fun e => by rw [e] at h2; omega)]; exact h2
/-- An arc over which r is sent. -/
theorem Loop.sent (hN : Net N ac outs) (h : Loop N ac outs sink lev v most L nx s L1 nx1) (hvN : v < N) {i : Nat} (hi : (outs.getD v [])[nx1.getD v 0]? = some i) (hlv : lev.getD (hd ac i) 0 = lev.getD v 0 + 1) {r m : Nat} {L2 nx2 : List Nat} (hm1 : m ≤ most - s) (hm2 : m ≤ L1.getD i 0)
    (hp : Push N ac outs sink lev (hd ac i) m L1 nx1 r L2 nx2) : Loop N ac outs sink lev v most L nx (s + r) (snd L2 i r) nx2 ∧ nx2.getD v 0 = nx1.getD v 0 ∧ L2.getD i 0 = L1.getD i 0 ∧ L2.getD (mt i) 0 = L1.getD (mt i) 0 := by
  have hout := hN.out_mem v i (List.mem_of_getElem? hi)
  have hnv : nx2.getD v 0 = nx1.getD v 0 := hp.low v (by omega)
  have hLi : L2.getD i 0 = L1.getD i 0 := hp.lowL i hout.1 (.inl (by rw [hout.2]; omega))
  have hLm : L2.getD (mt i) 0 = L1.getD (mt i) 0 := hp.lowL (mt i) (mt_lt hout.1) (.inr (by rw [hd_mt, hout.2]; omega))
  have hr : r ≤ L2.getD i 0 := by have := hp.le; omega
  refine ⟨⟨by have := hp.le; have := h.le; omega, hp.ok.snd hout.1 hr, fun u => ?_, hp.nlen, hp.nle, fun u => Nat.le_trans (h.mono u) (hp.mono u), fun u hu => (hp.low u (by omega)).trans (h.low u hu), fun j hj hlow => ?_, fun h0 => ?_⟩, hnv, hLi, hLm⟩
  · rw [ex_snd hp.ok hout.1 hr, hp.exc u, h.exc u, hout.2]
    push_cast
    generalize ind (v = u) = D1
    generalize ind (sink = u) = D2
    generalize ind (hd ac i = u) = D3
    grind
  · rw [snd_get hp.ok.1 hout.1]
    have e1 : j ≠ i := fun e => by
      subst e; rw [hout.2] at hlow; rcases hlow with h1 | h1 <;> omega
    have e2 : j ≠ mt i := fun e => by
      subst e; rw [fr_mt, hd_mt, hout.2] at hlow; rcases hlow with h1 | h1 <;> omega
    rw [if_neg e2, if_neg e1, hp.lowL j hj (by rcases hlow with h1 | h1 <;> omega)]
    exact h.lowL j hj hlow
  · have hr0 : r = 0 := by omega
    have hs0 : s = 0 := by omega
    subst hr0
    obtain ⟨rfl, hz⟩ := hp.zero rfl
    obtain ⟨rfl, hz1⟩ := h.zero hs0
    refine ⟨?_, fun hD => hz (hz1 hD)⟩
    unfold snd
    rw [Nat.sub_zero, Nat.add_zero]
    have hs : ∀ (l : List Nat) (k : Nat), l.set k (l.getD k 0) = l := fun l k => by
      refine List.ext_getElem? fun j => ?_
      rw [List.getElem?_set]
      split
      · rename_i e; subst e
        split
        · rename_i hk; rw [List.getD_eq_getElem?_getD, List.getElem?_eq_getElem hk]; rfl
        · rename_i hk; rw [List.getElem?_eq_none (by omega)]
      · rfl
    have e1 : (L2.set i (L2.getD i 0)) = L2 := hs L2 i
    rw [e1]; exact hs L2 (mt i)
/-- The step behind an arc over which nothing was sent, or not all. -/
theorem Loop.next (h : Loop N ac outs sink lev v most L nx s L1 nx1) (hvN : v < N) {i : Nat} (hi : (outs.getD v [])[nx1.getD v 0]? = some i) (hdone : s = 0 → hd ac i ≠ sink ∧ hd ac i ≠ v ∧ nx1.getD (hd ac i) 0 = (outs.getD (hd ac i) []).length) : Loop N ac outs sink lev v most L nx s L1 (nx1.set v (nx1.getD v 0 + 1)) := by
  have hl : nx1.getD v 0 < (outs.getD v []).length := (List.getElem?_eq_some_iff.1 hi).1
  have hvl : v < nx1.length := by rw [h.nlen]; exact hvN
  refine ⟨h.le, h.ok, h.exc, by rw [List.length_set]; exact h.nlen, fun u => ?_, fun u => ?_, fun u hu => ?_, h.lowL, fun h0 => ⟨(h.zero h0).1, fun hD => ?_⟩⟩
  · rw [getD_set_nat _ _ _ _ hvl]; split
    · rename_i e; subst e; omega
    · exact h.nle u
  · rw [getD_set_nat _ _ _ _ hvl]; split
    · rename_i e; subst e; have := h.mono u; omega
    · exact h.mono u
  · rw [getD_set_ne _ _ _ _ (fun e => by subst e; omega)]; exact h.low u hu
  · obtain ⟨rfl, hz⟩ := h.zero h0
    have hD1 := hz hD
    obtain ⟨d1, d2, d3⟩ := hdone h0
    intro u j i' hj hi'
    rw [getD_set_nat _ _ _ _ hvl] at hj
    have key : L1.getD i' 0 = 0 ∨ lev.getD (hd ac i') 0 ≠ lev.getD u 0 + 1 ∨ (hd ac i' ≠ sink ∧ nx1.getD (hd ac i') 0 = (outs.getD (hd ac i') []).length) := by
      by_cases hu : u = v
      · subst hu
        rw [if_pos rfl] at hj
        rcases Nat.lt_or_ge j (nx1.getD u 0) with hlt | hge
        · exact hD1 u j i' hlt hi'
        · obtain rfl : j = nx1.getD u 0 := by omega
          rw [hi] at hi'; injection hi' with hi'; subst hi'
          exact .inr (.inr ⟨d1, d3⟩)
      · rw [if_neg hu] at hj; exact hD1 u j i' hj hi'
    rcases key with h1 | h1 | ⟨h1, h2⟩
    · exact .inl h1
    · exact .inr (.inl h1)
    · refine .inr (.inr ⟨h1, ?_⟩)
      rw [getD_set_ne _ _ _ _ (fun e => by rw [e] at h2; omega)]; exact h2
end

/-- What layers finds. -/
structure Lay (N : Nat) (ac : List Ar) (src : Nat) (L : List Nat) (lev : List Int) : Prop where
  len : lev.length = N
  at_ : lev.getD src 0 = 0
  low : ∀ v, v < N → -1 ≤ lev.getD v 0
  up : ∀ v, v < N → lev.getD v 0 < N
  pred : ∀ v, v < N → 0 ≤ lev.getD v 0 → v = src ∨ ∃ i, i < 2 * ac.length ∧ hd ac i = v ∧ 0 < L.getD i 0 ∧ 0 ≤ lev.getD (fr ac i) 0 ∧ lev.getD v 0 = lev.getD (fr ac i) 0 + 1
  clos : ∀ i, i < 2 * ac.length → 0 < L.getD i 0 → 0 ≤ lev.getD (fr ac i) 0 → 0 ≤ lev.getD (hd ac i) 0
/-- If the sink is reached, something is sent. -/
theorem push_pos {N : Nat} {ac : List Ar} {outs : List (List Nat)} {src sink : Nat} {lev : List Int} {most : Nat} {L nx L' nx' : List Nat} {r : Nat} (hN : Net N ac outs) (hl : Lay N ac src L lev) (hs : 0 ≤ lev.getD sink 0) (hsN : sink < N) (hz : ∀ u, nx.getD u 0 = 0) (hp : Push N ac outs sink lev src most L nx r L' nx') : 1 ≤ r := by
  rcases Nat.eq_zero_or_pos r with h0 | h0
  · exfalso
    have hD := (hp.zero h0).2 (fun u j i hj => by rw [hz u] at hj; omega)
    have h1 := hp.done h0
    have key : ∀ (k : Nat) (v : Nat), v < N → lev.getD v 0 = (k : Int) → v ≠ sink ∧ nx'.getD v 0 = (outs.getD v []).length := by
      intro k
      induction k with
      | zero =>
        intro v hv hk
        rcases hl.pred v hv (by omega) with rfl | ⟨i, hi, hiv, hL, h2, h3⟩
        · exact h1
        · omega
      | succ k ih =>
        intro v hv hk
        rcases hl.pred v hv (by omega) with rfl | ⟨i, hi, hiv, hL, h2, h3⟩
        · exact h1
        · have hu := (hN.fr_lt hi).1
          obtain ⟨-, h5⟩ := ih (fr ac i) hu (by omega)
          obtain ⟨j, hj⟩ := List.mem_iff_getElem?.1 (hN.mem_out i hi)
          have hjl : j < (outs.getD (fr ac i) []).length := (List.getElem?_eq_some_iff.1 hj).1
          rcases hD (fr ac i) j i (by omega) hj with h6 | h6 | h6
          · omega
          · rw [hiv] at h6; omega
          · rw [hiv] at h6; exact h6
    exact (key (lev.getD sink 0).toNat sink hsN (by omega)).1 rfl
  · exact h0
end Go.Proofs.YticekkjambkifaaDoor.Fl

/- Memory of the flow: what stays, a queue, halves, rows, the network. -/
set_option linter.unusedVariables false
set_option linter.unusedSimpArgs false
namespace Go.Proofs.YticekkjambkifaaDoor.Fl
open Go.RowKit Go.Proofs.YticekkjambkifaaDoor

/-- The worlds agree but for the blocks ex. -/
structure Same (ex : Nat → Prop) (W W' : World) : Prop where
  os : W'.os = W.os
  tape : W'.tape = W.tape
  output : W'.output = W.output
  size : W.heap.size ≤ W'.heap.size
  block : ∀ k, k < W.heap.size → ¬ ex k → W'.heap[k]? = W.heap[k]?
theorem Same.refl (ex : Nat → Prop) (W : World) : Same ex W W := ⟨rfl, rfl, rfl, Nat.le_refl _, fun _ _ _ => rfl⟩
theorem Same.trans {ex ex' : Nat → Prop} {A B C : World} (h : Same ex A B) (h' : Same ex' B C) (hx : ∀ k, k < A.heap.size → ex' k → ex k) : Same ex A C :=
  ⟨h'.os.trans h.os, h'.tape.trans h.tape, h'.output.trans h.output, Nat.le_trans h.size h'.size, fun k hk hn => (h'.block k (Nat.lt_of_lt_of_le hk h.size) (fun e => hn (hx k hk e))).trans (h.block k hk hn)⟩
theorem Same.of_below {b : Nat} {W W' : World} (h : Below b W W') (hb : W.heap.size ≤ b) (ex : Nat → Prop) : Same ex W W' := ⟨h.os, h.tape, h.output, h.size, fun k hk _ => h.block k (Nat.lt_of_lt_of_le hk hb)⟩
theorem Same.of_grown {W W' : World} {row : Option Nat} (h : W.grownBy W' row) : Same (fun k => row = some k) W W' := ⟨h.os, h.tape, h.output, h.size, fun k hk hn => h.block k hk (fun e => hn e.symm)⟩
theorem Same.mono {ex ex' : Nat → Prop} {W W' : World} (h : Same ex W W') (hx : ∀ k, k < W.heap.size → ex k → ex' k) : Same ex' W W' := ⟨h.os, h.tape, h.output, h.size, fun k hk hn => h.block k hk (fun e => hn (hx k hk e))⟩
theorem Same.drew {ex : Nat → Prop} {W W' : World} (h : Same ex W W') : Same ex W W'.drew := ⟨h.os, h.tape, h.output, h.size, h.block⟩
theorem Same.drewN {ex : Nat → Prop} {W W' : World} (h : Same ex W W') (n : Nat) : Same ex W (W'.drewN n) := ⟨h.os, h.tape, h.output, h.size, h.block⟩
theorem Same.alloc {ex : Nat → Prop} {W W' : World} (h : Same ex W W') (o : Obj) : Same ex W (W'.alloc o) := h.trans (Same.of_below ((Below.refl W'.heap.size W').alloc (Nat.le_refl _) o) (Nat.le_refl _) (fun _ => False)) (fun _ _ h => h.elim)
theorem Same.cell {ex : Nat → Prop} {W W' : World} (h : Same ex W W') {p : Addr} (hp : p.block < W.heap.size) (hx : ¬ ex p.block) : W'.cell? p = W.cell? p := World.cell?_of_block (h.block p.block hp hx)
theorem Same.below {ex : Nat → Prop} {b : Nat} {W W' : World} (h : Same ex W W') (hb : b ≤ W.heap.size) (hx : ∀ k, k < b → ¬ ex k) : Below b W W' := ⟨h.os, h.tape, h.output, h.size, fun k hk => h.block k (Nat.lt_of_lt_of_le hk hb) (hx k hk)⟩
theorem Same.blk {ex : Nat → Prop} {W W' : World} {g : Nat} {t : TypeId} {cs : Array Value} (h : Same ex W W') (hB : Blk W g t cs) (hg : ¬ ex g) : Blk W' g t cs := (h.block g hB.lt hg).trans hB
theorem Same.set (W : World) (g i : Nat) (u : Value) : Same (fun k => k = g) W (W.setCell ⟨g, i, none⟩ u) :=
  (Same.of_grown (grown_setB (World.grownBy.refl W (some g)) i u)).mono fun k _ h => by injection h with h; exact h.symm
theorem Same.ri {A : Option Addr} {n : Nat} {xs : List Int} {ex : Nat → Prop} {W W' : World} (h : Same ex W W') (hr : RI W A n xs) (hx : ∀ ad, A = some ad → 0 < n → ¬ ex ad.block) : RI W' A n xs :=
  ⟨hr.1, fun hp => by
    obtain ⟨ad, he, hb, hc⟩ := hr.2 hp
    exact ⟨ad, he, Nat.lt_of_lt_of_le hb h.size, fun j u hu => (World.cell?_of_block (h.block (ad.add j).block (by rw [block_of_add]; exact hb) (by rw [block_of_add]; exact hx ad he hp))).trans (hc j u hu)⟩⟩
theorem Same.grown {ex : Nat → Prop} {W W' W2 : World} {row : Option Nat} (h : Same ex W W') (hg : W'.grownBy W2 row) (hx : ∀ k, row = some k → k < W.heap.size → ex k) : Same ex W W2 := h.trans (Same.of_grown hg) (fun k hk e => hx k e hk)
theorem Same.bel {ex : Nat → Prop} {W W' W2 : World} {b : Nat} (h : Same ex W W') (h2 : Below b W' W2) (hb : W.heap.size ≤ b) : Same ex W W2 :=
  ⟨h2.os.trans h.os, h2.tape.trans h.tape, h2.output.trans h.output, Nat.le_trans h.size h2.size, fun k hk hn => (h2.block k (Nat.lt_of_lt_of_le hk hb)).trans (h.block k hk hn)⟩

/- ### a queue: a slice of numbers of which the head is cut off -/
section
variable {P : Program} (w : World)
theorem run_append_room_off (t ty e : TypeId) (i : TypeInfo) (ht : P.underlying t = some (.slice e)) (hi : P.info? e = some i)
    (g off sLen sCap : Nat) (cur : Array Value) (hg : w.heap[g]? = some (.cells cur e (0, 0)))
    (a : Addr) (m c : Nat) (news : List Value) (hl : news.length = m * i.size) (hnews : ∀ j u, news[j]? = some u → w.cell? (a.add j) = some u) (h1 : ∀ u ∈ news, u.oneCell' = true)
    (hroom : sLen + m ≤ sCap) (hfit : off + sLen * i.size + news.length ≤ cur.size) :
    (Builtin.append_ #[t, t] ty #[.slice (some ⟨g, off, none⟩) sLen sCap, .slice (some a) m c]).run P w =
      .ok (.slice (some ⟨g, off, none⟩) (sLen + m) sCap) (w.setRow g (cur.toList.take (off + sLen * i.size) ++ news ++ cur.toList.drop (off + sLen * i.size + news.length)).toArray) := by
  have hf := run_firstCells_some (P := P) w i.size m a m c news hl hnews
  have hst := run_storeCells_at P g (off + sLen * i.size) e news 0 cur w hg (by simpa using hfit) h1
  simp only [Nat.add_zero] at hst
  simp [Builtin.append_, run_underlying ht, sizeOf, typeInfo, hi, Builtin.lenOf, hroom, hf, Addr.add_lit, hst]
end
/-- The slice v is the call's own, a part of a row among the blocks from B on, and holds the numbers xs. -/
def OQ (w : World) (B : Nat) (v : Value) (xs : List Int) : Prop := ∃ (g off cap : Nat) (cur : Array Value), v = .slice (some ⟨g, off, none⟩) xs.length cap ∧ B ≤ g ∧ w.heap[g]? = some (.cells cur 3 (0, 0)) ∧ xs.length ≤ cap ∧ cap ≤ maxLen ∧ off + cap ≤ cur.size ∧ (cur.toList.drop off).take xs.length = ints xs
section
variable {w w' : World} {B : Nat} {v : Value} {xs : List Int}
theorem OQ.new (w : World) (x : Int) (hB : B ≤ w.heap.size) : OQ (w.alloc (.cells #[.int .i64 x] 3)) B (.slice (some ⟨w.heap.size, 0, none⟩) 1 1) [x] :=
  ⟨_, 0, 1, _, rfl, hB, heap_alloc_new w _, Nat.le_refl _, by unfold maxLen; omega, by simp, rfl⟩
theorem OQ.kept {ex : Nat → Prop} (h : OQ w B v xs) (hs : Same ex w w') (hx : ∀ k, B ≤ k → ¬ ex k) : OQ w' B v xs := by
  obtain ⟨g, off, cap, cur, h1, h2, h3, h4⟩ := h
  have hlt : g < w.heap.size := by
    rcases Nat.lt_or_ge g w.heap.size with hlt | hge
    · exact hlt
    · rw [Array.getElem?_eq_none hge] at h3; cases h3
  exact ⟨g, off, cap, cur, h1, h2, (hs.block g hlt (hx g h2)).trans h3, h4⟩
theorem OQ.form (h : OQ w B v xs) : ∃ g off cap, v = .slice (some ⟨g, off, none⟩) xs.length cap ∧ B ≤ g ∧ g < w.heap.size ∧ xs.length ≤ cap ∧ RI w (some ⟨g, off, none⟩) xs.length xs := by
  obtain ⟨g, off, cap, cur, h1, h2, h3, h4, h5, h6, h7⟩ := h
  have hlt : g < w.heap.size := by
    rcases Nat.lt_or_ge g w.heap.size with hlt | hge
    · exact hlt
    · rw [Array.getElem?_eq_none hge] at h3; cases h3
  refine ⟨g, off, cap, h1, h2, hlt, h4, by rw [ints_length, Nat.mul_one], fun _ => ⟨_, rfl, hlt, fun j u hu => ?_⟩⟩
  rw [Addr.add_lit, cell_of_row w g (off + j) cur 3 (0, 0) h3]
  rw [← h7, List.getElem?_take] at hu
  split at hu
  · rw [List.getElem?_drop] at hu
    simpa using hu
  · cases hu
/-- The head is cut off. -/
theorem OQ.cut {g off cap : Nat} {x : Int} (h : OQ w B (.slice (some ⟨g, off, none⟩) (xs.length + 1) cap) (x :: xs)) : OQ w B (.slice (if cap = 1 then some ⟨g, off, none⟩ else some ⟨g, off + 1, none⟩) xs.length (cap - 1)) xs := by
  obtain ⟨g', off', cap', cur, h1, h2, h3, h4, h5, h6, h7⟩ := h
  injection h1 with e1 e2 e3
  injection e1 with e1
  injection e1 with e1 e4 _
  subst e1; subst e4; subst e3
  simp only [List.length_cons] at h4 h7
  by_cases hc : cap = 1
  · subst hc
    rw [if_pos rfl]
    have hx : xs = [] := List.eq_nil_of_length_eq_zero (by omega)
    subst hx
    exact ⟨g, off, 0, cur, rfl, h2, h3, Nat.le_refl _, by omega, by omega, rfl⟩
  · rw [if_neg hc]
    refine ⟨g, off + 1, cap - 1, cur, rfl, h2, h3, by omega, by omega, by omega, ?_⟩
    rw [← List.drop_drop]
    generalize cur.toList.drop off = l at *
    cases l with
    | nil => simp [ints] at h7
    | cons y l =>
      rw [List.take_succ_cons, ints_cons] at h7
      injection h7
/-- One number more. -/
theorem wpList_pushQ {ops : Array Oper} {rest : List Oper} {o : Oper} {a : Act} {Q : Exit → Act → World → Prop} {T H : Nat} {y : Int}
    (hgd : o.guard = none) (s x : Operand) (ho : o.op = .call { callee := .builtin .append, args := #[s, x], argTypes := #[22, 22] })
    (hs : a.eval s = v) (hx : a.eval x = .slice (some ⟨H, 0, none⟩) 1 1) (hH : H = w.heap.size) (hown : OQ w B v xs) (hn : xs.length ≤ 2199023255552) (hB : B ≤ w.heap.size)
    (h : ∀ v' w', OQ w' B v' (xs ++ [y]) → Below B w w' → wpList Tryd.prog ops Q rest (a.put o.dst v') w') :
    wpList Tryd.prog ops Q (o :: rest) a (w.alloc (.cells #[.int .i64 y] T)) := by
  obtain ⟨i0, hi0, hz0, hz1, hz2⟩ := info_parts int_info
  obtain ⟨g, off, cap, cur, h1, h2, h3, h4, h5, h6, h7⟩ := hown
  subst hH
  have hlt : g < w.heap.size := by
    rcases Nat.lt_or_ge g w.heap.size with hlt | hge
    · exact hlt
    · rw [Array.getElem?_eq_none hge] at h3; cases h3
  have h3' : (w.alloc (.cells #[.int .i64 y] T)).heap[g]? = some (.cells cur 3 (0, 0)) := (Below.heap_alloc w _ g hlt).trans h3
  have hnews : ∀ j u, [Value.int .i64 y][j]? = some u → (w.alloc (.cells #[.int .i64 y] T)).cell? ((⟨w.heap.size, 0, none⟩ : Addr).add j) = some u := cell_one_new w _ T
  have hll : (ints xs).length = xs.length := ints_length xs
  have hcl : ((cur.toList.drop off).take xs.length).length = xs.length := by rw [h7, hll]
  have key : ∃ v' w', (Builtin.append_ #[22, 22] o.type #[v, .slice (some ⟨w.heap.size, 0, none⟩) 1 1]).run Tryd.prog (w.alloc (.cells #[.int .i64 y] T)) = .ok v' w' ∧ OQ w' B v' (xs ++ [y]) ∧ Below B w w' := by
    by_cases hroom : xs.length + 1 ≤ cap
    · have hr := run_append_room_off (P := Tryd.prog) (w.alloc (.cells #[.int .i64 y] T)) 22 o.type 3 i0 Tryd.underlying22 hi0 g off xs.length cap cur h3' ⟨w.heap.size, 0, none⟩ 1 1 [.int .i64 y] (by rw [hz1]; rfl) hnews (by intro u hu; simp at hu; subst hu; rfl) hroom (by rw [hz1]; simp; omega)
      rw [hz1] at hr
      simp only [Nat.mul_one, List.length_singleton] at hr
      have hg := setRow_heap (w.alloc (.cells #[.int .i64 y] T)) g cur (cur.toList.take (off + xs.length) ++ [Value.int .i64 y] ++ cur.toList.drop (off + xs.length + 1)).toArray 3 (0, 0) h3'
      refine ⟨.slice (some ⟨g, off, none⟩) (xs.length + 1) cap, _, by rw [h1]; exact hr, ⟨g, off, cap, _, by simp, h2, hg, by simp; omega, h5, ?_, ?_⟩, ?_⟩
      · simp only [List.size_toArray, List.length_append, List.length_take, List.length_drop, Array.length_toList, List.length_singleton]
        omega
      · simp only [List.length_append, List.length_singleton, ints_append]
        have e1 : cur.toList.take (off + xs.length) ++ [Value.int .i64 y] ++ cur.toList.drop (off + xs.length + 1) = cur.toList.take off ++ (ints xs ++ [Value.int .i64 y] ++ cur.toList.drop (off + xs.length + 1)) := by
          rw [List.take_add, h7]; simp
        rw [e1, List.drop_append_of_le_length (by rw [List.length_take, Array.length_toList]; omega)]
        have e2 : (cur.toList.take off).drop off = [] := List.drop_eq_nil_of_le (by rw [List.length_take]; omega)
        rw [e2, List.nil_append]
        have e3 : xs.length + 1 = (ints xs ++ [Value.int .i64 y]).length := by simp [hll]
        rw [e3, List.take_left]; rfl
      · have b0 : Below B w (w.alloc (.cells #[.int .i64 y] T)) := (Below.refl _ _).alloc hB _
        exact ⟨rfl, rfl, rfl, by simp [World.setRow], fun k hk => (setRow_other _ g k _ (by omega)).trans (b0.block k hk)⟩
    · have holds : ∀ j u, (ints xs)[j]? = some u → (w.alloc (.cells #[.int .i64 y] T)).cell? ((⟨g, off, none⟩ : Addr).add j) = some u := by
        intro j u hu
        rw [Addr.add_lit, cell_of_row _ g (off + j) cur 3 (0, 0) h3']
        rw [← h7, List.getElem?_take] at hu
        split at hu
        · rw [List.getElem?_drop] at hu; simpa using hu
        · cases hu
      have hr := run_append_grow (P := Tryd.prog) (w.alloc (.cells #[.int .i64 y] T)) 22 o.type 3 i0 _ Tryd.underlying22 hi0 hz0 ⟨g, off, none⟩ xs.length cap (ints xs) (by rw [hll, hz1, Nat.mul_one]) holds ⟨w.heap.size, 0, none⟩ 1 1 [.int .i64 y] (by rw [hz1]; rfl) hnews (by omega) (by omega) (growslice_fits (by omega) (by rw [hz2]; omega))
      have hge := grownCap_ge (w.alloc (.cells #[.int .i64 y] T)) (xs.length + 1) cap 3
      have hcm := grownCap_le_maxLen (w.alloc (.cells #[.int .i64 y] T)) (xs.length + 1) cap 3 (by unfold maxLen; omega)
      refine ⟨_, _, by rw [h1]; exact hr, ⟨_, 0, _, _, by first | (simp; done) | (simp; rfl), by simp; omega, heap_alloc_new _ _, by simp; exact hge, hcm, ?_, ?_⟩, ?_⟩
      · simp only [Array.size_append, List.size_toArray, size_zeroCells, hll, List.length_singleton, show (Value.int .i64 0).cells.size = 1 from rfl]
        omega
      · simp only [Array.toList_append, List.append_assoc, List.length_append, List.length_singleton, ints_append, List.drop_zero]
        rw [← List.append_assoc, show xs.length + 1 = (ints xs ++ [Value.int .i64 y]).length by simp [hll], List.take_left]; rfl
      · exact ((((Below.refl _ _).alloc hB _).drew).alloc (by simp; omega) _)
  obtain ⟨v', w', hr, h8, h9⟩ := key
  refine wpList_plain hgd fun K hK => ?_
  unfold Oper.wp execOp
  simp only [ho, resolve, invoke, builtin, Sem.run_bind, Sem.run_pure, Result.andThen_ok, List.map_toArray, List.map_cons, List.map_nil, hs, hx, hr]
  exact hK _ _ (h v' w' h8 h9)
end
end Go.Proofs.YticekkjambkifaaDoor.Fl

/- The two searches in plain Lean: who reaches a node, and the layers. -/
set_option linter.unusedVariables false
set_option linter.unusedSimpArgs false
namespace Go.Proofs.YticekkjambkifaaDoor.Fl

/-- Counting what a list does not have. -/
def cntB {α : Type} (p : α → Bool) (l : List α) : Nat := (l.filter p).length
theorem cntB_set {α : Type} (p : α → Bool) (l : List α) (v : Nat) (x y : α) (hv : l[v]? = some y) (hy : p y = true) (hx : p x = false) : cntB p (l.set v x) + 1 = cntB p l := by
  unfold cntB
  induction l generalizing v with
  | nil => simp at hv
  | cons a l ih =>
    cases v with
    | zero =>
      simp at hv; subst hv
      rw [List.set_cons_zero, List.filter_cons, List.filter_cons, if_neg (by rw [hx]; decide), if_pos hy, List.length_cons]
    | succ v =>
      rw [List.set_cons_succ, List.filter_cons, List.filter_cons]
      have := ih v (by simpa using hv)
      split
      · rw [List.length_cons, List.length_cons]; omega
      · exact this
theorem cntB_le {α : Type} (p : α → Bool) (l : List α) : cntB p l ≤ l.length := List.length_filter_le _ _
theorem getD_set' {α : Type} (l : List α) (i j : Nat) (v d : α) (hi : i < l.length) : (l.set i v).getD j d = if j = i then v else l.getD j d := by
  rw [List.getD_eq_getElem?_getD, List.getD_eq_getElem?_getD, List.getElem?_set]
  by_cases h : i = j
  · subst h; rw [if_pos rfl, if_pos hi, if_pos rfl]; rfl
  · rw [if_neg h, if_neg (fun e => h e.symm)]

/-- Who reaches v. -/
structure Reach (N : Nat) (ac : List Ar) (L : List Nat) (v : Nat) (R : List Bool) : Prop where
  len : R.length = N
  at_ : R.getD v false = true
  clos : ∀ i, i < 2 * ac.length → 0 < L.getD i 0 → R.getD (hd ac i) false = true → R.getD (fr ac i) false = true
  least : ∀ T : Nat → Prop, T v → (∀ i, i < 2 * ac.length → 0 < L.getD i 0 → T (hd ac i) → T (fr ac i)) → ∀ u, R.getD u false = true → T u
/-- The search, ahead of a node. -/
structure BO (N : Nat) (ac : List Ar) (outs : List (List Nat)) (L : List Nat) (v : Nat) (R : List Bool) (qs : List Nat) : Prop where
  len : R.length = N
  at_ : R.getD v false = true
  q : ∀ u ∈ qs, u < N ∧ R.getD u false = true
  least : ∀ T : Nat → Prop, T v → (∀ i, i < 2 * ac.length → 0 < L.getD i 0 → T (hd ac i) → T (fr ac i)) → ∀ u, R.getD u false = true → T u
  rest : ∀ u, u < N → R.getD u false = true → u ∈ qs ∨ ∀ i ∈ outs.getD u [], 0 < L.getD (mt i) 0 → R.getD (hd ac i) false = true
/-- The search, within the node y, k halves done. -/
structure BI (N : Nat) (ac : List Ar) (outs : List (List Nat)) (L : List Nat) (v : Nat) (R : List Bool) (qs : List Nat) (y k : Nat) : Prop where
  bo : BO N ac outs L v R qs
  fst : ∃ tl, qs = y :: tl
  seen : ∀ j i, j < k → (outs.getD y [])[j]? = some i → 0 < L.getD (mt i) 0 → R.getD (hd ac i) false = true
section
variable {N : Nat} {ac : List Ar} {outs : List (List Nat)} {L : List Nat} {v y k i : Nat} {R : List Bool} {qs tl : List Nat}
theorem BO.start (hv : v < N) : BO N ac outs L v ((List.replicate N false).set v true) [v] := by
  have hg : ∀ u, ((List.replicate N false).set v true).getD u false = true → u = v := by
    intro u hu
    rw [getD_set' _ _ _ _ _ (by rw [List.length_replicate]; exact hv)] at hu
    split at hu
    · rename_i e; exact e
    · rw [List.getD_eq_getElem?_getD, List.getElem?_replicate] at hu
      split at hu <;> cases hu
  have hv1 : ((List.replicate N false).set v true).getD v false = true := by rw [getD_set' _ _ _ _ _ (by rw [List.length_replicate]; exact hv), if_pos rfl]
  exact ⟨by rw [List.length_set, List.length_replicate], hv1, fun u hu => by rw [List.mem_singleton] at hu; subst hu; exact ⟨hv, hv1⟩, fun T h0 _ u hu => by rw [hg u hu]; exact h0, fun u _ hu => .inl (by rw [hg u hu]; exact List.mem_singleton.2 rfl)⟩
theorem BO.inner (h : BO N ac outs L v R (y :: tl)) : BI N ac outs L v R (y :: tl) y 0 := ⟨h, ⟨tl, rfl⟩, fun j i hj => absurd hj (Nat.not_lt_zero _)⟩
theorem BI.no (h : BI N ac outs L v R qs y k) (hi : (outs.getD y [])[k]? = some i) (hd0 : L.getD (mt i) 0 = 0 ∨ R.getD (hd ac i) false = true) : BI N ac outs L v R qs y (k + 1) :=
  ⟨h.bo, h.fst, fun j i' hj hi' hp => by
    rcases Nat.lt_or_ge j k with hlt | hge
    · exact h.seen j i' hlt hi' hp
    · obtain rfl : j = k := by omega
      rw [hi] at hi'; injection hi' with hi'; subst hi'
      rcases hd0 with h1 | h1
      · omega
      · exact h1⟩
theorem BI.add (hN : Net N ac outs) (h : BI N ac outs L v R qs y k) (hi : (outs.getD y [])[k]? = some i) (hp : 0 < L.getD (mt i) 0) (hn : R.getD (hd ac i) false = false) :
    BI N ac outs L v (R.set (hd ac i) true) (qs ++ [hd ac i]) y (k + 1) ∧ cntB (fun b => !b) (R.set (hd ac i) true) + 1 = cntB (fun b => !b) R := by
  have hio := hN.out_mem y i (List.mem_of_getElem? hi)
  have hlt := (hN.fr_lt hio.1).2
  have hl : hd ac i < R.length := by rw [h.bo.len]; exact hlt
  have mono : ∀ u, R.getD u false = true → (R.set (hd ac i) true).getD u false = true := fun u hu => by
    rw [getD_set' _ _ _ _ _ hl]; split
    · rfl
    · exact hu
  obtain ⟨tl, htl⟩ := h.fst
  have hy : y ∈ qs := by rw [htl]; exact List.mem_cons_self ..
  refine ⟨⟨⟨by rw [List.length_set]; exact h.bo.len, mono _ h.bo.at_, fun u hu => ?_, fun T h0 hT u hu => ?_, fun u hu hR => ?_⟩, ⟨tl ++ [hd ac i], by rw [htl]; rfl⟩, fun j i' hj hi' hp' => ?_⟩, ?_⟩
  · rcases List.mem_append.1 hu with h1 | h1
    · exact ⟨(h.bo.q u h1).1, mono u (h.bo.q u h1).2⟩
    · rw [List.mem_singleton] at h1; subst h1
      exact ⟨hlt, by rw [getD_set' _ _ _ _ _ hl, if_pos rfl]⟩
  · rw [getD_set' _ _ _ _ _ hl] at hu
    split at hu
    · rename_i e; subst e
      have hy' := h.bo.least T h0 hT y (h.bo.q y hy).2
      have := hT (mt i) (mt_lt hio.1) hp (by rw [hd_mt, hio.2]; exact hy')
      rw [fr_mt] at this; exact this
    · exact h.bo.least T h0 hT u hu
  · rw [getD_set' _ _ _ _ _ hl] at hR
    split at hR
    · rename_i e; exact .inl (List.mem_append.2 (.inr (by rw [e]; exact List.mem_singleton.2 rfl)))
    · rcases h.bo.rest u hu hR with h1 | h1
      · exact .inl (List.mem_append.2 (.inl h1))
      · exact .inr fun i' hi' hp' => mono _ (h1 i' hi' hp')
  · rcases Nat.lt_or_ge j k with hlt' | hge
    · exact mono _ (h.seen j i' hlt' hi' hp')
    · obtain rfl : j = k := by omega
      rw [hi] at hi'; injection hi' with hi'; subst hi'
      rw [getD_set' _ _ _ _ _ hl, if_pos rfl]
  · refine cntB_set _ R (hd ac i) true (R.getD (hd ac i) false) ?_ (by rw [hn]; rfl) rfl
    rw [List.getD_eq_getElem?_getD, List.getElem?_eq_getElem hl]; rfl
theorem BI.fin (h : BI N ac outs L v R (y :: tl) y (outs.getD y []).length) : BO N ac outs L v R tl :=
  ⟨h.bo.len, h.bo.at_, fun u hu => h.bo.q u (List.mem_cons_of_mem _ hu), h.bo.least, fun u hu hR => by
    by_cases e : u = y
    · subst e
      refine .inr fun i hi hp => ?_
      obtain ⟨j, hj⟩ := List.mem_iff_getElem?.1 hi
      exact h.seen j i (List.getElem?_eq_some_iff.1 hj).1 hj hp
    · rcases h.bo.rest u hu hR with h1 | h1
      · rcases List.mem_cons.1 h1 with h2 | h2
        · exact absurd h2 e
        · exact .inl h2
      · exact .inr h1⟩
theorem BO.reach (hN : Net N ac outs) (h : BO N ac outs L v R []) : Reach N ac L v R :=
  ⟨h.len, h.at_, fun i hi hp hR => by
    have hlt := (hN.fr_lt hi).2
    rcases h.rest _ hlt hR with h1 | h1
    · cases h1
    · have := h1 (mt i) (by rw [← fr_mt]; exact hN.mem_out _ (mt_lt hi)) (by rw [mt_mt]; exact hp)
      rw [hd_mt] at this; exact this, h.least⟩
end

/-- The layers, ahead of a node. -/
structure LO (N : Nat) (ac : List Ar) (outs : List (List Nat)) (L : List Nat) (src : Nat) (lev : List Int) (qs : List Nat) : Prop where
  len : lev.length = N
  at_ : lev.getD src 0 = 0
  low : ∀ u, u < N → -1 ≤ lev.getD u 0
  up : ∀ u, u < N → lev.getD u 0 + (cntB (fun x => decide (x < 0)) lev : Int) < N
  q : ∀ u ∈ qs, u < N ∧ 0 ≤ lev.getD u 0
  pred : ∀ u, u < N → 0 ≤ lev.getD u 0 → u = src ∨ ∃ i, i < 2 * ac.length ∧ hd ac i = u ∧ 0 < L.getD i 0 ∧ 0 ≤ lev.getD (fr ac i) 0 ∧ lev.getD u 0 = lev.getD (fr ac i) 0 + 1
  rest : ∀ u, u < N → 0 ≤ lev.getD u 0 → u ∈ qs ∨ ∀ i ∈ outs.getD u [], 0 < L.getD i 0 → 0 ≤ lev.getD (hd ac i) 0
structure LI (N : Nat) (ac : List Ar) (outs : List (List Nat)) (L : List Nat) (src : Nat) (lev : List Int) (qs : List Nat) (y k : Nat) : Prop where
  lo : LO N ac outs L src lev qs
  fst : ∃ tl, qs = y :: tl
  seen : ∀ j i, j < k → (outs.getD y [])[j]? = some i → 0 < L.getD i 0 → 0 ≤ lev.getD (hd ac i) 0
section
variable {N : Nat} {ac : List Ar} {outs : List (List Nat)} {L : List Nat} {src y k i : Nat} {lev : List Int} {qs tl : List Nat}
theorem cnt_neg_rep (N : Nat) : cntB (fun x : Int => decide (x < 0)) (List.replicate N (-1)) = N := by
  unfold cntB
  rw [List.filter_eq_self.2 (fun a ha => by rw [(List.mem_replicate.1 ha).2]; rfl), List.length_replicate]
theorem LO.start (hv : src < N) : LO N ac outs L src ((List.replicate N (-1 : Int)).set src 0) [src] := by
  have hl : src < (List.replicate N (-1 : Int)).length := by rw [List.length_replicate]; exact hv
  have hrep : ∀ u, u < N → (List.replicate N (-1 : Int)).getD u 0 = -1 := fun u hu => by rw [List.getD_eq_getElem?_getD, List.getElem?_replicate, if_pos hu]; rfl
  have hg : ∀ u, u < N → ((List.replicate N (-1 : Int)).set src 0).getD u 0 = if u = src then 0 else -1 := fun u hu => by
    rw [getD_set' _ _ _ _ _ hl]; split
    · rfl
    · exact hrep u hu
  have hc : cntB (fun x : Int => decide (x < 0)) ((List.replicate N (-1 : Int)).set src 0) + 1 = N := by
    rw [cntB_set (fun x : Int => decide (x < 0)) (List.replicate N (-1 : Int)) src 0 (-1) (by rw [List.getElem?_replicate, if_pos hv]) rfl rfl, cnt_neg_rep]
  refine ⟨by rw [List.length_set, List.length_replicate], by rw [hg src hv, if_pos rfl], fun u hu => ?_, fun u hu => ?_, fun u hu => ?_, fun u hu h0 => ?_, fun u hu h0 => ?_⟩
  · rw [hg u hu]; split <;> omega
  · rw [hg u hu]; split <;> omega
  · rw [List.mem_singleton] at hu; subst hu; exact ⟨hv, by rw [hg u hv, if_pos rfl]; omega⟩
  · rw [hg u hu] at h0; split at h0
    · rename_i e; exact .inl e
    · omega
  · rw [hg u hu] at h0; split at h0
    · rename_i e; exact .inl (by rw [e]; exact List.mem_singleton.2 rfl)
    · omega
theorem LO.inner (h : LO N ac outs L src lev (y :: tl)) : LI N ac outs L src lev (y :: tl) y 0 := ⟨h, ⟨tl, rfl⟩, fun j i hj => absurd hj (Nat.not_lt_zero _)⟩
theorem LI.no (h : LI N ac outs L src lev qs y k) (hi : (outs.getD y [])[k]? = some i) (hd0 : L.getD i 0 = 0 ∨ 0 ≤ lev.getD (hd ac i) 0) : LI N ac outs L src lev qs y (k + 1) :=
  ⟨h.lo, h.fst, fun j i' hj hi' hp => by
    rcases Nat.lt_or_ge j k with hlt | hge
    · exact h.seen j i' hlt hi' hp
    · obtain rfl : j = k := by omega
      rw [hi] at hi'; injection hi' with hi'; subst hi'
      rcases hd0 with h1 | h1
      · omega
      · exact h1⟩
theorem LI.add (hN : Net N ac outs) (h : LI N ac outs L src lev qs y k) (hi : (outs.getD y [])[k]? = some i) (hp : 0 < L.getD i 0) (hn : lev.getD (hd ac i) 0 < 0) :
    LI N ac outs L src (lev.set (hd ac i) (lev.getD y 0 + 1)) (qs ++ [hd ac i]) y (k + 1) ∧ cntB (fun x : Int => decide (x < 0)) (lev.set (hd ac i) (lev.getD y 0 + 1)) + 1 = cntB (fun x : Int => decide (x < 0)) lev := by
  have hio := hN.out_mem y i (List.mem_of_getElem? hi)
  have hlt := (hN.fr_lt hio.1).2
  have hl : hd ac i < lev.length := by rw [h.lo.len]; exact hlt
  obtain ⟨tl, htl⟩ := h.fst
  have hy : y ∈ qs := by rw [htl]; exact List.mem_cons_self ..
  have hy2 := h.lo.q y hy
  have hne : y ≠ hd ac i := fun e => by rw [← e] at hn; omega
  have hg : ∀ u, (lev.set (hd ac i) (lev.getD y 0 + 1)).getD u 0 = if u = hd ac i then lev.getD y 0 + 1 else lev.getD u 0 := fun u => getD_set' _ _ _ _ _ hl
  have hc : cntB (fun x : Int => decide (x < 0)) (lev.set (hd ac i) (lev.getD y 0 + 1)) + 1 = cntB (fun x : Int => decide (x < 0)) lev := by
    refine cntB_set _ lev (hd ac i) _ (lev.getD (hd ac i) 0) ?_ (decide_eq_true hn) (decide_eq_false (by omega))
    rw [List.getD_eq_getElem?_getD, List.getElem?_eq_getElem hl]; rfl
  have mono : ∀ u, 0 ≤ lev.getD u 0 → (lev.set (hd ac i) (lev.getD y 0 + 1)).getD u 0 = lev.getD u 0 := fun u hu => by
    rw [hg u, if_neg (fun e => by rw [e] at hu; omega)]
  have hnew : (lev.set (hd ac i) (lev.getD y 0 + 1)).getD (hd ac i) 0 = lev.getD y 0 + 1 := by rw [hg, if_pos rfl]
  refine ⟨⟨⟨by rw [List.length_set]; exact h.lo.len, ?_, fun u hu => ?_, fun u hu => ?_, fun u hu => ?_, fun u hu h0 => ?_, fun u hu h0 => ?_⟩, ⟨tl ++ [hd ac i], by rw [htl]; rfl⟩, fun j i' hj hi' hp' => ?_⟩, hc⟩
  · rw [mono src (by rw [h.lo.at_]; omega)]; exact h.lo.at_
  · rw [hg u]; split
    · omega
    · exact h.lo.low u hu
  · have h1 := h.lo.up u hu
    have h2 := h.lo.up y hy2.1
    rw [hg u]; split
    · omega
    · omega
  · rcases List.mem_append.1 hu with h1 | h1
    · exact ⟨(h.lo.q u h1).1, by rw [mono u (h.lo.q u h1).2]; exact (h.lo.q u h1).2⟩
    · rw [List.mem_singleton] at h1; subst h1
      exact ⟨hlt, by rw [hnew]; omega⟩
  · by_cases e : u = hd ac i
    · subst e
      exact .inr ⟨i, hio.1, rfl, hp, by rw [hio.2, mono y hy2.2]; exact hy2.2, by rw [hnew, hio.2, mono y hy2.2]⟩
    · rw [hg u, if_neg e] at h0 ⊢
      rcases h.lo.pred u hu h0 with h1 | ⟨i', h1, h2, h3, h4, h5⟩
      · exact .inl h1
      · exact .inr ⟨i', h1, h2, h3, by rw [mono _ h4]; exact h4, by rw [mono _ h4]; exact h5⟩
  · by_cases e : u = hd ac i
    · exact .inl (List.mem_append.2 (.inr (by rw [e]; exact List.mem_singleton.2 rfl)))
    · rw [hg u, if_neg e] at h0
      rcases h.lo.rest u hu h0 with h1 | h1
      · exact .inl (List.mem_append.2 (.inl h1))
      · exact .inr fun i' hi' hp' => by rw [mono _ (h1 i' hi' hp')]; exact h1 i' hi' hp'
  · rcases Nat.lt_or_ge j k with hlt' | hge
    · have := h.seen j i' hlt' hi' hp'
      rw [mono _ this]; exact this
    · obtain rfl : j = k := by omega
      rw [hi] at hi'; injection hi' with hi'; subst hi'
      rw [hnew]; omega
theorem LI.fin (h : LI N ac outs L src lev (y :: tl) y (outs.getD y []).length) : LO N ac outs L src lev tl :=
  ⟨h.lo.len, h.lo.at_, h.lo.low, h.lo.up, fun u hu => h.lo.q u (List.mem_cons_of_mem _ hu), h.lo.pred, fun u hu hR => by
    by_cases e : u = y
    · subst e
      refine .inr fun i hi hp => ?_
      obtain ⟨j, hj⟩ := List.mem_iff_getElem?.1 hi
      exact h.seen j i (List.getElem?_eq_some_iff.1 hj).1 hj hp
    · rcases h.lo.rest u hu hR with h1 | h1
      · rcases List.mem_cons.1 h1 with h2 | h2
        · exact absurd h2 e
        · exact .inl h2
      · exact .inr h1⟩
theorem LO.lay (hN : Net N ac outs) (h : LO N ac outs L src lev []) : Lay N ac src L lev :=
  ⟨h.len, h.at_, h.low, fun v hv => by have := h.up v hv; omega, h.pred, fun i hi hp hR => by
    have hlt := (hN.fr_lt hi).1
    rcases h.rest _ hlt hR with h1 | h1
    · cases h1
    · exact h1 i (hN.mem_out _ hi) hp⟩
end
end Go.Proofs.YticekkjambkifaaDoor.Fl
