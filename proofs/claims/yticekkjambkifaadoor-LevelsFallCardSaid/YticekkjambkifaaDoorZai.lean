/- Printed from PeeF, CorC, LdsP. -/
import Derived.Test.YticekkjambkifaaDoorZrt
import Derived.Test.YticekkjambkifaaDoorZac
import Derived.Test.YticekkjambkifaaDoorZad
import Derived.Test.YticekkjambkifaaDoorZaa
import Derived.Test.YticekkjambkifaaDoorZab
/- Plain: densities as fractions in lowest terms, and their order. -/
set_option linter.unusedVariables false
namespace Go.Proofs.YticekkjambkifaaDoor
open Go.RowKit CoRat Rt

theorem mk_red (I s : Nat) (hs : 0 < s) (hI : I ≤ 1152921504606846976) (hs2 : s ≤ 1152921504606846976) :
    mkN (I : Int) (s : Int) = ((I / Nat.gcd I s : Nat) : Int) ∧ mkD (I : Int) (s : Int) = ((s / Nat.gcd I s : Nat) : Int) ∧ mkE (I : Int) (s : Int) = 0 := by
  have h := red_small (u := I) (v := s) hs (by unfold M; omega) (by unfold M; omega)
  unfold mkN mkD mkE
  rw [if_neg (by omega), if_neg (by omega), if_neg (by omega), decide_eq_false (show ¬ ((I : Int) < 0) by omega), decide_eq_false (show ¬ ((s : Int) < 0) by omega)]
  exact h
theorem mk_ok (I s : Nat) (hs : 0 < s) (hI : I ≤ 1152921504606846976) (hs2 : s ≤ 1152921504606846976) : okF (mkN (I : Int) (s : Int)) (mkD (I : Int) (s : Int)) = true := by
  obtain ⟨h1, h2, _⟩ := mk_red I s hs hI hs2
  rw [h1, h2]
  have hg : 0 < Nat.gcd I s := Nat.gcd_pos_of_pos_right _ hs
  have h3 : Nat.gcd (I / Nat.gcd I s) (s / Nat.gcd I s) = 1 := by
    rw [Nat.gcd_div (Nat.gcd_dvd_left _ _) (Nat.gcd_dvd_right _ _), Nat.div_self hg]
  have h4 := Nat.div_le_self I (Nat.gcd I s)
  have h5 := Nat.div_le_self s (Nat.gcd I s)
  have h6 : 0 < s / Nat.gcd I s := Nat.div_pos (Nat.le_of_dvd hs (Nat.gcd_dvd_right _ _)) hg
  unfold okF
  rw [Int.natAbs_natCast, Int.natAbs_natCast]
  generalize I / Nat.gcd I s = A at *
  generalize s / Nat.gcd I s = C at *
  exact decide_eq_true ⟨by omega, by omega, by omega, by omega, h3⟩
theorem cmp_mk (I s J t : Nat) (hs : 0 < s) (ht : 0 < t) (hI : I ≤ 1152921504606846976) (hs2 : s ≤ 1152921504606846976) (hJ : J ≤ 1152921504606846976) (ht2 : t ≤ 1152921504606846976) :
    cmpF (mkN (I : Int) (s : Int)) (mkD (I : Int) (s : Int)) (mkN (J : Int) (t : Int)) (mkD (J : Int) (t : Int)) = ((I : Int) * t - (J : Int) * s).sign := by
  unfold cmpF
  rw [mk_ok I s hs hI hs2, mk_ok J t ht hJ ht2, Bool.and_self, if_pos rfl]
  obtain ⟨h1, h2, _⟩ := mk_red I s hs hI hs2
  obtain ⟨h3, h4, _⟩ := mk_red J t ht hJ ht2
  rw [h1, h2, h3, h4]
  have g1 : 0 < Nat.gcd I s := Nat.gcd_pos_of_pos_right _ hs
  have g2 : 0 < Nat.gcd J t := Nat.gcd_pos_of_pos_right _ ht
  obtain ⟨a, ha⟩ := Nat.gcd_dvd_left I s
  obtain ⟨b, hb⟩ := Nat.gcd_dvd_right I s
  obtain ⟨c, hc⟩ := Nat.gcd_dvd_left J t
  obtain ⟨d, hd⟩ := Nat.gcd_dvd_right J t
  have e1 : I / Nat.gcd I s = a := Nat.div_eq_of_eq_mul_right g1 ha
  have e2 : s / Nat.gcd I s = b := Nat.div_eq_of_eq_mul_right g1 hb
  have e3 : J / Nat.gcd J t = c := Nat.div_eq_of_eq_mul_right g2 hc
  have e4 : t / Nat.gcd J t = d := Nat.div_eq_of_eq_mul_right g2 hd
  rw [e1, e2, e3, e4]
  generalize Nat.gcd I s = g at *
  generalize Nat.gcd J t = h at *
  subst ha; subst hb; subst hc; subst hd
  have e5 : (((g * a : Nat) : Int) * ((h * d : Nat) : Int) - ((h * c : Nat) : Int) * ((g * b : Nat) : Int)) = ((g * h : Nat) : Int) * ((a : Int) * d - (c : Int) * b) := by
    simp only [Int.natCast_mul]
    grind
  have e6 : (((g * h : Nat) : Int)).sign = 1 := Int.sign_eq_one_of_pos (by exact_mod_cast Nat.mul_pos g1 g2)
  rw [e5, Int.sign_mul, e6, Int.one_mul]
/-- Another fraction of the same value is the same in lowest terms. -/
theorem mk_cross (I s J t : Nat) (hs : 0 < s) (ht : 0 < t) (h : I * t = J * s) : mkN (I : Int) (s : Int) = mkN (J : Int) (t : Int) ∧ mkD (I : Int) (s : Int) = mkD (J : Int) (t : Int) ∧ mkE (I : Int) (s : Int) = mkE (J : Int) (t : Int) := by
  have hr := red_eq (u := I) (v := s) (u' := J) (v' := t) hs ht h false
  unfold mkN mkD mkE
  rw [if_neg (by omega), if_neg (by omega), if_neg (by omega), if_neg (by omega), if_neg (by omega), if_neg (by omega), decide_eq_false (show ¬ ((I : Int) < 0) by omega), decide_eq_false (show ¬ ((s : Int) < 0) by omega), decide_eq_false (show ¬ ((J : Int) < 0) by omega), decide_eq_false (show ¬ ((t : Int) < 0) by omega)]
  exact hr
/-- The value of the fraction. -/
theorem mk_val (I s : Nat) (hs : 0 < s) (hI : I ≤ 1152921504606846976) (hs2 : s ≤ 1152921504606846976) : ∃ a b : Nat, mkN (I : Int) (s : Int) = (a : Int) ∧ mkD (I : Int) (s : Int) = (b : Int) ∧ 0 < b ∧ a ≤ I ∧ b ≤ s ∧ a * s = I * b := by
  obtain ⟨h1, h2, _⟩ := mk_red I s hs hI hs2
  have g1 : 0 < Nat.gcd I s := Nat.gcd_pos_of_pos_right _ hs
  obtain ⟨a, ha⟩ := Nat.gcd_dvd_left I s
  obtain ⟨b, hb⟩ := Nat.gcd_dvd_right I s
  have e1 : I / Nat.gcd I s = a := Nat.div_eq_of_eq_mul_right g1 ha
  have e2 : s / Nat.gcd I s = b := Nat.div_eq_of_eq_mul_right g1 hb
  refine ⟨a, b, by rw [h1, e1], by rw [h2, e2], ?_, by rw [← e1]; exact Nat.div_le_self _ _, by rw [← e2]; exact Nat.div_le_self _ _, ?_⟩
  · rcases Nat.eq_zero_or_pos b with h | h
    · rw [h, Nat.mul_zero] at hb; omega
    · exact h
  · generalize Nat.gcd I s = g at *
    rw [ha, hb]; grind
end Go.Proofs.YticekkjambkifaaDoor

/- Plain maths: peeling by buckets. -/
set_option linter.unusedVariables false
namespace Go.Proofs.YticekkjambkifaaDoor
open CoBit

theorem getD_set {α : Type} {l : List α} {i : Nat} (hi : i < l.length) (x d : α) (j : Nat) : (l.set i x).getD j d = if j = i then x else l.getD j d := by
  rw [List.getD_eq_getElem?_getD, List.getD_eq_getElem?_getD]
  by_cases h : j = i
  · subst h
    rw [if_pos rfl, List.getElem?_set_self hi]; rfl
  · rw [if_neg h, List.getElem?_set_ne (by omega)]
theorem getD_replicate {α : Type} (n : Nat) (x : α) (j : Nat) : (List.replicate n x).getD j x = x := by
  rw [List.getD_eq_getElem?_getD, List.getElem?_replicate]; split <;> rfl
/-- The buckets hold the nodes P by their degrees. -/
structure Bk (n : Nat) (bu : List Nat) (de : List Int) (P : Nat → Prop) : Prop where
  bl : bu.length = 64
  dl : de.length = n
  lt : ∀ x ∈ bu, x < 18446744073709551616
  rng : ∀ i, i < n → 0 ≤ de.getD i 0 ∧ de.getD i 0 < 64
  inn : ∀ i, P i → i < n
  at_ : ∀ d, d < 64 → ∀ i, (bu.getD d 0).testBit i = true ↔ (P i ∧ de.getD i 0 = (d : Int))
theorem Bk.congr {n : Nat} {bu : List Nat} {de : List Int} {P Q : Nat → Prop} (h : Bk n bu de P) (hq : ∀ i, P i ↔ Q i) : Bk n bu de Q := by
  have : P = Q := funext fun i => propext (hq i)
  rwa [this] at h
theorem bk_start (n : Nat) : Bk n (List.replicate 64 0) (List.replicate n 0) (fun _ => False) := by
  refine ⟨by simp, by simp, ?_, ?_, fun i h => h.elim, ?_⟩
  · intro x hx; rw [List.mem_replicate] at hx; omega
  · intro i _; rw [getD_replicate]; omega
  · intro d _ i; rw [getD_replicate]; simp
theorem Bk.put {n : Nat} {bu : List Nat} {de : List Int} {P : Nat → Prop} (h : Bk n bu de P) {v d : Nat} (hv : v < n) (hn : n ≤ 64) (hp : ¬ P v) (hd : d < 64) :
    Bk n (bu.set d (bu.getD d 0 ||| 2 ^ v)) (de.set v (d : Int)) (fun i => P i ∨ i = v) := by
  refine ⟨by simp [h.bl], by simp [h.dl], ?_, ?_, ?_, ?_⟩
  · intro x hx
    rcases List.mem_or_eq_of_mem_set hx with hx | rfl
    · exact h.lt x hx
    · exact or_lt (getD_lt h.lt d) (two_pow_lt (by omega))
  · intro i hi
    rw [getD_set (by rw [h.dl]; exact hv)]
    by_cases e : i = v
    · rw [if_pos e]; omega
    · rw [if_neg e]; exact h.rng i hi
  · rintro i (hi | rfl)
    · exact h.inn i hi
    · exact hv
  · intro e he i
    rw [getD_set (by rw [h.bl]; exact hd), getD_set (by rw [h.dl]; exact hv)]
    by_cases e1 : e = d
    · subst e1
      rw [if_pos rfl, or_bit, Bool.or_eq_true, h.at_ e hd, decide_eq_true_eq]
      by_cases e2 : i = v
      · subst e2; simp
      · rw [if_neg e2]; simp [e2]
    · rw [if_neg e1, h.at_ e he]
      by_cases e2 : i = v
      · subst e2
        rw [if_pos rfl]
        constructor
        · intro hh; exact absurd hh.1 hp
        · intro hh; have := hh.2; omega
      · rw [if_neg e2]; simp [e2]
theorem Bk.take {n : Nat} {bu : List Nat} {de : List Int} {P : Nat → Prop} (h : Bk n bu de P) {v d : Nat} (hv : v < n) (hn : n ≤ 64) (hd : d < 64) (hdv : de.getD v 0 = (d : Int)) :
    Bk n (bu.set d (clr (bu.getD d 0) v)) de (fun i => P i ∧ i ≠ v) := by
  refine ⟨by simp [h.bl], h.dl, ?_, h.rng, fun i hi => h.inn i hi.1, ?_⟩
  · intro x hx
    rcases List.mem_or_eq_of_mem_set hx with hx | rfl
    · exact h.lt x hx
    · exact clr_lt (getD_lt h.lt d)
  · intro e he i
    rw [getD_set (by rw [h.bl]; exact hd)]
    by_cases e1 : e = d
    · subst e1
      rw [if_pos rfl, clr_bit (getD_lt h.lt e) (by omega), Bool.and_eq_true, h.at_ e hd, decide_eq_true_eq]
      constructor
      · rintro ⟨⟨h1, h2⟩, h3⟩; exact ⟨⟨h1, h3⟩, h2⟩
      · rintro ⟨⟨h1, h3⟩, h2⟩; exact ⟨⟨h1, h2⟩, h3⟩
    · rw [if_neg e1, h.at_ e he]
      constructor
      · rintro ⟨h1, h2⟩
        refine ⟨⟨h1, ?_⟩, h2⟩
        rintro rfl
        omega
      · rintro ⟨⟨h1, _⟩, h2⟩; exact ⟨h1, h2⟩
/-- One neighbour loses a degree. -/
theorem Bk.down {n : Nat} {bu : List Nat} {de : List Int} {P : Nat → Prop} (h : Bk n bu de P) {v d : Nat} (hp : P v) (hn : n ≤ 64) (hd : d + 1 < 64) (hdv : de.getD v 0 = ((d + 1 : Nat) : Int)) :
    Bk n ((bu.set (d + 1) (clr (bu.getD (d + 1) 0) v)).set d ((bu.set (d + 1) (clr (bu.getD (d + 1) 0) v)).getD d 0 ||| 2 ^ v)) (de.set v (d : Int)) P := by
  have hv := h.inn v hp
  have h1 := h.take hv hn hd hdv
  refine (h1.put hv hn (by simp) (show d < 64 by omega)).congr fun i => ?_
  by_cases e : i = v
  · subst e; simp [hp]
  · simp [e]

/-- What is known of the order and of the numbers. -/
structure Pm (nb : Int → List Int) (n : Nat) (nu o : List Int) (worst : Nat) : Prop where
  ps : PS nb n o
  nl : nu.length = n
  i1 : ∀ x ∈ rst n o, inC nb n worst x
  i2 : ∀ x, inC nb n ((worst : Int) + 1) x → x ∈ rst n o
  nm : ∀ v, v < n → (v : Int) ∈ o → 0 ≤ nu.getD v 0 ∧ inC nb n (nu.getD v 0) v ∧ ¬ inC nb n (nu.getD v 0 + 1) v
theorem pm_start (nb : Int → List Int) (n : Nat) : Pm nb n (List.replicate n 0) [] 0 := by
  refine ⟨ps_nil _ _, by simp, ?_, ?_, fun v _ h => by cases h⟩
  · intro x hx
    rw [rst_nil] at hx
    have := mem_rng.1 hx
    exact ⟨[x], by simp, fun u hu => by simp at hu; subst hu; omega⟩
  · intro x hx
    rw [rst_nil]
    exact mem_rng.2 (inC_range hx)
theorem mem_rst_push {n : Nat} {o : List Int} {v x : Int} : x ∈ rst n (o ++ [v]) ↔ x ∈ rst n o ∧ x ≠ v := by
  rw [mem_rst, mem_rst]
  simp
  constructor
  · rintro ⟨h1, h2, h3⟩; exact ⟨⟨h1, h2⟩, h3⟩
  · rintro ⟨⟨h1, h2⟩, h3⟩; exact ⟨h1, h2, h3⟩
theorem pm_take {nb : Int → List Int} {n : Nat} {nu o : List Int} {worst v d : Nat} (h : Pm nb n nu o worst) (hb : isBest nb (rst n o) v) (hd : dg nb (rst n o) v = d) :
    Pm nb n (nu.set v ((max worst d : Nat) : Int)) (o ++ [(v : Int)]) (max worst d) := by
  have hv := (mem_rst.1 hb.1).1
  have hall : ∀ x ∈ rst n o, d ≤ dg nb (rst n o) x := by
    intro x hx
    have := hb.2 x hx
    unfold bef at this
    omega
  have k1 : ∀ x ∈ rst n o, inC nb n ((max worst d : Nat) : Int) x := by
    intro x hx
    by_cases hw : d ≤ worst
    · rw [show max worst d = worst by omega]; exact h.i1 x hx
    · rw [show max worst d = d by omega]
      exact ⟨rst n o, hx, fun u hu => ⟨(mem_rst.1 hu).1.1, (mem_rst.1 hu).1.2, by have := hall u hu; omega⟩⟩
  have k2 : ∀ x, inC nb n (((max worst d : Nat) : Int) + 1) x → x ∈ rst n o := fun x hx => h.i2 x (inC_mono hx (by omega))
  have k3 : ¬ inC nb n (((max worst d : Nat) : Int) + 1) v := by
    intro hin
    have := inC_dg hin k2
    omega
  refine ⟨ps_push h.ps hb, by simp [h.nl], ?_, ?_, ?_⟩
  · intro x hx
    exact k1 x (mem_rst_push.1 hx).1
  · intro x hx
    refine mem_rst_push.2 ⟨k2 x hx, ?_⟩
    rintro rfl
    exact k3 hx
  · intro u hu hm
    rw [getD_set (by rw [h.nl]; omega)]
    by_cases e : u = v
    · subst e
      rw [if_pos rfl]
      exact ⟨by omega, k1 _ hb.1, k3⟩
    · rw [if_neg e]
      rw [List.mem_append] at hm
      rcases hm with hm | hm
      · exact h.nm u hu hm
      · simp at hm; omega
theorem pm_done {nb : Int → List Int} {n : Nat} {nu o : List Int} {worst : Nat} (h : Pm nb n nu o worst) (he : rst n o = []) : IsNums nb n nu ∧ PS nb n o ∧ o.length = n := by
  have hr := ps_range h.ps
  refine ⟨⟨h.nl, fun v hv => h.nm v hv ?_⟩, h.ps, rst_empty he hr.1 hr.2⟩
  by_cases hm : (v : Int) ∈ o
  · exact hm
  · have : (v : Int) ∈ rst n o := mem_rst.2 ⟨by omega, hm⟩
    rw [he] at this
    cases this

/-- The least of the first bucket that is not empty is taken. -/
theorem bk_best {nb : Int → List Int} {n : Nat} {bu : List Nat} {de o : List Int} (h : Bk n bu de (fun i => (i : Int) ∈ rst n o)) (hdg : ∀ i : Nat, (i : Int) ∈ rst n o → de.getD i 0 = (dg nb (rst n o) i : Int)) {d : Nat} (hd : d < 64) (hbelow : ∀ e, e < d → bu.getD e 0 = 0) (h0 : 0 < bu.getD d 0) :
    isBest nb (rst n o) (Lib.ctz 64 (bu.getD d 0) : Nat) ∧ dg nb (rst n o) (Lib.ctz 64 (bu.getD d 0) : Nat) = d ∧ de.getD (Lib.ctz 64 (bu.getD d 0)) 0 = d := by
  obtain ⟨l1, l2, l3, _⟩ := low_bits h0 (getD_lt h.lt d)
  generalize Lib.ctz 64 (bu.getD d 0) = v at *
  obtain ⟨hv, hdv⟩ := (h.at_ d hd v).1 l3
  have e1 := hdg v hv
  have e2 : dg nb (rst n o) v = d := by omega
  refine ⟨⟨hv, ?_⟩, e2, hdv⟩
  intro w hw
  have hw0 := (mem_rst.1 hw).1
  obtain ⟨w, rfl⟩ := Int.eq_ofNat_of_zero_le hw0.1
  have e3 := hdg w hw
  have hr := h.rng w (by omega)
  have hbit := (h.at_ (dg nb (rst n o) w) (by omega) w).2 ⟨hw, e3⟩
  unfold bef
  rw [e2]
  by_cases hlt : dg nb (rst n o) w < d
  · rw [hbelow _ hlt] at hbit
    simp at hbit
  · by_cases heq : d = dg nb (rst n o) w
    · right
      refine ⟨heq, ?_⟩
      by_cases hvw : v ≤ w
      · omega
      · have := l2 w (by omega)
        rw [← heq] at hbit
        rw [hbit] at this
        cases this
    · left; omega
/-- Some bucket is not empty while a node is left. -/
theorem bk_some {n : Nat} {bu : List Nat} {de o : List Int} (h : Bk n bu de (fun i => (i : Int) ∈ rst n o)) (hbelow : ∀ e, e < 64 → bu.getD e 0 = 0) : rst n o = [] := by
  by_cases he : rst n o = []
  · exact he
  · obtain ⟨x, hx⟩ := List.exists_mem_of_ne_nil _ he
    have hx0 := (mem_rst.1 hx).1
    obtain ⟨i, rfl⟩ := Int.eq_ofNat_of_zero_le hx0.1
    have hr := h.rng i (by omega)
    obtain ⟨d, hd⟩ := Int.eq_ofNat_of_zero_le hr.1
    have := (h.at_ d (by omega) i).2 ⟨hx, hd⟩
    rw [hbelow d (by omega)] at this
    simp at this

theorem filter_split {l L : List Int} {v : Int} (hl : l.Nodup) (hv : v ∈ L) : (l.filter fun x => decide (x ∈ L)).length = (l.filter fun x => decide (x ∈ L ∧ x ≠ v)).length + (if v ∈ l then 1 else 0) := by
  induction l with
  | nil => simp
  | cons a l ih =>
    obtain ⟨ha, hl⟩ := List.nodup_cons.1 hl
    have ih := ih hl
    by_cases e : a = v
    · subst e
      rw [if_neg ha] at ih
      rw [List.filter_cons, if_pos (by simpa using hv), List.filter_cons, if_neg (by simp), if_pos (by simp), List.length_cons, ih]
    · have hm : v ∈ a :: l ↔ v ∈ l := by simp [Ne.symm e]
      rw [List.filter_cons, List.filter_cons]
      simp only [hm]
      by_cases h : a ∈ L
      · rw [if_pos (by simpa using h), if_pos (by simp [h, e]), List.length_cons, List.length_cons, ih]; omega
      · rw [if_neg (by simpa using h), if_neg (by simp [h]), ih]
theorem dg_push {nb : Int → List Int} {n : Nat} {o : List Int} {v i : Int} (hn : (nb i).Nodup) (hv : v ∈ rst n o) : dg nb (rst n o) i = dg nb (rst n (o ++ [v])) i + (if v ∈ nb i then 1 else 0) := by
  unfold dg
  rw [filter_split hn hv]
  congr 2
  refine List.filter_congr fun x _ => ?_
  rw [decide_eq_decide, mem_rst_push]
/-- The degrees, while the neighbours us of the node taken lose one each. -/
def DI (nb : Int → List Int) (L : List Int) (us : List Nat) (j : Nat) (de : List Int) : Prop := ∀ i : Nat, (i : Int) ∈ L → de.getD i 0 = (dg nb L i : Int) + (if i ∈ us.drop j then 1 else 0)
theorem nbG_symm {n : Nat} {es : List (Int × Int)} {u v : Int} : u ∈ nbG n es v ↔ v ∈ nbG n es u := by
  unfold nbG
  by_cases hc : chkG n es = 0
  · rw [if_pos hc, if_pos hc, mem_of, mem_of, mem_nbl, mem_nbl]; exact Or.comm
  · rw [if_neg hc, if_neg hc]; simp
theorem di_start {n : Nat} {es : List (Int × Int)} {o de : List Int} {us : List Nat} {v : Nat} (hv : (v : Int) ∈ rst n o) (hdg : ∀ i : Nat, (i : Int) ∈ rst n o → de.getD i 0 = (dg (nbG n es) (rst n o) i : Int))
    (hus : ∀ i : Nat, i ∈ us ↔ ((i : Int) ∈ nbG n es v ∧ (i : Int) ∈ rst n (o ++ [(v : Int)]))) : DI (nbG n es) (rst n (o ++ [(v : Int)])) us 0 de := by
  intro i hi
  have hi' := mem_rst_push.1 hi
  rw [hdg i hi'.1, dg_push (v := (v : Int)) ((nbG_sorted n es i).imp fun h => by omega) hv, List.drop_zero]
  have : i ∈ us ↔ (v : Int) ∈ nbG n es i := by
    rw [hus i, nbG_symm]
    exact ⟨fun h => h.1, fun h => ⟨h, hi⟩⟩
  by_cases h : i ∈ us
  · rw [if_pos h, if_pos (this.1 h)]; omega
  · rw [if_neg h, if_neg (fun e => h (this.2 e))]; omega
theorem di_step {nb : Int → List Int} {L : List Int} {us : List Nat} {j u d : Nat} {de : List Int} (h : DI nb L us j de) (hu : us[j]? = some u) (hnd : us.Nodup) (hul : u < de.length) (hd : de.getD u 0 = ((d + 1 : Nat) : Int)) : DI nb L us (j + 1) (de.set u (d : Int)) := by
  intro i hi
  have h1 := h i hi
  have hj : j < us.length := (List.getElem?_eq_some_iff.1 hu).1
  have hdr : us.drop j = u :: us.drop (j + 1) := by
    rw [List.drop_eq_getElem_cons hj, (List.getElem?_eq_some_iff.1 hu).2]
  have hnot : u ∉ us.drop (j + 1) := by
    have h2 : (us.drop j).Nodup := hnd.sublist (List.drop_sublist _ _)
    rw [hdr, List.nodup_cons] at h2
    exact h2.1
  rw [hdr] at h1
  rw [getD_set hul]
  by_cases e : i = u
  · subst e
    rw [if_pos (by simp)] at h1
    rw [if_pos rfl, if_neg hnot]
    omega
  · have : i ∈ u :: us.drop (j + 1) ↔ i ∈ us.drop (j + 1) := by simp [e]
    simp only [this] at h1
    rw [if_neg e, h1]
theorem di_pos {nb : Int → List Int} {L : List Int} {us : List Nat} {j u : Nat} {de : List Int} (h : DI nb L us j de) (hu : us[j]? = some u) (hm : (u : Int) ∈ L) : 1 ≤ de.getD u 0 := by
  have h1 := h u hm
  have hj : j < us.length := (List.getElem?_eq_some_iff.1 hu).1
  have hdr : us.drop j = u :: us.drop (j + 1) := by
    rw [List.drop_eq_getElem_cons hj, (List.getElem?_eq_some_iff.1 hu).2]
  rw [hdr, if_pos (by simp)] at h1
  omega
theorem di_done {nb : Int → List Int} {L : List Int} {us : List Nat} {j : Nat} {de : List Int} (h : DI nb L us j de) (hj : us.length ≤ j) : ∀ i : Nat, (i : Int) ∈ L → de.getD i 0 = (dg nb L i : Int) := by
  intro i hi
  have := h i hi
  rw [List.drop_eq_nil_of_le hj] at this
  simpa using this
theorem us_mem {n : Nat} {es : List (Int × Int)} {o : List Int} {v left : Nat} (hc : chkG n es = 0) (hn : n ≤ 64) (hl : ∀ i : Nat, left.testBit i = true ↔ (i : Int) ∈ rst n o) (i : Nat) : i ∈ bl ((rowsL n es).getD v 0 &&& left) ↔ ((i : Int) ∈ nbG n es v ∧ (i : Int) ∈ rst n o) := by
  rw [bl_and, List.mem_filter, hl i, ← row_nb hc hn v, mem_nts']
theorem left_push {n v left : Nat} {o : List Int} (hl64 : left < 18446744073709551616) (hv : v < 64) (hl : ∀ i : Nat, left.testBit i = true ↔ (i : Int) ∈ rst n o) (i : Nat) : (clr left v).testBit i = true ↔ (i : Int) ∈ rst n (o ++ [(v : Int)]) := by
  rw [clr_bit hl64 hv, Bool.and_eq_true, hl i, decide_eq_true_eq, mem_rst_push]
  have : i ≠ v ↔ (i : Int) ≠ (v : Int) := by omega
  rw [this]
theorem left_zero {n left : Nat} {o : List Int} (hl : ∀ i : Nat, left.testBit i = true ↔ (i : Int) ∈ rst n o) (h0 : left = 0) : rst n o = [] := by
  by_cases he : rst n o = []
  · exact he
  · obtain ⟨x, hx⟩ := List.exists_mem_of_ne_nil _ he
    obtain ⟨i, rfl⟩ := Int.eq_ofNat_of_zero_le (mem_rst.1 hx).1.1
    have := (hl i).2 hx
    rw [h0] at this
    simp at this
theorem left_pos {n left : Nat} {o : List Int} (hl : ∀ i : Nat, left.testBit i = true ↔ (i : Int) ∈ rst n o) (h0 : 0 < left) : rst n o ≠ [] := by
  intro he
  have : left = 0 := by
    refine Nat.eq_of_testBit_eq fun i => ?_
    have := hl i
    rw [he] at this
    simp at this
    simpa using this
  omega
/-- A row has at most 63 nodes. -/
theorem row_deg {n : Nat} {es : List (Int × Int)} (hc : chkG n es = 0) (hn : n ≤ 64) (v : Nat) (hv : v < n) : pop ((rowsL n es).getD v 0) < 64 ∧ pop ((rowsL n es).getD v 0) = dg (nbG n es) (rng n) v := by
  have he := chkE_lt (chkG_zero hc).2.2
  have hnv : (v : Int) ∉ nbG n es v := by
    intro h
    unfold nbG at h
    rw [if_pos hc, mem_of, mem_nbl] at h
    have := he ((v : Int), (v : Int)) (by simpa using h)
    simp at this
  have h1 := nodup_length (n := n) (o := (v : Int) :: nbG n es v) (List.nodup_cons.2 ⟨hnv, (nbG_sorted n es v).imp fun h => by omega⟩) (fun x hx => by
    rcases List.mem_cons.1 hx with rfl | hx
    · omega
    · exact nbG_range hc hx)
  have h2 : pop ((rowsL n es).getD v 0) = (nbG n es v).length := by
    rw [pop_bl, ← row_nb hc hn v, nts_length]
  refine ⟨by rw [h2]; simp at h1; omega, ?_⟩
  rw [h2]
  unfold dg
  rw [List.filter_eq_self.2]
  intro x hx
  exact decide_eq_true (mem_rng.2 (nbG_range hc hx))
end Go.Proofs.YticekkjambkifaaDoor

namespace Go.Proofs.YticekkjambkifaaDoor
open Go.RowKit

end Go.Proofs.YticekkjambkifaaDoor

/- Plain: the loads of a split. -/
set_option linter.unusedVariables false
set_option linter.unusedSimpArgs false
namespace Go.Proofs.YticekkjambkifaaDoor
open Go.RowKit
/-- What the first k edges add to a node's load. -/
def ldV (den : Int) (es : List (Int × Int)) (ps : List Int) : Nat → Int → Int
  | 0, _ => 0
  | k + 1, v => ldV den es ps k v + (if (es.getD k (0, 0)).1 = v then ps.getD k 0 else 0) + (if (es.getD k (0, 0)).2 = v then den - ps.getD k 0 else 0)
/-- The loads behind k edges. -/
def LdO (n : Nat) (den : Int) (es : List (Int × Int)) (ps : List Int) (k : Nat) (xs : List Int) : Prop := xs.length = n ∧ ∀ v : Nat, v < n → xs.getD v 0 = ldV den es ps k (v : Int) ∧ 0 ≤ xs.getD v 0 ∧ xs.getD v 0 ≤ (k : Int) * 2097152
theorem ldO_start (n : Nat) (den : Int) (es : List (Int × Int)) (ps : List Int) : LdO n den es ps 0 (List.replicate n 0) := by
  refine ⟨by simp, fun v hv => ?_⟩
  have : (List.replicate n (0 : Int)).getD v 0 = 0 := by rw [List.getD_eq_getElem?_getD, List.getElem?_replicate, if_pos hv]; rfl
  rw [this]
  exact ⟨rfl, by omega, by omega⟩
theorem ldO_step {n : Nat} {den : Int} {es : List (Int × Int)} {ps : List Int} {k : Nat} {xs : List Int} (h : LdO n den es ps k xs) {u v : Nat} {p : Int} (he : es[k]? = some ((u : Int), (v : Int))) (hp : ps[k]? = some p) (huv : u < v) (hv : v < n) (hp0 : 0 ≤ p) (hpd : p ≤ den) (hd : den ≤ 1048576) :
    LdO n den es ps (k + 1) ((xs.set u (xs.getD u 0 + p)).set v (xs.getD v 0 + (den - p))) := by
  refine ⟨by simp [h.1], fun x hx => ?_⟩
  have e1 : es.getD k (0, 0) = ((u : Int), (v : Int)) := by rw [List.getD_eq_getElem?_getD, he]; rfl
  have e2 : ps.getD k 0 = p := by rw [List.getD_eq_getElem?_getD, hp]; rfl
  obtain ⟨h1, h2, h3⟩ := h.2 x hx
  have hb : ldV den es ps (k + 1) (x : Int) = ldV den es ps k (x : Int) + (if (u : Int) = (x : Int) then p else 0) + (if (v : Int) = (x : Int) then den - p else 0) := by
    show ldV den es ps k (x : Int) + (if (es.getD k (0, 0)).1 = (x : Int) then ps.getD k 0 else 0) + (if (es.getD k (0, 0)).2 = (x : Int) then den - ps.getD k 0 else 0) = _
    rw [e1, e2]
  rw [hb, getD_set (by rw [List.length_set, h.1]; omega), getD_set (by rw [h.1]; omega), ← h1]
  by_cases hxv : x = v
  · subst hxv
    rw [if_pos rfl, if_neg (by omega), if_pos rfl]
    exact ⟨by omega, by omega, by push_cast; omega⟩
  · rw [if_neg hxv]
    by_cases hxu : x = u
    · subst hxu
      rw [if_pos rfl, if_pos rfl, if_neg (by omega)]
      exact ⟨by omega, by omega, by push_cast; omega⟩
    · rw [if_neg hxu, if_neg (by omega), if_neg (by omega)]
      exact ⟨by omega, by omega, by push_cast; omega⟩
/-- All loads. -/
def ldL (n : Nat) (den : Int) (es : List (Int × Int)) (ps : List Int) : List Int := (List.range n).map fun v : Nat => ldV den es ps es.length (v : Int)
theorem ldO_end {n : Nat} {den : Int} {es : List (Int × Int)} {ps : List Int} {xs : List Int} (h : LdO n den es ps es.length xs) : xs = ldL n den es ps := by
  refine List.ext_getElem? fun v => ?_
  unfold ldL
  by_cases hv : v < n
  · have h1 := (h.2 v hv).1
    rw [List.getD_eq_getElem?_getD, List.getElem?_eq_getElem (by rw [h.1]; exact hv)] at h1
    rw [List.getElem?_map, List.getElem?_range hv, List.getElem?_eq_getElem (by rw [h.1]; exact hv)]
    simp only [Option.getD_some] at h1
    rw [h1]; rfl
  · rw [List.getElem?_eq_none (by rw [h.1]; omega), List.getElem?_eq_none (by simp; omega)]
theorem ldV_bd {n : Nat} {den : Int} {es : List (Int × Int)} {ps : List Int} (hd : 0 ≤ den) (hp : ∀ p ∈ ps, 0 ≤ p ∧ p ≤ den) (k : Nat) (v : Int) : 0 ≤ ldV den es ps k v ∧ ldV den es ps k v ≤ (k : Int) * (2 * den) := by
  induction k with
  | zero => exact ⟨Int.le_refl _, by simp [ldV]⟩
  | succ k ih =>
    have hq : 0 ≤ ps.getD k 0 ∧ ps.getD k 0 ≤ den := by
      rw [List.getD_eq_getElem?_getD]
      cases h : ps[k]? with
      | none => exact ⟨Int.le_refl _, hd⟩
      | some p => exact hp p (List.mem_of_getElem? h)
    show 0 ≤ ldV den es ps k v + (if (es.getD k (0, 0)).1 = v then ps.getD k 0 else 0) + (if (es.getD k (0, 0)).2 = v then den - ps.getD k 0 else 0) ∧ _
    have e : ldV den es ps (k + 1) v = ldV den es ps k v + (if (es.getD k (0, 0)).1 = v then ps.getD k 0 else 0) + (if (es.getD k (0, 0)).2 = v then den - ps.getD k 0 else 0) := rfl
    rw [e]
    have hm : ((k + 1 : Nat) : Int) * (2 * den) = (k : Int) * (2 * den) + 2 * den := by push_cast; rw [Int.add_mul]; omega
    rw [hm]
    generalize (k : Int) * (2 * den) = K at *
    generalize ldV den es ps k v = L at *
    generalize ps.getD k 0 = P at *
    split <;> split <;> omega
theorem ldL_bd {n : Nat} {den : Int} {es : List (Int × Int)} {ps : List Int} (hd : 0 ≤ den) (hp : ∀ p ∈ ps, 0 ≤ p ∧ p ≤ den) : ∀ x ∈ ldL n den es ps, 0 ≤ x ∧ x ≤ (es.length : Int) * (2 * den) := by
  intro x hx
  unfold ldL at hx
  obtain ⟨v, -, rfl⟩ := List.mem_map.1 hx
  exact ldV_bd (n := n) hd hp _ _
end Go.Proofs.YticekkjambkifaaDoor
