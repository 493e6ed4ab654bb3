/- motifs.Spectrum. -/
import Derived.Test.YtkcmbpokoijglaaMocD
import Derived.Deep.OwnRows
set_option linter.unusedVariables false
set_option linter.unusedSimpArgs false
namespace Go.Proofs.Ytkcmbpokoijglaa
open Go.RowKit CoMot

def RetSp (w : World) (L : List Nat) (e : Int) (r : Ending) (w' : World) : Prop := ∃ A n c, r = .returned (.tuple #[.slice A n c, .int .i64 e]) ∧ n ≤ c ∧ RS NE w' A n L ∧ Below w.heap.size w w'
theorem wrap_same {a : Nat} (h : a ≤ 281474976710656) : wrap64 (a : Int) = (a : Int) := by unfold wrap64; omega
theorem vals_set {L : List Nat} {k n : Nat} {v : Nat} (hk : k < n) (hn : n = L.length) (hv : L[k]? = some v) : ((((L.take k) ++ List.replicate (n - k) 0).map fun x : Nat => Value.int .i64 (x : Int)).toArray.setIfInBounds k (.int .i64 (v : Int))) = (((L.take (k + 1)) ++ List.replicate (n - (k + 1)) 0).map fun x : Nat => Value.int .i64 (x : Int)).toArray := by
  have hl : (L.take k).length = k := by rw [List.length_take]; omega
  have e1 : List.replicate (n - k) (0 : Nat) = 0 :: List.replicate (n - (k + 1)) 0 := by rw [← List.replicate_succ]; congr 1; omega
  rw [e1, List.take_add_one, hv]
  simp only [List.map_append, List.map_cons, List.setIfInBounds_toArray, Option.toList_some, List.append_assoc, List.cons_append, List.nil_append, List.map_nil]
  rw [List.set_append_right _ _ (by rw [List.length_map, hl]; exact Nat.le_refl _), List.length_map, hl, Nat.sub_self]
  rfl
set_option maxRecDepth 100000 in
set_option maxHeartbeats 8000000 in
theorem spectrum_any (A : Option Addr) (n c : Nat) (l : List Tick) (s v : Int) (w : World) (h : RS TE w A n l) (hn : n ≤ 1099511627776) (hnc : n ≤ c) :
    Calls Try.prog 20 #[.slice A n c, .int .i64 s, .int .i64 v] w (RetSp w (specL l s v) (specE l s v)) := by
  have kc := mcheck_any A n c l w h hn
  have km := Lib.hid fun w => motifs_any s w
  have ks := fun w => mspan_any v w
  by_cases e1 : chkL l = 0
  rotate_left
  · have hR : Hid (specE l s v = chkL l) := Lib.hid (by unfold specE; rw [if_pos e1])
    have hL : Hid (specL l s v = []) := Lib.hid (by unfold specL; rw [if_neg (by rw [hR.out]; exact e1)])
    have q : (chkL l != 0) = true := by simpa using e1
    rw [hR.out, hL.out]
    replace e1 := Lib.hid e1
    replace kc := Lib.hid kc
    go_enter Try.func20, Try.ntmps20
    go_wp2_with fail
    (with_reducible refine (kc.out).mono ?_); rintro e w1 ⟨rfl, hb1⟩
    go_wp2_with fail
    go_ret2
    exact ⟨none, 0, 0, rfl, Nat.le_refl _, RS.none_, hb1⟩
  have kc0 := kc
  rw [e1] at kc
  replace kc := Lib.hid kc
  clear kc0
  by_cases e2 : motE s = 0
  rotate_left
  · have hR : Hid (specE l s v = motE s) := Lib.hid (by unfold specE; rw [if_neg (by rw [e1]; simp), if_pos e2])
    have hL : Hid (specL l s v = []) := Lib.hid (by unfold specL; rw [if_neg (by rw [hR.out]; exact e2)])
    have q : (motE s != 0) = true := by simpa using e2
    rw [hR.out, hL.out]
    replace e1 := Lib.hid e1
    replace e2 := Lib.hid e2
    go_enter Try.func20, Try.ntmps20
    go_wp2_with fail
    (with_reducible refine (kc.out).mono ?_); rintro e w1 ⟨rfl, hb1⟩
    go_wp2_with fail
    (with_reducible refine (km.out _).mono ?_); rintro e w2 ⟨A7, c7, rfl, hc7, hr7, hb2⟩
    have hb := hb1.trans (hb2.mono hb1.size)
    go_wp2_with fail
    go_ret2
    exact ⟨none, 0, 0, rfl, Nat.le_refl _, RS.none_, hb⟩
  by_cases e3 : spn v = 0
  rotate_left
  · have hR : Hid (specE l s v = spn v) := Lib.hid (by unfold specE; rw [if_neg (by rw [e1]; simp), if_neg (by rw [e2]; simp)])
    have hL : Hid (specL l s v = []) := Lib.hid (by unfold specL; rw [if_neg (by rw [hR.out]; exact e3)])
    have q : (spn v != 0) = true := by simpa using e3
    rw [hR.out, hL.out]
    replace e1 := Lib.hid e1
    replace e2 := Lib.hid e2
    replace e3 := Lib.hid e3
    replace ks := Lib.hid ks
    go_enter Try.func20, Try.ntmps20
    go_wp2_with fail
    (with_reducible refine (kc.out).mono ?_); rintro e w1 ⟨rfl, hb1⟩
    go_wp2_with fail
    (with_reducible refine (km.out _).mono ?_); rintro e w2 ⟨A7, c7, rfl, hc7, hr7, hb2⟩
    rw [e2.out]
    have hb := hb1.trans (hb2.mono hb1.size)
    go_wp2_with fail
    (with_reducible refine (ks.out _).mono ?_); rintro e w3 ⟨rfl, hQ⟩; obtain rfl := hQ.symm; clear hQ
    go_wp2_with fail
    go_ret2
    exact ⟨none, 0, 0, rfl, Nat.le_refl _, RS.none_, hb⟩
  obtain ⟨t1, t2, t3, _⟩ := chkL_zero e1
  have hl := h.len
  have hn4 : n ≤ 4096 := by omega
  have hv : 0 ≤ v ∧ v ≤ 1048576 := by
    unfold spn at e3
    split at e3
    · cases e3
    · rename_i h; omega
  have hs14 : 1 ≤ s ∧ s ≤ 4 := by
    unfold motE at e2
    split at e2
    · assumption
    · cases e2
  have hR : Hid (specE l s v = 0) := Lib.hid (by unfold specE; rw [if_neg (by rw [e1]; simp), if_neg (by rw [e2]; simp)]; exact e3)
  have hL : Hid (specL l s v = (motR s).map fun M => (inst l v M).length) := Lib.hid (by unfold specL; rw [if_pos hR.out])
  rw [e3] at ks
  replace ks := Lib.hid ks
  rw [hR.out, hL.out]
  obtain ⟨K, rfl⟩ : ∃ K : Nat, s = (K : Int) := ⟨s.toNat, by omega⟩
  have hK4 : K ≤ 4 := by omega
  have hcnt : Hid (∀ M ∈ motR (K : Int), wrap64 ((cntM (sub l v (fun _ => true) K [] [] []) (k8 M) : Nat) : Int) = ((inst l v M).length : Int)) := Lib.hid fun M hM => by
    obtain ⟨h1, _, _, _⟩ := motR_mem hM
    rw [cnt_inst hv.1 (fun y hy => (t2 y hy).1) (show M.length = K by omega)]
    exact wrap_same (inst_small (by omega) (by omega))
  have hokk : Hid (∀ M ∈ motR (K : Int), OKK (k8 M) ∧ M.length ≤ 4) := Lib.hid fun M hM => by
    obtain ⟨h1, h2, _, _⟩ := motR_mem hM
    exact ⟨ok_k8 h2 (by omega), by omega⟩
  have hms := motR_small (K : Int)
  have ke : Hid (∀ w1, Below w.heap.size w w1 → Calls Try.prog 41 #[.slice A n c, .int .i64 (K : Int), .int .i64 v, .func (.func 47) #[] #[], .func (.func 48) #[] #[.pointer (some ⟨w1.heap.size + 1, 0, none⟩)]]
      ((w1.alloc (.map #[] 0)).alloc (.cells #[.map (some w1.heap.size)] 78)) fun r W' => (∃ x, r = .returned x) ∧ Same (fun k => k = w1.heap.size) ((w1.alloc (.map #[] 0)).alloc (.cells #[.map (some w1.heap.size)] 78)) W' ∧ Hid (MF W' w1.heap.size (fun X => wrap64 ((cntM (sub l v (fun _ => true) K [] [] []) X : Nat) : Int)))) := Lib.hid fun w1 hb => by
    have hsz := hb.size
    have z1 : (w1.alloc (.map #[] 0)).heap.size = w1.heap.size + 1 := by simp
    have B1 : Blk ((w1.alloc (.map #[] 0)).alloc (.cells #[.map (some w1.heap.size)] 78)) (w1.heap.size + 1) 78 #[.map (some w1.heap.size)] := Blk.new' _ _ _ z1.symm
    have hM0 : MF ((w1.alloc (.map #[] 0)).alloc (.cells #[.map (some w1.heap.size)] 78)) w1.heap.size (fun _ => 0) := (MF.made w1).keep ((Same.refl (fun _ => False) _).alloc _) (fun h => h)
    have hbA := (hb.alloc hsz (.map #[] 0)).alloc (by omega) (.cells #[.map (some w1.heap.size)] 78)
    have hz0 : wrap64 ((0 : Nat) : Int) = 0 := by unfold wrap64; rfl
    have hgl : w1.heap.size < ((w1.alloc (.map #[] 0)).alloc (.cells #[.map (some w1.heap.size)] 78)).heap.size := by simp; omega
    have kk := each_any _ _ _ _ (tk_spec (W := (w1.alloc (.map #[] 0)).alloc (.cells #[.map (some w1.heap.size)] 78)) (g := w1.heap.size) (gb := w1.heap.size + 1) (K := K) (wd := v) (h.below hbA (Nat.le_refl _)) hnc hn4 hK4 hgl (h.farg hsz) (by omega) B1 t2 (fun i j hij hj => t3 i j hij (by omega)) hv) rfl (fun k hk => by simp only at hk ⊢; omega) ⟨fun k => Iff.rfl, hM0.ext (fun X => hz0.symm)⟩
    refine Calls.mono kk ?_
    rintro r W' ⟨ow', hr, hS, hJ⟩
    rcases hJ with hJ | ⟨q, t, _, hx⟩
    · exact ⟨hr, hS, Lib.hid hJ.2⟩
    · exact hx.elim
  have hmk := fun w (k : Nat) (hk : k ≤ 262144) => run_make_row' (P := Try.prog) 22 3 (.int .i64 0) 8 Try.underlying22 (by kernel_rfl) rfl .i64 .i64 k (by omega) (by omega) w
  have hmk1 := fun w => hmk w (motR (K : Int)).length hms
  have hone : (motR (K : Int)).length = ((motR (K : Int)).map fun M => (inst l v M).length).length := (List.length_map _).symm
  generalize hSP : ((motR (K : Int)).map fun M => (inst l v M).length) = SP at *
  generalize hMM : motR (K : Int) = MM at *
  have hSPk : Hid (∀ k M, MM[k]? = some M → SP[k]? = some (inst l v M).length) := Lib.hid fun k M hk => by rw [← hSP, List.getElem?_map, hk]; rfl
  generalize cntM (sub l v (fun _ => true) K [] [] []) = CN at *
  replace hSP := Lib.hid hSP
  replace hMM := Lib.hid hMM
  generalize hNN : MM.length = NN at *
  replace hone := Lib.hid hone
  replace hNN := Lib.hid hNN
  clear t1 t2 t3 hl e1 e3 hL hmk hs14
  have hmm := @run_makeMap Try.prog
  replace e2 := Lib.hid e2
  go_enter Try.func20, Try.ntmps20
  go_wp2_with fail
  (with_reducible refine (kc.out).mono ?_); rintro e w1 ⟨rfl, hb1⟩
  go_wp2_with fail
  (with_reducible refine (km.out _).mono ?_); rintro e w2 ⟨A7, c7, rfl, hc7, hr7, hb2⟩
  rw [e2.out]
  rw [hMM.out, hNN.out] at hc7 hr7 ⊢
  have hb := hb1.trans (hb2.mono hb1.size)
  clear hb1 hb2 kc km
  go_wp2_with fail
  (with_reducible refine (ks.out _).mono ?_); rintro e w3 ⟨rfl, hQ⟩; obtain rfl := hQ.symm; clear hQ
  have ke1 := Lib.hid (ke.out w2 hb)
  have hsz := hb.size
  clear ke ks
  go_wp2_with fail
  (with_reducible refine (ke1.out).mono ?_); rintro e w3 ⟨⟨x, rfl⟩, hS3, hF3⟩
  clear ke1 hmm
  have hbA := (hb.alloc hsz (.map #[] 0)).alloc (by simp; omega) (.cells #[.map (some w2.heap.size)] 78)
  have hB3 : Blk w3 (w2.heap.size + 1) 78 #[.map (some w2.heap.size)] := hS3.blk (Blk.new' _ _ _ (by simp)) (by omega)
  have hb3 : Below w.heap.size w w3 := hbA.trans (hS3.below (by simp; omega) (fun k hk e => by omega))
  have hb23 : Below w2.heap.size w2 w3 := (((Below.refl w2.heap.size w2).alloc (Nat.le_refl _) (.map #[] 0)).alloc (by simp) (.cells #[.map (some w2.heap.size)] 78)).trans (hS3.below (by simp; omega) (fun k hk e => by omega))
  have hr3 := hr7.below hb23 (Nat.le_refl _)
  clear hS3 hbA hr7 hb hb23
  generalize hgg : w2.heap.size = g at *
  replace hgg := Lib.hid hgg
  go_wp2_with fail
  have hml := hF3.out.lt
  have hgl3 := hB3.lt
  have S36 : Same (fun j => j = w3.heap.size) w3 (w3.alloc (.cells (madeCells #[.int .i64 0] NN) 3)) := (Same.refl _ _).alloc _
  have B6 : Blk (w3.alloc (.cells (madeCells #[.int .i64 0] NN) 3)) w3.heap.size 3 (((SP.take 0) ++ List.replicate (NN - 0) 0).map fun x : Nat => Value.int .i64 (x : Int)).toArray := by
    have h1 := Blk.new w3 3 (madeCells #[.int .i64 0] NN)
    have h2 : madeCells #[.int .i64 0] NN = (((SP.take 0) ++ List.replicate (NN - 0) 0).map fun x : Nat => Value.int .i64 (x : Int)).toArray := by
      apply Array.toList_inj.1
      rw [toList_madeCells_one]
      simp
    rw [← h2]; exact h1
  generalize hW6 : w3.alloc (.cells (madeCells #[.int .i64 0] NN) 3) = W6 at *
  replace hW6 := Lib.hid hW6
  generalize hgo : w3.heap.size = go at *
  replace hgo := Lib.hid hgo
  generalize hgbd : g + 1 = gb at *
  replace hgbd := Lib.hid hgbd
  go_loopw [45] (fun i wr => ∃ k : Nat, k ≤ NN ∧ i = .int .i64 (k : Int) ∧ Blk wr go 3 (((SP.take k) ++ List.replicate (NN - k) 0).map fun x : Nat => Value.int .i64 (x : Int)).toArray ∧ Same (fun j => j = go) W6 wr) (fun i _ => NN - (intOf i).toNat)
  case atStart => exact ⟨0, Nat.zero_le _, rfl, B6, Same.refl _ _⟩
  case round =>
    obtain ⟨k, hk, rfl, hBo, hSr⟩ := hrel
    have hS := S36.trans hSr (fun _ _ h => h)
    by_cases hlt : k < NN
    · obtain ⟨ad, A1, n1, c1, M, rfl, hcl, hyM, hc1, hrM, hbl⟩ := hr3.get hlt
      obtain ⟨hX, hM4⟩ := hokk.out M (List.mem_of_getElem? hyM.out)
      have hcv := hcnt.out M (List.mem_of_getElem? hyM.out)
      have hspv := hSPk.out k M hyM.out
      have hrM' : RS SE wr A1 n1 M := hrM.same hS (fun ad he hp => by
        obtain ⟨ad', he', hb', _⟩ := hrM.2 hp
        rw [he] at he'; injection he' with he'; subst he'
        have := hgo.out; omega)
      have hcl' := hS.cell (p := ad.add k) (by rw [block_of_add]; exact hbl) (by rw [block_of_add]; have := hgo.out; omega) hcl
      have hn14 : n1 ≤ 4 := by rw [← hrM.len]; exact hM4
      have hFr : MF wr g (fun X => wrap64 ((CN X : Nat) : Int)) := hF3.out.keep hS (by have := hgo.out; omega)
      have hBr := hS.blk hB3 (by have := hgo.out; omega)
      have hBl := hBr.lt
      have c1r := Blk.cell hBr 0
      simp at c1r
      have i2 : (0 : Int) ≤ (k : Int) := Int.natCast_nonneg _
      have i3 : (k : Int) < (NN : Int) := Int.ofNat_lt.2 hlt
      have hset : Hid (((((SP.take k) ++ List.replicate (NN - k) 0).map fun x : Nat => Value.int .i64 (x : Int)).toArray.setIfInBounds k (.int .i64 ((inst l v M).length : Int))) = (((SP.take (k + 1)) ++ List.replicate (NN - (k + 1)) 0).map fun x : Nat => Value.int .i64 (x : Int)).toArray) := Lib.hid (vals_set hlt hone.out hspv)
      have hgg1 : gb ≠ go := by omega
      obtain ⟨z, hz⟩ : ∃ z, (((SP.take k) ++ List.replicate (NN - k) 0).map fun x : Nat => Value.int .i64 (x : Int)).toArray[k]? = some z := ⟨_, Array.getElem?_eq_getElem (by simp [hone.out.symm]; omega)⟩
      have hvl : Hid (kv (k8 M) = kv (k8 M)) := Lib.hid rfl
      have kp := Lib.hid fun w h => padded_any A1 n1 c1 M w h hn14
      generalize (inst l v M).length = IL at *
      generalize ((SP.take k ++ List.replicate (NN - k) 0).map fun x : Nat => Value.int .i64 (x : Int)).toArray = VS at *
      replace hcv := Lib.hid hcv
      have hlk : ∀ w', MF w' g (fun X => wrap64 ((CN X : Nat) : Int)) → (Instr.lookup 78 (.map (some g)) (kv (k8 M)) false).run Try.prog w' = .ok (.int .i64 (IL : Int)) w' := fun w' hF => (hF.look hX).trans (by show Result.ok (Value.int .i64 (wrap64 ((CN (k8 M) : Nat) : Int))) w' = _; rw [hcv.out])
      replace hlk := Lib.hid hlk
      replace hspv := Lib.hid hspv
      clear hyM hcl hrM hSPk hcnt hokk
      go_upto_region 16 with fail
      have f6 := Blk.frozen hBo k
      have f7 : wr.cell? ⟨go, k, none⟩ = some z := (Blk.cell hBo k).trans hz
      refine wp_region_noPanic ?_
      obtain ⟨TT, hTT⟩ : ∃ TT : Nat → World → Prop, ∀ j w', TT j w' ↔ (j = 9 ∨ w'.cell? ⟨gb, 0, none⟩ = some (.map (some g))) := ⟨fun j w' => _, fun _ _ => Iff.rfl⟩
      replace hTT := Lib.hid hTT
      refine wp_region_T (T := TT) (by kernel_rfl) ?_
      have c2 : wr.drew.cell? ⟨gb, 0, none⟩ = some (.map (some g)) := c1r
      refine wpAnyT_take (i := 2) (S := fun w' => w'.cell? ⟨gb, 0, none⟩ = some (.map (some g))) (v := .map (some g)) rfl (by kernel_rfl) (by kernel_rfl) (by kernel_rfl) (fun _ _ _ h => h) (fun w' h => (hTT.out _ _).2 (.inr h)) (fun j oj hoj hji hun hno w' hT => ?_) (Or.inl ⟨by rfl, ?_⟩) c2 ?_
      case refine_1 =>
        rcases (hTT.out _ _).1 hT with h9 | h9
        · subst h9
          obtain rfl := Option.some.inj hoj
          exact ((hno ⟨2, .phase⟩ (by simp) rfl) rfl).elim
        · exact h9
      case refine_2 =>
        intro w' hS
        go_simp
      (try simp only [Act.put, List.setIfInBounds_toArray, List.set_cons_zero, List.set_cons_succ])
      refine wpAnyT_take (i := 0) (S := fun w' => w'.cell? ⟨gb, 0, none⟩ = some (.map (some g))) (v := .slice (some ⟨go, 0, none⟩) NN NN) rfl (by kernel_rfl) (by kernel_rfl) (by kernel_rfl) (fun _ _ _ h => h) (fun w' h => (hTT.out _ _).2 (.inr h)) (fun j oj hoj hji hun hno w' hT => ?_) (Or.inl ⟨by rfl, ?_⟩) c2 ?_
      case refine_1 =>
        rcases (hTT.out _ _).1 hT with h9 | h9
        · subst h9
          obtain rfl := Option.some.inj hoj
          exact ((hno ⟨0, .phase⟩ (by simp) rfl) rfl).elim
        · exact h9
      case refine_2 =>
        intro w' hS
        clear hS
        go_simp
      (try simp only [Act.put, List.setIfInBounds_toArray, List.set_cons_zero, List.set_cons_succ])
      refine wpAnyT_take (i := 1) (S := fun w' => w'.cell? ⟨gb, 0, none⟩ = some (.map (some g))) (v := .int .i64 (k : Int)) rfl (by kernel_rfl) (by kernel_rfl) (by kernel_rfl) (fun _ _ _ h => h) (fun w' h => (hTT.out _ _).2 (.inr h)) (fun j oj hoj hji hun hno w' hT => ?_) (Or.inl ⟨by rfl, ?_⟩) c2 ?_
      case refine_1 =>
        rcases (hTT.out _ _).1 hT with h9 | h9
        · subst h9
          obtain rfl := Option.some.inj hoj
          exact ((hno ⟨1, .phase⟩ (by simp) rfl) rfl).elim
        · exact h9
      case refine_2 =>
        intro w' hS
        clear hS
        go_simp
      (try simp only [Act.put, List.setIfInBounds_toArray, List.set_cons_zero, List.set_cons_succ])
      refine wpAnyT_take (i := 3) (S := fun w' => w'.cell? ⟨gb, 0, none⟩ = some (.map (some g))) (v := .slice A1 n1 c1) rfl (by kernel_rfl) (by kernel_rfl) (by kernel_rfl) (fun _ _ _ h => h) (fun w' h => (hTT.out _ _).2 (.inr h)) (fun j oj hoj hji hun hno w' hT => ?_) (Or.inl ⟨by rfl, ?_⟩) c2 ?_
      case refine_1 =>
        rcases (hTT.out _ _).1 hT with h9 | h9
        · subst h9
          obtain rfl := Option.some.inj hoj
          exact ((hno ⟨3, .phase⟩ (by simp) rfl) rfl).elim
        · exact h9
      case refine_2 =>
        intro w' hS
        clear hS
        go_simp
      (try simp only [Act.put, List.setIfInBounds_toArray, List.set_cons_zero, List.set_cons_succ])
      refine wpAnyT_ready (rs := [4]) (by kernel_rfl) (by simp) ?_
      intro j hj; rw [List.mem_singleton] at hj; subst hj
      refine wpOpT_step (by rfl) (fun K9 hK => ?_)
      go_simp
      (with_reducible refine (kp.out _ hrM'.drew).mono ?_)
      rintro e w4 ⟨gk, c', rfl, hc', hr', hb', hk1, hk2⟩
      have hSn : Same (fun _ => False) wr w4 := (Same.refl (fun _ => False) wr).drew.trans (Same.of_below hb' (Nat.le_refl _) _) (fun _ _ h => h)
      have d1 : w4.cell? ⟨gb, 0, none⟩ = some (.map (some g)) := hSn.cell (p := ⟨gb, 0, none⟩) hBl (fun h => h) c1r
      have hF4 := hFr.keep hSn (fun h => h)
      have hBo4 := hSn.blk hBo (fun h => h)
      obtain ⟨a0, a1, a2, a3, a4, a5, a6, a7, hk8, q0, q1, q2, q3, q4, q5, q6, q7⟩ := key_cells hM4 hr'
      have hlk4 := hlk.out w4 hF4
      rw [hk8] at hlk4
      replace hlk4 : (Instr.lookup 78 (.map (some g)) (.agg #[.int .i64 a0, .int .i64 a1, .int .i64 a2, .int .i64 a3, .int .i64 a4, .int .i64 a5, .int .i64 a6, .int .i64 a7]) false).run Try.prog w4 = .ok (.int .i64 (IL : Int)) w4 := hlk4
      replace hk8 := Lib.hid hk8
      refine hK.out _ _ ((hTT.out _ _).2 (.inr d1)) ?_
      clear hK K9
      (try simp only [Act.put, List.setIfInBounds_toArray, List.set_cons_zero, List.set_cons_succ])
      refine wpAnyT_ready (rs := [5]) (by kernel_rfl) (by simp) ?_
      intro j hj; rw [List.mem_singleton] at hj; subst hj
      refine wpOpT_step (by rfl) (fun K9 hK => ?_)
      go_simp
      refine hK.out _ _ ((hTT.out _ _).2 (.inr d1)) ?_
      clear hK K9
      (try simp only [Act.put, List.setIfInBounds_toArray, List.set_cons_zero, List.set_cons_succ])
      refine wpAnyT_ready (rs := [6]) (by kernel_rfl) (by simp) ?_
      intro j hj; rw [List.mem_singleton] at hj; subst hj
      refine wpOpT_step (by rfl) (fun K9 hK => ?_)
      go_simp
      refine hK.out _ _ ((hTT.out _ _).2 (.inr d1)) ?_
      clear hK K9
      (try simp only [Act.put, List.setIfInBounds_toArray, List.set_cons_zero, List.set_cons_succ])
      refine wpAnyT_ready (rs := [7]) (by kernel_rfl) (by simp) ?_
      intro j hj; rw [List.mem_singleton] at hj; subst hj
      refine wpOpT_step (by rfl) (fun K9 hK => ?_)
      go_simp
      refine hK.out _ _ ((hTT.out _ _).2 (.inr d1)) ?_
      clear hK K9
      (try simp only [Act.put, List.setIfInBounds_toArray, List.set_cons_zero, List.set_cons_succ])
      refine wpAnyT_ready (rs := [8]) (by kernel_rfl) (by simp) ?_
      intro j hj; rw [List.mem_singleton] at hj; subst hj
      refine wpOpT_step (by rfl) (fun K9 hK => ?_)
      go_simp
      refine hK.out _ _ ((hTT.out _ _).2 (.inr d1)) ?_
      clear hK K9
      (try simp only [Act.put, List.setIfInBounds_toArray, List.set_cons_zero, List.set_cons_succ])
      have f6' := Blk.frozen hBo4 k
      have f7' : w4.cell? ⟨go, k, none⟩ = some z := (Blk.cell hBo4 k).trans hz
      refine wpAnyT_ready (rs := [9]) (by kernel_rfl) (by simp) ?_
      intro j hj; rw [List.mem_singleton] at hj; subst hj
      refine wpOpT_step (by rfl) (fun K9 hK => ?_)
      go_simp
      refine hK.out _ _ ((hTT.out _ _).2 (.inl rfl)) ?_
      clear hK K9
      (try simp only [Act.put, List.setIfInBounds_toArray, List.set_cons_zero, List.set_cons_succ])
      refine wpAnyT_done (by kernel_rfl) ?_ _
      refine NoPanic.normal ?_
      clear hTT TT kp f6' f7' d1 c2 q0 q1 q2 q3 q4 q5 q6 q7 hlk4
      have hSr' := (hSr.trans hSn (fun _ _ h => h.elim)).trans (Same.set w4 go k (.int .i64 (IL : Int))) (fun _ _ h => h)
      have hBn := Blk.set hBo4 k (.int .i64 (IL : Int))
      rw [hset.out] at hBn
      go_wp2_with fail
      go_roundw
      case rel => exact ⟨k + 1, by omega, by go_num, hBn, hSr'⟩
      case measure => simp [intOf]; omega
    · obtain rfl : k = NN := by omega
      rw [List.take_of_length_le (by rw [← hone.out]; exact Nat.le_refl _), Nat.sub_self, List.replicate_zero, List.append_nil] at hBo
      have hfin : RS NE wr (some ⟨go, 0, none⟩) k SP := RS.blk hBo (by
        congr 1
        have : ∀ L : List Nat, L.map (fun x : Nat => Value.int .i64 (x : Int)) = NE.all L := fun L => by
          induction L with
          | nil => rfl
          | cons y L ih => rw [List.map_cons, ih]; rfl
        exact this SP) hone.out
      have hb7 : Below w.heap.size w wr := hb3.trans (hS.below (by have := hgo.out; omega) (fun j hj e => by have := hgo.out; omega))
      go_wp2_with fail
      go_ret2
      exact ⟨some ⟨go, 0, none⟩, k, k, rfl, Nat.le_refl _, hfin, hb7⟩
end Go.Proofs.Ytkcmbpokoijglaa
