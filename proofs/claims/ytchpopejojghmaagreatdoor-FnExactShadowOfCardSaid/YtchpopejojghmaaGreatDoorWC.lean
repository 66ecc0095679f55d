/- The first refused shape, and whether one fits: the program; both answer alike. -/
import Derived.Test.YtchpopejojghmaaGreatDoorWA
set_option linter.unusedVariables false
set_option linter.unusedSimpArgs false
set_option linter.unusedSectionVars false
namespace Go.Proofs.YtchpopejojghmaaGreatDoor.M
open Go Go.Proofs
set_option maxRecDepth 100000
theorem needsT_okU {A : List Param} (h : VN A) (n : Nat) : okU (needsT A n) := by
 refine ⟨by have := needsT_len h n; omega, fun s hs => ?_⟩
 obtain ⟨j, q, hq, _, _, rfl⟩ := mem_needL.1 (mem_sortT.1 hs)
 have := name_l (h.nm q (List.mem_of_getElem? hq))
 omega
theorem sortT_ins {l : List Str} (h : Asc l) (x : Str) : sortT (l ++ [x]) = insT x l := by rw [sortT_snoc, sortT_asc h]
theorem okShape_ins {n : Nat} {l : List Str} {x : Str} (h : okShape n l) (hx : isName x = true) (hn : x ∉ l) : okShape n (insT x l) ↔ l.length < 8 := by
 obtain ⟨h1, h2, h3, h4⟩ := h
 constructor
 ·rintro ⟨_, k, _⟩; rw [insT_new hn] at k; omega
 ·intro k
  refine ⟨h1, by rw [insT_new hn]; omega, asc_insT h3, fun z hz => ?_⟩
  rcases mem_insT.1 hz with rfl | hz
  ·exact hx
  ·exact h4 z hz
theorem hit_iff {A B : List Param} (ha : validParams A = true) (hb : validParams B = true) {n : Nat} (hn : n ≤ 8) {x : Str} (hx : isName x = true) (hA : takesCountB A n = true) (hB : accS B n (needsT A n)) (hc : (needsT A n).contains x = false) :
  (accSh ⟨A⟩ ⟨n, insT x (needsT A n)⟩ = true ∧ ¬ accSh ⟨B⟩ ⟨n, insT x (needsT A n)⟩ = true) ↔ ((needsT A n).length < 8 ∧ refP A B n x = true) := by
 have va := validParams_VN ha
 have vb := validParams_VN hb
 have hs := needsT_ok va hn
 have hni : x ∉ needsT A n := fun h => by rw [List.contains_iff_mem.2 h] at hc; cases hc
 have ho := okShape_ins hs hx hni
 have hA' := (accS_needs va.toVP).2 hA
 rw [accSh_iff ha, accSh_iff hb]
 simp only [Int.toNat_natCast, ho, accS_more va.toVP hA', accS_more vb.toVP hB]
 unfold refP
 rw [hc]
 simp only [Bool.not_false, Bool.and_true, Bool.and_eq_true, Bool.not_eq_true', not_and]
 constructor
 ·rintro ⟨⟨⟨h0, h1⟩, h2⟩, h3⟩
  exact ⟨h1, h2, Bool.eq_false_iff.2 (h3 ⟨h0, h1⟩)⟩
 ·rintro ⟨h1, h2, h3⟩
  exact ⟨⟨⟨by omega, h1⟩, h2⟩, fun _ => by rw [h3]; simp⟩
def findHit (A B : List Param) (n : Nat) (l : List Str) : Option (List Str) := if (needsT A n).length < 8 then (l.find? (refP A B n)).map fun x => insT x (needsT A n) else none
noncomputable def impl_firstRefused.b1 (a1 : List Param) (a2 : List Param) (x268 : Int) (v367 : List Str) (v369 : List Str) (v370 : Int) (h0 : (Int) → Option (Shape × Bool)) (h1 : (Int) → Option (Shape × Bool)) (z_ : Shape × Bool) (x380 : Int) : Option (Shape × Bool) := (if x380 < v370 then (ixS v369 x380 fun v393 => (gd (okU v367 ∧ okU (([v393] : List Str))) (on_LS ((fun (a b : List Str) => sortT (a ++ b)) v367 ([v393])) fun v395 => (cn ((fun (l : List Str) (s : Str) => l.contains s) v367 v393) (arr .i64 (x380 + 1) fun v396 => (h1 v396)) (cn (accSh (⟨a1⟩) (⟨x268, v395⟩)) (cn (accSh (⟨a2⟩) (⟨x268, v395⟩)) (arr .i64 (x380 + 1) fun v397 => (h1 v397)) (some (⟨x268, v395⟩, true))) (arr .i64 (x380 + 1) fun v398 => (h1 v398))))))) else (arr .i64 (x268 + 1) fun v399 => (h0 v399)))
noncomputable def impl_firstRefused.b0 (a1 : List Param) (a2 : List Param)  (h0 : (Int) → Option (Shape × Bool)) (h1 : Int → (List Str) → (List Str) → Int → (Int) → Option (Shape × Bool)) (z_ : Shape × Bool) (x268 : Int) : Option (Shape × Bool) := (if x268 ≤ 8 then (gd (VN a1) (on_LS_B ((fun (s : Sig) (n : Int) => needsI s.params n) (⟨a1⟩) x268) fun v367 v368 => (cn v368 (cn (accSh (⟨a2⟩) (⟨x268, v367⟩)) (gd (VN a1 ∧ VN a2) (on_LS ((fun (a b : Sig) => sortT (parNames a.params b.params ++ gens)) (⟨a1⟩) (⟨a2⟩)) fun v369 => (ln' z_ (v369.length) fun v370 => (h1 x268 v367 v369 v370 0)))) (some (⟨x268, v367⟩, true))) (arr .i64 (x268 + 1) fun v400 => (h0 v400))))) else (some (⟨0, []⟩, false)))
noncomputable def impl_firstRefused.f (a1 : List Param) (a2 : List Param) (h0 : (Int) → Option (Shape × Bool)) (z_ : Shape × Bool) : Option (Shape × Bool) := (h0 0)
theorem pin_impl_firstRefused {e : ESt} {ns : List (Nat × Nat)} {ps : List (Nat × C)} {os : List (Nat × EObj)} (hs : pinPZ (pinZ e.o (os.map Prod.fst) ns) e.s ps := by first | (cbv <;> (repeat' (first | trivial | refine And.intro ?_ ?_)) <;> (first | rfl | assumption | omega | exact clS hV _ | exact clParam hV _ | with_unfolding_all exact hV.nS [] | with_unfolding_all exact (hV.nS []).symm | with_unfolding_all exact hV.nParam [] | with_unfolding_all exact (hV.nParam []).symm | with_unfolding_all exact hV.rS _ | with_unfolding_all exact hV.rParam _ | with_unfolding_all exact (hV.nS _).trans (Eq.trans (by simp only [hV.nS] at *; omega) (hV.nS _).symm) | with_unfolding_all exact (hV.nParam _).trans (Eq.trans (by simp only [hV.nParam] at *; omega) (hV.nParam _).symm) | simp [closedCell])) | fail) (ho : ∀ B : (Nat → EObj) → List (List C) → List (List C) → Prop, (∀ o rows rows', rowsZ (pinZ o (os.map Prod.fst) ns) rows rows' → B o rows rows') → pinOZ (pinZ e.o (os.map Prod.fst) ns) B e.o ns os := by intro B hB; first | (cbv <;> (repeat' (first | trivial | refine And.intro ?_ ?_ | refine pin_same hB ?_ | refine pin_nil hB ?_ | refine pin_dirty hB (by assumption) (by assumption) ?_ ?_ | exact pinL_n | refine pinL_c ?_ ?_ | exact pzr rfl rfl rfl (nrS hV _) (clS hV _) | exact pzr rfl rfl rfl (nrParam hV _) (clParam hV _) | (refine pz_go ?_; cbv) | (refine pinL_go ?_; cbv))) <;> (first | exact clS hV _ | exact clParam hV _ | with_unfolding_all exact hV.rS _ | with_unfolding_all exact hV.rParam _ | with_unfolding_all exact hV.nS [] | with_unfolding_all exact (hV.nS []).symm | with_unfolding_all exact hV.nParam [] | with_unfolding_all exact (hV.nParam []).symm | assumption | omega | rfl | with_unfolding_all exact (hV.nS _).trans (Eq.trans (by simp only [hV.nS] at *; omega) (hV.nS _).symm) | with_unfolding_all exact (hV.nParam _).trans (Eq.trans (by simp only [hV.nParam] at *; omega) (hV.nParam _).symm) | simp [closedCell])) | fail) : PinnedZ e ns ps os := ⟨hs, ho⟩
section
variable {G : Glob} (hm : Hm) (hz : Hz) (hG : GF G)
include hm hz hG
set_option maxHeartbeats 8000000 in
theorem impl_firstRefused.w {a1 : List Param} {a2 : List Param} (inv0 : (Int) → Prop) (mu0 : (Int) → Nat) (res0 : (Int) → Shape × Bool) (inv1 : Nat → Int → (List Str) → (List Str) → Int → (Int) → Prop) (mu1 : Nat → Int → (List Str) → (List Str) → Int → (Int) → Nat) (res1 : Nat → Int → (List Str) → (List Str) → Int → (Int) → Shape × Bool) (hb0 : ∀ (s_ : Int), inv0  s_ → impl_firstRefused.b0 a1 a2  (LI (inv0 ) (mu0 ) (res0 ) (mu0  s_)) (fun x268 v367 v369 v370 => EI (inv1 (mu0  s_) x268 v367 v369 v370) (mu1 (mu0  s_) x268 v367 v369 v370) (res1 (mu0  s_) x268 v367 v369 v370)) (res0  s_) s_ = some (res0  s_)) (hb1 : ∀ (m0_ : Nat), ∀ (x268 : Int), ∀ (v367 : List Str), ∀ (v369 : List Str), ∀ (v370 : Int), ∀ (s_ : Int), inv1 m0_ x268 v367 v369 v370 s_ → impl_firstRefused.b1 a1 a2 x268 v367 v369 v370 (LI (inv0 ) (mu0 ) (res0 ) m0_) (LI (inv1 m0_ x268 v367 v369 v370) (mu1 m0_ x268 v367 v369 v370) (res1 m0_ x268 v367 v369 v370) (mu1 m0_ x268 v367 v369 v370 s_)) (res1 m0_ x268 v367 v369 v370 s_) s_ = some (res1 m0_ x268 v367 v369 v370 s_)) {r : Shape × Bool} (H : impl_firstRefused.f a1 a2 (EI (inv0 ) (mu0 ) (res0 )) r = some r) : FnOK pg G 58 [.agg [.sl (a1.map eParam)], .agg [.sl (a2.map eParam)]] [] (.tup [.agg [.int .i64 (r.1.count), .sl ((r.1.names).map eS)], .bool (r.2)]) [] true := by
 obtain ⟨V, hV⟩ := exV
 have e0_S : V.rS [] = [] := hV.rS []
 have e1_S : ∀ x r, V.rS (x :: r) = eS x :: V.rS r := fun x r => by rw [hV.rS, hV.rS]; rfl
 have e0_Param : V.rParam [] = [] := hV.rParam []
 have e1_Param : ∀ x r, V.rParam (x :: r) = eParam x :: V.rParam r := fun x r => by rw [hV.rParam, hV.rParam]; rfl
 simp only [← hV.rS, ← hV.rParam]
 refine fn_okS (tt0 := tyG [ty3, ty4, ty9, ty27, ty29, ty65, ty68, ty70]) (fn := Tryz.f58) (body := bodyOf Tryz.f58) (ext := []) hm (tyG_sub ⟨tt3, tt4, tt9, tt27, tt29, tt65, tt68, tt70, trivial⟩) hz 0 [] (by unfold pg; exact Tryz.func58) rfl rfl (by simp [Tryz.f58]) (by simp [EObj.toObj]) (by cbv) ?_
 intro A F hA hF
 unfold impl_firstRefused.f at H
 cbv
 repeat' (first
  | (with_reducible refine s_gd H (fun hg H => ?_))
  | (cases H; (try simp only [e0_S, e0_Param, e1_S, eS, e1_Param, eParam] at hF); with_reducible refine fin_close hF rfl (by simp [expIds, posCells, C.cells, idOf]) ?_; cbv)
  | ((with_reducible first | refine s_lt H ?_ ?_ | refine s_le H ?_ ?_ | refine s_eq H ?_ ?_ | refine s_ne H ?_ ?_) <;> intro H <;> cbv)
  | with_reducible first
   | (refine s_ln H lnOf (fun _ H => ?_); cbv)
   | (refine s_ixS hV H (fun _ H => ?_); cbv)
   | (refine s_ar H (fun _ H => ?_); cbv)
   | (refine s_apS hV H (fun _ H => ?_); cbv)
   | (refine s_apL hV.rS hV.nS H (fun _ H => ?_); cbv)
   | (refine s_apParam hV H (fun _ H => ?_); cbv)
   | (refine s_apL hV.rParam hV.nParam H (fun _ H => ?_); cbv)
   | (refine s_lv H (fun _ H => ?_); cbv)
   | (refine s_loop hA H (fun s h => hb0  s h) [2, 3, 4] [128, 192, 256] (fun e s => [(6, .int .i64 s)]) (fun e s => []) [] pin_impl_firstRefused nbOf ?_; rintro x268 H; unfold impl_firstRefused.b0 at H; (try dsimp only at H); cbv)
   | (refine s_loop hA H (fun s h => hb1 _ _ _ _ _ s h) [2, 3, 4, 6, 7, 35, 36] [128, 192, 256] (fun e s => [(37, .int .i64 s)]) (fun e s => []) [] pin_impl_firstRefused nbOf ?_; rintro x380 H; unfold impl_firstRefused.b1 at H; (try dsimp only at H); cbv)
  | (with_reducible refine s_next H pin_impl_firstRefused nbOf)
  | with_reducible first
   | (refine s_cLS_B hV hA H (by (try simp only [hV.rS, hV.rParam]); (first | (have hk_ := impl_Signature_needs.ok hm hz hG hg; with_unfolding_all exact hk_) | (with_unfolding_all exact impl_Signature_needs.ok hm hz hG (by first | assumption | omega)))) rfl (fun _ _ H => ?_); cbv)
   | (refine s_cb hA H (by (try simp only [hV.rS, hV.rParam]); with_unfolding_all exact impl_AcceptsShape.ok hm hz hG) rfl (fun H => ?_) (fun H => ?_) <;> cbv)
   | (refine s_cLS hV hA H (by (try simp only [hV.rS, hV.rParam]); (first | (have hk_ := impl_someNames.ok hm hz hG hg; with_unfolding_all exact hk_) | (with_unfolding_all exact impl_someNames.ok hm hz hG (by first | assumption | omega)))) rfl (fun _ H => ?_); cbv)
   | (refine s_cLS hV hA H (by (try simp only [hV.rS, hV.rParam]); (first | (have hk_ := impl_union.ok hm hz hG hg; with_unfolding_all exact hk_) | (with_unfolding_all exact impl_union.ok hm hz hG (by first | assumption | omega)))) rfl (fun _ H => ?_); cbv)
   | (refine s_tLS (by assumption) hV H (by (try simp only [hV.rS, hV.rParam]); (first | (have hk_ := impl_union.ok hm hz hG hg; with_unfolding_all exact hk_) | (with_unfolding_all exact impl_union.ok hm hz hG (by first | assumption | omega)))) (by first | (cbv <;> (repeat' (first | trivial | refine And.intro ?_ ?_)) <;> (first | rfl | exact clS hV _ | with_unfolding_all exact clParam hV _ | simp [closedCell])) | fail) (fun _ H => ?_); cbv)
   | (refine s_wLS (g := 103) hA H rfl (fun U hU => ?_); cbv)
   | (refine s_cb hA H (by (try simp only [hV.rS, hV.rParam]); with_unfolding_all exact slices_Contains_string.ok hm hz hG) rfl (fun H => ?_) (fun H => ?_) <;> cbv)
   | (refine indep_of hA ?_; cbv)
  | ((with_reducible refine side ?_); exact sideOf)
  | with_reducible first
   | (refine s_tkG hV.rS hV.nS ?_; cbv)
   | (refine s_tkG hV.rParam hV.nParam ?_; cbv)
   | (refine s_tk1 ?_; cbv)
   | (refine s_eqL ?_; cbv)
  | (with_reducible refine And.intro ?_ ?_)
  | ((with_reducible refine s_cn H (fun hb H => ?_) (fun hb H => ?_)) <;> (revert H; subst hb; intro H; cbv))
  | (intro ys hys; subst hys; rfl)
  | rfl)
theorem impl_firstRefused.ok {a1 : List Param} {a2 : List Param} (hp : validParams a1 = true ∧ validParams a2 = true) : FnOK pg G 58 [.agg [.sl (a1.map eParam)], .agg [.sl (a2.map eParam)]] [] (.tup [.agg [.int .i64 (((fun (a b : Sig) => frOf (refusedV a.params b.params)) ⟨a1⟩ ⟨a2⟩).1.count), .sl ((((fun (a b : Sig) => frOf (refusedV a.params b.params)) ⟨a1⟩ ⟨a2⟩).1.names).map eS)], .bool (((fun (a b : Sig) => frOf (refusedV a.params b.params)) ⟨a1⟩ ⟨a2⟩).2)]) [] true := by
 obtain ⟨pa, pb⟩ := hp
 have va := validParams_VN pa
 have vb := validParams_VN pb
 refine @impl_firstRefused.w G hm hz hG a1 a2 (fun n => 0 ≤ n ∧ n ≤ 9 ∧ frOf (refusedV a1 a2) = frOf (firstRef a1 a2 (9 - n.toNat) n.toNat)) (fun n => 9 - n.toNat) (fun _ => frOf (refusedV a1 a2))
  (fun m n nd l v i => m = 9 - n.toNat ∧ 0 ≤ n ∧ n ≤ 8 ∧ nd = needsT a1 n.toNat ∧ takesCountB a1 n.toNat = true ∧ accS a2 n.toNat (needsT a1 n.toNat) ∧ l = sortT (parNames a1 a2 ++ gens) ∧ v = l.length ∧ 0 ≤ i ∧ i ≤ l.length ∧ findHit a1 a2 n.toNat (l.drop i.toNat) = refAt a1 a2 n.toNat ∧ frOf (refusedV a1 a2) = frOf (firstRef a1 a2 (9 - n.toNat) n.toNat))
  (fun _ _ _ l _ i => l.length - i.toNat) (fun _ _ _ _ _ _ => frOf (refusedV a1 a2)) ?_ ?_ _ ?_
 ·rintro n ⟨h0, h1, hf⟩
  simp only [impl_firstRefused.b0, cn_ite]
  refine ite_ok (fun c => ?_) (fun c => ?_)
  ·rw [gd_ok va]
   have hf' := hf
   rw [show 9 - n.toNat = (9 - (n.toNat + 1)) + 1 by omega, firstRef] at hf'
   unfold needsI
   by_cases ht : takesCountB a1 n.toNat = true
   ·rw [if_pos ⟨⟨h0, c⟩, ht⟩]
    simp only [on_LS_B, if_true]
    have hacc : accSh ⟨a2⟩ ⟨n, needsT a1 n.toNat⟩ = true ↔ accS a2 n.toNat (needsT a1 n.toNat) := by
     rw [accSh_iff pb]
     exact ⟨fun h => h.2, fun h => ⟨⟨h0, needsT_ok va (by omega)⟩, h⟩⟩
    refine ite_ok (fun d => ?_) (fun d => ?_)
    ·rw [gd_ok ⟨va, vb⟩]
     simp only [on_LS]
     refine ln_ok fun _ => ?_
     have hB := hacc.1 d
     have g0 : findHit a1 a2 n.toNat ((sortT (parNames a1 a2 ++ gens)).drop (0 : Int).toNat) = refAt a1 a2 n.toNat := by
      simp only [Int.toNat_zero, List.drop_zero, findHit]
      unfold refAt
      rw [if_pos ht, if_pos ((accB_iff vb.toVP).2 hB)]
     rw [EI_ok ⟨by trivial, h0, c, by trivial, ht, hB, by trivial, by trivial, Int.le_refl 0, by omega, g0, hf⟩]
    ·have e : refAt a1 a2 n.toNat = some (needsT a1 n.toNat) := by
      unfold refAt
      rw [if_pos ht, if_neg (fun h => d (hacc.2 ((accB_iff vb.toVP).1 h)))]
     rw [e] at hf'
     rw [hf']
     simp only [frOf]
     rw [show ((n.toNat : Nat) : Int) = n by omega]
   ·rw [if_neg (fun h => ht h.2)]
    simp only [on_LS_B, Bool.false_eq_true, if_false]
    have e : refAt a1 a2 n.toNat = none := by unfold refAt; rw [if_neg ht]
    rw [e] at hf'
    have g1 : frOf (refusedV a1 a2) = frOf (firstRef a1 a2 (9 - (n + 1).toNat) (n + 1).toNat) := by
     rw [show (n + 1).toNat = n.toNat + 1 by omega]; exact hf'
    rw [arr_ok (by omega), LI_ok ⟨⟨by omega, by omega, g1⟩, by omega⟩]
  ·rw [show 9 - n.toNat = 0 by omega, firstRef] at hf
   rw [hf]; rfl
 ·rintro m n nd l v i ⟨hm1, h0, h8, hnd, ht, hB, hl, hv, i0, i1, hh, hf⟩
  simp only [impl_firstRefused.b1, cn_ite]
  have hf' := hf
  rw [show 9 - n.toNat = (9 - (n.toNat + 1)) + 1 by omega, firstRef] at hf'
  have eN : ((n.toNat : Nat) : Int) = n := by omega
  have hll : l.length ≤ 60 := by
   rw [hl]; refine Nat.le_trans (sortT_len _) ?_
   rw [List.length_append, gens_len]; have := parNames_len va vb; omega
  refine ite_ok (fun c => ?_) (fun c => ?_)
  ·obtain ⟨x, hx⟩ : ∃ x, l[i.toNat]? = some x := ⟨_, List.getElem?_eq_getElem (by omega)⟩
   have hxn : isName x = true := cand_name va vb (by rw [← hl]; exact List.mem_of_getElem? hx)
   have hxl := name_l hxn
   rw [dropS i0 hx] at hh
   have next : refP a1 a2 n.toNat x = false ∨ ¬ (needsT a1 n.toNat).length < 8 → (arr .i64 (i + 1) fun u => LI (fun i : Int => m = 9 - n.toNat ∧ 0 ≤ n ∧ n ≤ 8 ∧ nd = needsT a1 n.toNat ∧ takesCountB a1 n.toNat = true ∧ accS a2 n.toNat (needsT a1 n.toNat) ∧ l = sortT (parNames a1 a2 ++ gens) ∧ v = l.length ∧ 0 ≤ i ∧ i ≤ l.length ∧ findHit a1 a2 n.toNat (l.drop i.toNat) = refAt a1 a2 n.toNat ∧ frOf (refusedV a1 a2) = frOf (firstRef a1 a2 (9 - n.toNat) n.toNat)) (fun i => l.length - i.toNat) (fun _ => frOf (refusedV a1 a2)) (l.length - i.toNat) u) = some (frOf (refusedV a1 a2)) := by
    intro hno
    have g1 : findHit a1 a2 n.toNat (l.drop (i + 1).toNat) = refAt a1 a2 n.toNat := by
     rw [← hh]
     unfold findHit
     split
     ·rename_i k
      rw [List.find?_cons, hno.resolve_right (fun h => h k)]
     ·rfl
    rw [arr_ok (by omega), LI_ok ⟨⟨hm1, h0, h8, hnd, ht, hB, hl, hv, by omega, by omega, g1, hf⟩, by omega⟩]
   have es : sortT (nd ++ [x]) = insT x (needsT a1 n.toNat) := by rw [hnd]; exact sortT_ins (l := needsT a1 n.toNat) (asc_sortT _) x
   rw [ixS_ok i0 hx, gd_ok ⟨by rw [hnd]; exact needsT_okU va _, by simp, fun s hs => by rw [List.mem_singleton] at hs; subst hs; omega⟩]
   simp only [on_LS]
   rw [es]
   refine ite_ok (fun d => next (.inl (by rw [hnd] at d; simp only [refP, d, Bool.not_true, Bool.and_false, Bool.false_and]))) (fun d => ?_)
   rw [hnd] at d
   have hit := @hit_iff a1 a2 pa pb n.toNat (by omega) x hxn ht hB (Bool.eq_false_iff.2 d)
   rw [eN] at hit
   have nohit : ¬ ((needsT a1 n.toNat).length < 8 ∧ refP a1 a2 n.toNat x = true) → refP a1 a2 n.toNat x = false ∨ ¬ (needsT a1 n.toNat).length < 8 := fun h => by
    by_cases k : (needsT a1 n.toNat).length < 8
    ·exact .inl (Bool.eq_false_iff.2 fun e => h ⟨k, e⟩)
    ·exact .inr k
   refine ite_ok (fun e1 => ?_) (fun e1 => next (nohit fun h => e1 (hit.2 h).1))
   refine ite_ok (fun e2 => next (nohit fun h => (hit.2 h).2 e2)) (fun e2 => ?_)
   obtain ⟨k, hP⟩ := hit.1 ⟨e1, e2⟩
   have e : refAt a1 a2 n.toNat = some (insT x (needsT a1 n.toNat)) := by
    rw [← hh]; unfold findHit; rw [if_pos k, List.find?_cons, hP]; rfl
   rw [e] at hf'
   rw [hf']
   simp only [frOf]
   rw [eN]
  ·rw [List.drop_eq_nil_of_le (by omega)] at hh
   have e : refAt a1 a2 n.toNat = none := by rw [← hh]; unfold findHit; split <;> rfl
   rw [e] at hf'
   have g1 : frOf (refusedV a1 a2) = frOf (firstRef a1 a2 (9 - (n + 1).toNat) (n + 1).toNat) := by
    rw [show (n + 1).toNat = n.toNat + 1 by omega]; exact hf'
   rw [arr_ok (by omega), LI_ok ⟨⟨by omega, by omega, g1⟩, by omega⟩]
 ·simp only [impl_firstRefused.f]
  rw [EI_ok ⟨Int.le_refl 0, by omega, by trivial⟩]
end
noncomputable def impl_Fits.f (a1 : List Param) (a2 : List Param)  (z_ : Bool) : Option (Bool) := (cn ((fun (s : Sig) => validParams s.params) (⟨a1⟩)) (cn ((fun (s : Sig) => validParams s.params) (⟨a2⟩)) (gd (validParams a1 = true ∧ validParams a2 = true) (on_Shape_B ((fun (a b : Sig) => frOf (refusedV a.params b.params)) (⟨a1⟩) (⟨a2⟩)) fun v6 v7 v8 => (cn v8 (some false) (some true)))) (some false)) (some false))
section
variable {G : Glob} (hm : Hm) (hz : Hz) (hG : GF G)
include hm hz hG
theorem impl_Fits.w {a1 : List Param} {a2 : List Param}  {r : Bool} (H : impl_Fits.f a1 a2  r = some r) : FnOK pg G 18 [.agg [.sl (a1.map eParam)], .agg [.sl (a2.map eParam)]] [] (.bool r) [] false := by
 obtain ⟨V, hV⟩ := exV
 simp only [← hV.rS, ← hV.rParam]
 refine fn_ok (tt0 := tyG [ty3, ty4, ty9, ty27, ty29, ty65, ty68, ty70]) (fn := Tryz.f18) (body := bodyOf Tryz.f18) (ext := []) hm (tyG_sub ⟨tt3, tt4, tt9, tt27, tt29, tt65, tt68, tt70, trivial⟩) hz 0 true [] (by unfold pg; exact Tryz.func18) rfl rfl (by simp [Tryz.f18]) (by simp [EObj.toObj]) (by cbv) ?_
 intro A F hA hF
 unfold impl_Fits.f at H
 cbv
 repeat' (first
  | (with_reducible refine s_gd H (fun hg H => ?_))
  | (cases H; exact fin_plain hF rfl rfl rfl rfl)
  | with_reducible first
   | (refine s_lv H (fun _ H => ?_); cbv)
   | (refine s_cb hA H (by (try simp only [hV.rS, hV.rParam]); with_unfolding_all exact impl_ValidSignature.ok hm hz hG) rfl (fun H => ?_) (fun H => ?_) <;> cbv)
   | (refine s_cShape_B hV hA H (by (try simp only [hV.rS, hV.rParam]); (first | (have hk_ := impl_firstRefused.ok hm hz hG hg; with_unfolding_all exact hk_) | (with_unfolding_all exact impl_firstRefused.ok hm hz hG (by first | assumption | omega)))) rfl (fun _ _ _ H => ?_); cbv)
   | (refine indep_of hA ?_; cbv)
  | ((with_reducible refine side ?_); exact sideOf)
  | with_reducible first
   | (refine s_tkG hV.rS hV.nS ?_; cbv)
   | (refine s_tkG hV.rParam hV.nParam ?_; cbv)
   | (refine s_tk1 ?_; cbv)
  | (with_reducible refine And.intro ?_ ?_)
  | ((with_reducible refine s_cn H (fun hb H => ?_) (fun hb H => ?_)) <;> (revert H; subst hb; intro H; cbv))
  | (intro ys hys; subst hys; rfl)
  | rfl)
theorem impl_Fits.ok {a1 : List Param} {a2 : List Param}  : FnOK pg G 18 [.agg [.sl (a1.map eParam)], .agg [.sl (a2.map eParam)]] [] (.bool (((fun (a b : Sig) => FitsV a.params b.params) ⟨a1⟩ ⟨a2⟩))) [] false := by
 refine impl_Fits.w hm hz hG ?_
 simp only [impl_Fits.f, cn_ite]
 unfold FitsV fitsV
 rw [frV_eq]
 refine ite_ok (fun c => ?_) (fun c => by simp [c])
 refine ite_ok (fun d => ?_) (fun d => by simp [d])
 rw [gd_ok ⟨c, d⟩, c, d]
 simp only [on_Shape_B, Bool.and_self, if_true, Bool.true_and]
 split <;> simp_all
end
noncomputable def impl_SameShapes.f (a1 : List Param) (a2 : List Param)  (z_ : Bool) : Option (Bool) := (cn ((fun (a b : Sig) => FitsV a.params b.params) (⟨a1⟩) (⟨a2⟩)) (cn ((fun (a b : Sig) => FitsV a.params b.params) (⟨a2⟩) (⟨a1⟩)) (some true) (some false)) (some false))
section
variable {G : Glob} (hm : Hm) (hz : Hz) (hG : GF G)
include hm hz hG
theorem impl_SameShapes.w {a1 : List Param} {a2 : List Param}  {r : Bool} (H : impl_SameShapes.f a1 a2  r = some r) : FnOK pg G 21 [.agg [.sl (a1.map eParam)], .agg [.sl (a2.map eParam)]] [] (.bool r) [] false := by
 obtain ⟨V, hV⟩ := exV
 simp only [← hV.rParam]
 refine fn_ok (tt0 := tyG [ty3, ty4, ty9, ty27, ty29, ty65]) (fn := Tryz.f21) (body := bodyOf Tryz.f21) (ext := []) hm (tyG_sub ⟨tt3, tt4, tt9, tt27, tt29, tt65, trivial⟩) hz 0 true [] (by unfold pg; exact Tryz.func21) rfl rfl (by simp [Tryz.f21]) (by simp [EObj.toObj]) (by cbv) ?_
 intro A F hA hF
 unfold impl_SameShapes.f at H
 cbv
 repeat' (first
  | (cases H; exact fin_plain hF rfl rfl rfl rfl)
  | with_reducible first
   | (refine s_lv H (fun _ H => ?_); cbv)
   | (refine s_cb hA H (by (try simp only [hV.rParam]); with_unfolding_all exact impl_Fits.ok hm hz hG) rfl (fun H => ?_) (fun H => ?_) <;> cbv)
   | (refine indep_of hA ?_; cbv)
  | ((with_reducible refine side ?_); exact sideOf)
  | with_reducible first
   | (refine s_tkG hV.rParam hV.nParam ?_; cbv)
   | (refine s_tk1 ?_; cbv)
  | (with_reducible refine And.intro ?_ ?_)
  | ((with_reducible refine s_cn H (fun hb H => ?_) (fun hb H => ?_)) <;> (revert H; subst hb; intro H; cbv))
  | (intro ys hys; subst hys; rfl)
  | rfl)
theorem impl_SameShapes.ok {a1 : List Param} {a2 : List Param}  : FnOK pg G 21 [.agg [.sl (a1.map eParam)], .agg [.sl (a2.map eParam)]] [] (.bool (((fun (a b : Sig) => FitsV a.params b.params && FitsV b.params a.params) ⟨a1⟩ ⟨a2⟩))) [] false := by
 refine impl_SameShapes.w hm hz hG ?_
 simp only [impl_SameShapes.f, cn_ite]
 repeat' split
 all_goals simp_all
end
end Go.Proofs.YtchpopejojghmaaGreatDoor.M
