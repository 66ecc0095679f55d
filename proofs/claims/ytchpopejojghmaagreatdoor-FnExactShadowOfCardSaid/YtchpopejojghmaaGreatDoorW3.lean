/- How many parameters take places. -/
import Derived.Test.YtchpopejojghmaaGreatDoorW2
set_option linter.unusedVariables false
set_option linter.unusedSimpArgs false
set_option linter.unusedSectionVars false
namespace Go.Proofs.YtchpopejojghmaaGreatDoor.M
open Go Go.Proofs
set_option maxRecDepth 100000
def placesN (ps : List Param) : Int := (ps.countP placedP : Int)
noncomputable def spec_placeCount.b0 (a1 : List Param)  (h0 : (Int × Int) → Option (Int)) (z_ : Int) (x10 : Int) (x11 : Int) : Option (Int) := (ln' z_ (a1.length) fun v20 => (if x11 < v20 then (ixParam a1 x11 fun v21 v22 v23 v24 => (cn (placedP (⟨v21, v22, v23, v24⟩)) (arr .i64 (x10 + 1) fun v25 => (arr .i64 (x11 + 1) fun v26 => (h0 (v25, v26)))) (arr .i64 (x11 + 1) fun v27 => (h0 (x10, v27))))) else (some x10)))
noncomputable def spec_placeCount.f (a1 : List Param) (h0 : (Int × Int) → Option (Int)) (z_ : Int) : Option (Int) := (h0 (0, 0))
theorem pin_spec_placeCount {e : ESt} {ns : List (Nat × Nat)} {ps : List (Nat × C)} {os : List (Nat × EObj)} (hs : pinPZ (pinZ e.o (os.map Prod.fst) ns) e.s ps := by first | (cbv <;> (repeat' (first | trivial | refine And.intro ?_ ?_)) <;> (first | rfl | assumption | omega | exact clParam hV _ | with_unfolding_all exact hV.nParam [] | with_unfolding_all exact (hV.nParam []).symm | with_unfolding_all exact hV.rParam _ | with_unfolding_all exact (hV.nParam _).trans (Eq.trans (by simp only [hV.nParam] at *; omega) (hV.nParam _).symm) | simp [closedCell])) | fail) (ho : ∀ B : (Nat → EObj) → List (List C) → List (List C) → Prop, (∀ o rows rows', rowsZ (pinZ o (os.map Prod.fst) ns) rows rows' → B o rows rows') → pinOZ (pinZ e.o (os.map Prod.fst) ns) B e.o ns os := by intro B hB; first | (cbv <;> (repeat' (first | trivial | refine And.intro ?_ ?_ | refine pin_same hB ?_ | refine pin_nil hB ?_ | refine pin_dirty hB (by assumption) (by assumption) ?_ ?_ | exact pinL_n | refine pinL_c ?_ ?_ | exact pzr rfl rfl rfl (nrParam hV _) (clParam hV _) | (refine pz_go ?_; cbv) | (refine pinL_go ?_; cbv))) <;> (first | exact clParam hV _ | with_unfolding_all exact hV.rParam _ | with_unfolding_all exact hV.nParam [] | with_unfolding_all exact (hV.nParam []).symm | assumption | omega | rfl | with_unfolding_all exact (hV.nParam _).trans (Eq.trans (by simp only [hV.nParam] at *; omega) (hV.nParam _).symm) | simp [closedCell])) | fail) : PinnedZ e ns ps os := ⟨hs, ho⟩
section
variable {G : Glob} (hm : Hm) (hz : Hz) (hG : GF G)
include hm hz hG
set_option maxHeartbeats 8000000 in
theorem spec_placeCount.w {a1 : List Param} (inv0 : (Int × Int) → Prop) (mu0 : (Int × Int) → Nat) (res0 : (Int × Int) → Int) (hb0 : ∀ (s_ : Int × Int), inv0  s_ → spec_placeCount.b0 a1  (LI (inv0 ) (mu0 ) (res0 ) (mu0  s_)) (res0  s_) s_.1 s_.2 = some (res0  s_)) {r : Int} (H : spec_placeCount.f a1 (EI (inv0 ) (mu0 ) (res0 )) r = some r) : FnOK pg G 128 [.agg [.sl (a1.map eParam)]] [] (.int .i64 r) [] false := by
 obtain ⟨V, hV⟩ := exV
 simp only [← hV.rParam]
 refine fn_ok (tt0 := tyG [ty3, ty4, ty9, ty27, ty29, ty65]) (fn := Tryz.f128) (body := bodyOf Tryz.f128) (ext := []) hm (tyG_sub ⟨tt3, tt4, tt9, tt27, tt29, tt65, trivial⟩) hz 0 true [] (by unfold pg; exact Tryz.func128) rfl rfl (by simp [Tryz.f128]) (by simp [EObj.toObj]) (by cbv) ?_
 intro A F hA hF
 unfold spec_placeCount.f at H
 cbv
 repeat' (first
  | (cases H; exact fin_plain hF rfl rfl rfl rfl)
  | ((with_reducible first | refine s_lt H ?_ ?_ | refine s_le H ?_ ?_ | refine s_eq H ?_ ?_ | refine s_ne H ?_ ?_) <;> intro H <;> cbv)
  | with_reducible first
   | (refine s_ln H lnOf (fun _ H => ?_); cbv)
   | (refine s_ixParam hV H (fun _ _ _ _ H => ?_); cbv)
   | (refine s_ar H (fun _ H => ?_); cbv)
   | (refine s_lv H (fun _ H => ?_); cbv)
   | (refine s_loop hA H (fun s h => hb0  s h) [1] [64] (fun e s => [(3, .int .i64 (s.1)), (4, .int .i64 (s.2))]) (fun e s => []) [] pin_spec_placeCount nbOf ?_; rintro ⟨x10, x11⟩ H; unfold spec_placeCount.b0 at H; (try dsimp only at H); cbv)
  | (with_reducible refine s_next H pin_spec_placeCount nbOf)
  | with_reducible first
   | (refine s_cb hA H (by (try simp only [hV.rParam]); with_unfolding_all exact spec_byPlace.ok hm hz hG) rfl (fun H => ?_) (fun H => ?_) <;> cbv)
   | (refine indep_of hA ?_; cbv)
  | ((with_reducible refine side ?_); exact sideOf)
  | with_reducible first
   | (refine s_tkG hV.rParam hV.nParam ?_; cbv)
   | (refine s_tk1 ?_; cbv)
  | (with_reducible refine And.intro ?_ ?_)
  | ((with_reducible refine s_cn H (fun hb H => ?_) (fun hb H => ?_)) <;> (revert H; subst hb; intro H; cbv))
  | (intro ys hys; subst hys; rfl)
  | rfl)
theorem spec_placeCount.ok {a1 : List Param}  : FnOK pg G 128 [.agg [.sl (a1.map eParam)]] [] (.int .i64 (((fun (s : Sig) => placesN s.params) ⟨a1⟩))) [] false := by
 refine @spec_placeCount.w G hm hz hG a1 (fun s => 0 ≤ s.2 ∧ s.2 ≤ a1.length ∧ 0 ≤ s.1 ∧ s.1 ≤ s.2 ∧ s.1 + placesN (a1.drop s.2.toNat) = placesN a1) (fun s => a1.length - s.2.toNat) (fun _ => placesN a1) ?_ _ ?_
 ·rintro ⟨n, i⟩ ⟨h0, h1, n0, n1, he⟩
  simp only at h0 h1 n0 n1 he
  simp only [spec_placeCount.b0]
  refine ln_ok fun hB => ?_
  refine ite_ok (fun h => ?_) (fun h => ?_)
  ·have hlt : i.toNat < a1.length := by omega
   obtain ⟨p, hp⟩ : ∃ p, a1[i.toNat]? = some p := ⟨_, List.getElem?_eq_getElem hlt⟩
   have hd : a1.drop i.toNat = p :: a1.drop (i + 1).toNat := by
    obtain ⟨_, e⟩ := List.getElem?_eq_some_iff.1 hp
    rw [List.drop_eq_getElem_cons hlt, e, show (i + 1).toNat = i.toNat + 1 by omega]
   rw [hd] at he
   rw [ixParam_ok h0 hp]
   simp only [eta_Param, cn_ite]
   refine ite_ok (fun c => ?_) (fun c => ?_)
   ·have e2 : placesN (p :: a1.drop (i + 1).toNat) = placesN (a1.drop (i + 1).toNat) + 1 := by
     simp only [placesN, List.countP_cons, if_pos c]; omega
    rw [arr_ok (by omega), arr_ok (by omega), LI_ok ⟨⟨by simp only; omega, by simp only; omega, by simp only; omega, by simp only; omega, by simp only; omega⟩, by simp only; omega⟩]
   ·have e2 : placesN (p :: a1.drop (i + 1).toNat) = placesN (a1.drop (i + 1).toNat) := by
     simp only [placesN, List.countP_cons, if_neg c]; omega
    rw [arr_ok (by omega), LI_ok ⟨⟨by simp only; omega, by simp only; omega, by simp only; omega, by simp only; omega, by simp only; omega⟩, by simp only; omega⟩]
  ·rw [List.drop_eq_nil_of_le (by omega)] at he
   have e0 : placesN [] = 0 := rfl
   rw [show n = placesN a1 by omega]
 ·simp only [spec_placeCount.f]
  rw [EI_ok ⟨Int.le_refl 0, by simp only; omega, Int.le_refl 0, by simp only; omega, by simp⟩]
end
end Go.Proofs.YtchpopejojghmaaGreatDoor.M
