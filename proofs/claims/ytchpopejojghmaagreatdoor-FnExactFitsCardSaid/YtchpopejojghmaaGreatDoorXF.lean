/- The laws on fitting: both answer alike for all signatures. -/
import Derived.Test.YtchpopejojghmaaGreatDoorWC
import Derived.Test.YtchpopejojghmaaGreatDoorXS
set_option linter.unusedVariables false
set_option linter.unusedSimpArgs false
set_option linter.unusedSectionVars false
namespace Go.Proofs.YtchpopejojghmaaGreatDoor.M
open Go Go.Proofs
set_option maxRecDepth 100000
noncomputable def laws_FnExactFits.f (a1 : List Param) (a2 : List Param)  (z_ : Bool) : Option (Bool) := (gd (0 ≤ ((1048576 : Int)) ∧ ((1048576 : Int)) ≤ 1099511627776) (lv ((fun (s : Sig) (q : Int) => szPars s.params q) (⟨a1⟩) 1048576) fun v3 => (if v3 < 0 then (some true) else (gd (0 ≤ v3 ∧ v3 ≤ 1099511627776) (lv ((fun (s : Sig) (q : Int) => szPars s.params q) (⟨a2⟩) v3) fun v4 => (if v4 < 0 then (some true) else (gd (a1.length ≤ 1048576) (on_Sig ((fun (s : Sig) => s) (⟨a1⟩)) fun v5 => (gd (a2.length ≤ 1048576) (on_Sig ((fun (s : Sig) => s) (⟨a2⟩)) fun v6 => (cn ((fun (a b : Sig) => FitsV a.params b.params) (⟨v5⟩) (⟨v6⟩)) (gd (a1.length ≤ 1048576) (on_Sig ((fun (s : Sig) => s) (⟨a1⟩)) fun v8 => (gd (a2.length ≤ 1048576) (on_Sig ((fun (s : Sig) => s) (⟨a2⟩)) fun v10 => (cn ((fun (a b : Sig) => FitsV a.params b.params) (⟨v8⟩) (⟨v10⟩)) (gd (a1.length ≤ 1048576) (on_Sig ((fun (s : Sig) => s) (⟨a1⟩)) fun v11 => (cn ((fun (s t : Sig) => decide (s = t)) (⟨v8⟩) (⟨v11⟩)) (gd (a2.length ≤ 1048576) (on_Sig ((fun (s : Sig) => s) (⟨a2⟩)) fun v12 => (cn ((fun (s t : Sig) => decide (s = t)) (⟨v10⟩) (⟨v12⟩)) (some true) (some false)))) (some false)))) (some false)))))) (gd (a1.length ≤ 1048576) (on_Sig ((fun (s : Sig) => s) (⟨a1⟩)) fun v14 => (gd (a2.length ≤ 1048576) (on_Sig ((fun (s : Sig) => s) (⟨a2⟩)) fun v16 => (cn ((fun (a b : Sig) => FitsV a.params b.params) (⟨v14⟩) (⟨v16⟩)) (some false) (gd (a1.length ≤ 1048576) (on_Sig ((fun (s : Sig) => s) (⟨a1⟩)) fun v17 => (cn ((fun (s t : Sig) => decide (s = t)) (⟨v14⟩) (⟨v17⟩)) (gd (a2.length ≤ 1048576) (on_Sig ((fun (s : Sig) => s) (⟨a2⟩)) fun v18 => (cn ((fun (s t : Sig) => decide (s = t)) (⟨v16⟩) (⟨v18⟩)) (some true) (some false)))) (some false))))))))))))))))))))
section
variable {G : Glob} (hm : Hm) (hz : Hz) (hG : GF G)
include hm hz hG
theorem laws_FnExactFits.w {a1 : List Param} {a2 : List Param}  {r : Bool} (H : laws_FnExactFits.f a1 a2  r = some r) : FnOK pg G 3 [.agg [.sl (a1.map eParam)], .agg [.sl (a2.map eParam)]] [] (.bool r) [] false := by
 obtain ⟨V, hV⟩ := exV
 simp only [← hV.rParam]
 refine fn_ok (tt0 := tyG [ty3, ty4, ty9, ty22, ty24, ty27, ty29, ty65, ty125]) (fn := Tryz.f3) (body := bodyOf Tryz.f3) (ext := []) hm (tyG_sub ⟨tt3, tt4, tt9, tt22, tt24, tt27, tt29, tt65, tt125, trivial⟩) hz 0 true [] (by unfold pg; exact Tryz.func3) rfl rfl (by simp [Tryz.f3]) (by simp [EObj.toObj]) (by cbv) ?_
 intro A F hA hF
 unfold laws_FnExactFits.f at H
 cbv
 repeat' (first
  | (with_reducible refine s_gd H (fun hg H => ?_))
  | (cases H; exact fin_plain hF rfl rfl rfl rfl)
  | ((with_reducible first | refine s_lt H ?_ ?_ | refine s_le H ?_ ?_ | refine s_eq H ?_ ?_ | refine s_ne H ?_ ?_) <;> intro H <;> cbv)
  | with_reducible first
   | (refine s_lv H (fun _ H => ?_); cbv)
   | (refine s_ci hA H (by (try simp only [hV.rParam]); (first | (have hk_ := laws_szSignature.ok hm hz hG hg; with_unfolding_all exact hk_) | (with_unfolding_all exact laws_szSignature.ok hm hz hG (by first | assumption | omega)))) rfl (fun _ H => ?_); cbv)
   | (refine s_cSig hV hA H (by (try simp only [hV.rParam]); (first | (have hk_ := laws_toSignature.ok hm hz hG hg; with_unfolding_all exact hk_) | (with_unfolding_all exact laws_toSignature.ok hm hz hG (by first | assumption | omega)))) rfl (fun _ H => ?_); cbv)
   | (refine s_cb hA H (by (try simp only [hV.rParam]); with_unfolding_all exact spec_Fits.ok hm hz hG) rfl (fun H => ?_) (fun H => ?_) <;> cbv)
   | (refine s_cb hA H (by (try simp only [hV.rParam]); with_unfolding_all exact impl_Fits.ok hm hz hG) rfl (fun H => ?_) (fun H => ?_) <;> cbv)
   | (refine s_cb hA H (by (try simp only [hV.rParam]); with_unfolding_all exact laws_eqSignature.ok hm hz hG) rfl (fun H => ?_) (fun H => ?_) <;> cbv)
   | (refine indep_of hA ?_; cbv)
  | ((with_reducible refine side ?_); exact sideOf)
  | with_reducible first
   | (refine s_tkG hV.rParam hV.nParam ?_; cbv)
   | (refine s_tk1 ?_; cbv)
  | (with_reducible refine And.intro ?_ ?_)
  | ((with_reducible refine s_cn H (fun hb H => ?_) (fun hb H => ?_)) <;> (revert H; subst hb; intro H; cbv))
  | (intro ys hys; subst hys; rfl)
  | rfl)
theorem laws_FnExactFits.ok {a1 : List Param} {a2 : List Param}  : FnOK pg G 3 [.agg [.sl (a1.map eParam)], .agg [.sl (a2.map eParam)]] [] (.bool (((fun (_ _ : Sig) => true) ⟨a1⟩ ⟨a2⟩))) [] false := by
 refine laws_FnExactFits.w hm hz hG ?_
 simp only [laws_FnExactFits.f, cn_ite, lv]
 rw [gd_ok (by decide)]
 refine ite_ok (fun _ => rfl) (fun c1 => ?_)
 have h1 := szPars_le (l := a1) (q := 1048576) (by omega)
 rw [gd_ok (by omega)]
 refine ite_ok (fun _ => rfl) (fun c2 => ?_)
 have h2 := szPars_le (l := a2) (q := szPars a1 1048576) (by omega)
 rw [gd_ok (by omega)]
 simp only [on_Sig]
 have l1 : a1.length ≤ 1048576 := by omega
 have l2 : a2.length ≤ 1048576 := by omega
 simp only [gd_ok l1, gd_ok l2]
 by_cases c : FitsV a1 a2 = true
 ·simp only [if_pos c]
  simp
 ·simp only [if_neg c]
  simp
end
theorem same_eq (A B : List Param) : (FitsV A B && fitsV B A) = (FitsV A B && FitsV B A) := by
 unfold FitsV
 cases validParams A <;> cases validParams B <;> simp
noncomputable def laws_FnExactSameShapes.f (a1 : List Param) (a2 : List Param)  (z_ : Bool) : Option (Bool) := (gd (0 ≤ ((1048576 : Int)) ∧ ((1048576 : Int)) ≤ 1099511627776) (lv ((fun (s : Sig) (q : Int) => szPars s.params q) (⟨a1⟩) 1048576) fun v3 => (if v3 < 0 then (some true) else (gd (0 ≤ v3 ∧ v3 ≤ 1099511627776) (lv ((fun (s : Sig) (q : Int) => szPars s.params q) (⟨a2⟩) v3) fun v4 => (if v4 < 0 then (some true) else (gd (a1.length ≤ 1048576) (on_Sig ((fun (s : Sig) => s) (⟨a1⟩)) fun v5 => (gd (a2.length ≤ 1048576) (on_Sig ((fun (s : Sig) => s) (⟨a2⟩)) fun v6 => (cn ((fun (a b : Sig) => FitsV a.params b.params && fitsV b.params a.params) (⟨v5⟩) (⟨v6⟩)) (gd (a1.length ≤ 1048576) (on_Sig ((fun (s : Sig) => s) (⟨a1⟩)) fun v8 => (gd (a2.length ≤ 1048576) (on_Sig ((fun (s : Sig) => s) (⟨a2⟩)) fun v10 => (cn ((fun (a b : Sig) => FitsV a.params b.params && FitsV b.params a.params) (⟨v8⟩) (⟨v10⟩)) (gd (a1.length ≤ 1048576) (on_Sig ((fun (s : Sig) => s) (⟨a1⟩)) fun v11 => (cn ((fun (s t : Sig) => decide (s = t)) (⟨v8⟩) (⟨v11⟩)) (gd (a2.length ≤ 1048576) (on_Sig ((fun (s : Sig) => s) (⟨a2⟩)) fun v12 => (cn ((fun (s t : Sig) => decide (s = t)) (⟨v10⟩) (⟨v12⟩)) (some true) (some false)))) (some false)))) (some false)))))) (gd (a1.length ≤ 1048576) (on_Sig ((fun (s : Sig) => s) (⟨a1⟩)) fun v14 => (gd (a2.length ≤ 1048576) (on_Sig ((fun (s : Sig) => s) (⟨a2⟩)) fun v16 => (cn ((fun (a b : Sig) => FitsV a.params b.params && FitsV b.params a.params) (⟨v14⟩) (⟨v16⟩)) (some false) (gd (a1.length ≤ 1048576) (on_Sig ((fun (s : Sig) => s) (⟨a1⟩)) fun v17 => (cn ((fun (s t : Sig) => decide (s = t)) (⟨v14⟩) (⟨v17⟩)) (gd (a2.length ≤ 1048576) (on_Sig ((fun (s : Sig) => s) (⟨a2⟩)) fun v18 => (cn ((fun (s t : Sig) => decide (s = t)) (⟨v16⟩) (⟨v18⟩)) (some true) (some false)))) (some false))))))))))))))))))))
section
variable {G : Glob} (hm : Hm) (hz : Hz) (hG : GF G)
include hm hz hG
theorem laws_FnExactSameShapes.w {a1 : List Param} {a2 : List Param}  {r : Bool} (H : laws_FnExactSameShapes.f a1 a2  r = some r) : FnOK pg G 4 [.agg [.sl (a1.map eParam)], .agg [.sl (a2.map eParam)]] [] (.bool r) [] false := by
 obtain ⟨V, hV⟩ := exV
 simp only [← hV.rParam]
 refine fn_ok (tt0 := tyG [ty3, ty4, ty9, ty22, ty24, ty27, ty29, ty65, ty125]) (fn := Tryz.f4) (body := bodyOf Tryz.f4) (ext := []) hm (tyG_sub ⟨tt3, tt4, tt9, tt22, tt24, tt27, tt29, tt65, tt125, trivial⟩) hz 0 true [] (by unfold pg; exact Tryz.func4) rfl rfl (by simp [Tryz.f4]) (by simp [EObj.toObj]) (by cbv) ?_
 intro A F hA hF
 unfold laws_FnExactSameShapes.f at H
 cbv
 repeat' (first
  | (with_reducible refine s_gd H (fun hg H => ?_))
  | (cases H; exact fin_plain hF rfl rfl rfl rfl)
  | ((with_reducible first | refine s_lt H ?_ ?_ | refine s_le H ?_ ?_ | refine s_eq H ?_ ?_ | refine s_ne H ?_ ?_) <;> intro H <;> cbv)
  | with_reducible first
   | (refine s_lv H (fun _ H => ?_); cbv)
   | (refine s_ci hA H (by (try simp only [hV.rParam]); (first | (have hk_ := laws_szSignature.ok hm hz hG hg; with_unfolding_all exact hk_) | (with_unfolding_all exact laws_szSignature.ok hm hz hG (by first | assumption | omega)))) rfl (fun _ H => ?_); cbv)
   | (refine s_cSig hV hA H (by (try simp only [hV.rParam]); (first | (have hk_ := laws_toSignature.ok hm hz hG hg; with_unfolding_all exact hk_) | (with_unfolding_all exact laws_toSignature.ok hm hz hG (by first | assumption | omega)))) rfl (fun _ H => ?_); cbv)
   | (refine s_cb hA H (by (try simp only [hV.rParam]); with_unfolding_all exact spec_SameShapes.ok hm hz hG) rfl (fun H => ?_) (fun H => ?_) <;> cbv)
   | (refine s_cb hA H (by (try simp only [hV.rParam]); with_unfolding_all exact impl_SameShapes.ok hm hz hG) rfl (fun H => ?_) (fun H => ?_) <;> cbv)
   | (refine s_cb hA H (by (try simp only [hV.rParam]); with_unfolding_all exact laws_eqSignature.ok hm hz hG) rfl (fun H => ?_) (fun H => ?_) <;> cbv)
   | (refine indep_of hA ?_; cbv)
  | ((with_reducible refine side ?_); exact sideOf)
  | with_reducible first
   | (refine s_tkG hV.rParam hV.nParam ?_; cbv)
   | (refine s_tk1 ?_; cbv)
  | (with_reducible refine And.intro ?_ ?_)
  | ((with_reducible refine s_cn H (fun hb H => ?_) (fun hb H => ?_)) <;> (revert H; subst hb; intro H; cbv))
  | (intro ys hys; subst hys; rfl)
  | rfl)
theorem laws_FnExactSameShapes.ok {a1 : List Param} {a2 : List Param}  : FnOK pg G 4 [.agg [.sl (a1.map eParam)], .agg [.sl (a2.map eParam)]] [] (.bool (((fun (_ _ : Sig) => true) ⟨a1⟩ ⟨a2⟩))) [] false := by
 refine laws_FnExactSameShapes.w hm hz hG ?_
 simp only [laws_FnExactSameShapes.f, cn_ite, lv]
 rw [gd_ok (by decide)]
 refine ite_ok (fun _ => rfl) (fun c1 => ?_)
 have h1 := szPars_le (l := a1) (q := 1048576) (by omega)
 rw [gd_ok (by omega)]
 refine ite_ok (fun _ => rfl) (fun c2 => ?_)
 have h2 := szPars_le (l := a2) (q := szPars a1 1048576) (by omega)
 rw [gd_ok (by omega)]
 simp only [on_Sig]
 have l1 : a1.length ≤ 1048576 := by omega
 have l2 : a2.length ≤ 1048576 := by omega
 simp only [gd_ok l1, gd_ok l2, same_eq]
 by_cases c : (FitsV a1 a2 && FitsV a2 a1) = true
 ·simp only [if_pos c]
  simp
 ·simp only [if_neg c]
  simp
end
end Go.Proofs.YtchpopejojghmaaGreatDoor.M
