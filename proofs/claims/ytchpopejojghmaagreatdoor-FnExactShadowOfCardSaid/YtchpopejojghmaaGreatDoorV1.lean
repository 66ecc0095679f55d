/- Signatures: validity. -/
import Derived.Test.YtchpopejojghmaaGreatDoorQ6
set_option linter.unusedVariables false
set_option linter.unusedSimpArgs false
set_option linter.unusedSectionVars false
namespace Go.Proofs.YtchpopejojghmaaGreatDoor.M
open Go Go.Proofs
set_option maxRecDepth 100000
def placedP (p : Param) : Bool := decide (p.kind = 0) || decide (p.kind = 1)
def namedP (p : Param) : Bool := decide (p.kind = 1) || decide (p.kind = 3)
def singleP (p : Param) : Bool := placedP p || namedP p
def validParam (p : Param) : Bool := isName p.name && inRange p.kind 0 4 && isValue p.dflt && (p.hasDefault || decide (p.dflt = 0)) && (singleP p || !p.hasDefault)
def stepOK : Option Param → Param → Bool
 | none, _ => true
 | some q, p => !(decide (p.kind < q.kind)) && !(decide (p.kind = q.kind) && !singleP p) && !(placedP p && q.hasDefault && !p.hasDefault)
def validGo (pre : List Param) : List Param → Bool
 | [] => true
 | p :: r => validParam p && decide (findParam pre p.name < 0) && stepOK pre.getLast? p && validGo (pre ++ [p]) r
def validParams (l : List Param) : Bool := validGo [] l && decide ((l.length : Int) ≤ 8)
noncomputable def spec_byPlace.f (a1 : Str) (a2 : Int) (a3 : Bool) (a4 : Int)  (z_ : Bool) : Option (Bool) := (if a2 = 0 then (some true) else (if a2 = 1 then (some true) else (some false)))
section
variable {G : Glob} (hm : Hm) (hz : Hz) (hG : GF G)
include hm hz hG
theorem spec_byPlace.w {a1 : Str} {a2 : Int} {a3 : Bool} {a4 : Int}  {r : Bool} (H : spec_byPlace.f a1 a2 a3 a4  r = some r) : FnOK pg G 163 [.agg [.str ⟨⟨a1⟩⟩, .int .i64 a2, .bool a3, .int .i64 a4]] [] (.bool r) [] false := by
 obtain ⟨V, hV⟩ := exV
 refine fn_ok (tt0 := tyG [ty3, ty4, ty9, ty65]) (fn := Tryz.f163) (body := bodyOf Tryz.f163) (ext := []) hm (tyG_sub ⟨tt3, tt4, tt9, tt65, trivial⟩) hz 0 true [] (by unfold pg; exact Tryz.func163) rfl rfl (by simp [Tryz.f163]) (by simp [EObj.toObj]) (by cbv) ?_
 intro A F hA hF
 unfold spec_byPlace.f at H
 cbv
 repeat' (first
  | (cases H; exact fin_plain hF rfl rfl rfl rfl)
  | ((with_reducible first | refine s_lt H ?_ ?_ | refine s_le H ?_ ?_ | refine s_eq H ?_ ?_ | refine s_ne H ?_ ?_) <;> intro H <;> cbv)
  | with_reducible first
   | (refine s_lv H (fun _ H => ?_); cbv)
   | (refine indep_of hA ?_; cbv)
  | ((with_reducible refine side ?_); exact sideOf)
  | (with_reducible refine s_tk1 ?_; cbv)
  | (with_reducible refine And.intro ?_ ?_)
  | (intro ys hys; subst hys; rfl)
  | rfl)
theorem spec_byPlace.ok {a1 : Str} {a2 : Int} {a3 : Bool} {a4 : Int}  : FnOK pg G 163 [.agg [.str ⟨⟨a1⟩⟩, .int .i64 a2, .bool a3, .int .i64 a4]] [] (.bool ((placedP ⟨a1, a2, a3, a4⟩))) [] false := by
 refine spec_byPlace.w hm hz hG ?_
 simp only [spec_byPlace.f, placedP]; split <;> (try split) <;> simp [*]
end
noncomputable def spec_byName.f (a1 : Str) (a2 : Int) (a3 : Bool) (a4 : Int)  (z_ : Bool) : Option (Bool) := (if a2 = 1 then (some true) else (if a2 = 3 then (some true) else (some false)))
section
variable {G : Glob} (hm : Hm) (hz : Hz) (hG : GF G)
include hm hz hG
theorem spec_byName.w {a1 : Str} {a2 : Int} {a3 : Bool} {a4 : Int}  {r : Bool} (H : spec_byName.f a1 a2 a3 a4  r = some r) : FnOK pg G 165 [.agg [.str ⟨⟨a1⟩⟩, .int .i64 a2, .bool a3, .int .i64 a4]] [] (.bool r) [] false := by
 obtain ⟨V, hV⟩ := exV
 refine fn_ok (tt0 := tyG [ty3, ty4, ty9, ty65]) (fn := Tryz.f165) (body := bodyOf Tryz.f165) (ext := []) hm (tyG_sub ⟨tt3, tt4, tt9, tt65, trivial⟩) hz 0 true [] (by unfold pg; exact Tryz.func165) rfl rfl (by simp [Tryz.f165]) (by simp [EObj.toObj]) (by cbv) ?_
 intro A F hA hF
 unfold spec_byName.f at H
 cbv
 repeat' (first
  | (cases H; exact fin_plain hF rfl rfl rfl rfl)
  | ((with_reducible first | refine s_lt H ?_ ?_ | refine s_le H ?_ ?_ | refine s_eq H ?_ ?_ | refine s_ne H ?_ ?_) <;> intro H <;> cbv)
  | with_reducible first
   | (refine s_lv H (fun _ H => ?_); cbv)
   | (refine indep_of hA ?_; cbv)
  | ((with_reducible refine side ?_); exact sideOf)
  | (with_reducible refine s_tk1 ?_; cbv)
  | (with_reducible refine And.intro ?_ ?_)
  | (intro ys hys; subst hys; rfl)
  | rfl)
theorem spec_byName.ok {a1 : Str} {a2 : Int} {a3 : Bool} {a4 : Int}  : FnOK pg G 165 [.agg [.str ⟨⟨a1⟩⟩, .int .i64 a2, .bool a3, .int .i64 a4]] [] (.bool ((namedP ⟨a1, a2, a3, a4⟩))) [] false := by
 refine spec_byName.w hm hz hG ?_
 simp only [spec_byName.f, namedP]; split <;> (try split) <;> simp [*]
end
noncomputable def spec_isSingle.f (a1 : Str) (a2 : Int) (a3 : Bool) (a4 : Int)  (z_ : Bool) : Option (Bool) := (cn (placedP (⟨a1, a2, a3, a4⟩)) (some true) (cn (namedP (⟨a1, a2, a3, a4⟩)) (some true) (some false)))
section
variable {G : Glob} (hm : Hm) (hz : Hz) (hG : GF G)
include hm hz hG
theorem spec_isSingle.w {a1 : Str} {a2 : Int} {a3 : Bool} {a4 : Int}  {r : Bool} (H : spec_isSingle.f a1 a2 a3 a4  r = some r) : FnOK pg G 177 [.agg [.str ⟨⟨a1⟩⟩, .int .i64 a2, .bool a3, .int .i64 a4]] [] (.bool r) [] false := by
 obtain ⟨V, hV⟩ := exV
 refine fn_ok (tt0 := tyG [ty3, ty4, ty9, ty65]) (fn := Tryz.f177) (body := bodyOf Tryz.f177) (ext := []) hm (tyG_sub ⟨tt3, tt4, tt9, tt65, trivial⟩) hz 0 true [] (by unfold pg; exact Tryz.func177) rfl rfl (by simp [Tryz.f177]) (by simp [EObj.toObj]) (by cbv) ?_
 intro A F hA hF
 unfold spec_isSingle.f at H
 cbv
 repeat' (first
  | (cases H; exact fin_plain hF rfl rfl rfl rfl)
  | with_reducible first
   | (refine s_lv H (fun _ H => ?_); cbv)
   | (refine s_cb hA H (by with_unfolding_all exact spec_byPlace.ok hm hz hG) rfl (fun H => ?_) (fun H => ?_) <;> cbv)
   | (refine s_cb hA H (by with_unfolding_all exact spec_byName.ok hm hz hG) rfl (fun H => ?_) (fun H => ?_) <;> cbv)
   | (refine indep_of hA ?_; cbv)
  | ((with_reducible refine side ?_); exact sideOf)
  | (with_reducible refine s_tk1 ?_; cbv)
  | (with_reducible refine And.intro ?_ ?_)
  | ((with_reducible refine s_cn H (fun hb H => ?_) (fun hb H => ?_)) <;> (revert H; subst hb; intro H; cbv))
  | (intro ys hys; subst hys; rfl)
  | rfl)
theorem spec_isSingle.ok {a1 : Str} {a2 : Int} {a3 : Bool} {a4 : Int}  : FnOK pg G 177 [.agg [.str ⟨⟨a1⟩⟩, .int .i64 a2, .bool a3, .int .i64 a4]] [] (.bool ((singleP ⟨a1, a2, a3, a4⟩))) [] false := by
 refine spec_isSingle.w hm hz hG ?_
 simp only [spec_isSingle.f, singleP]; cases placedP ⟨a1, a2, a3, a4⟩ <;> cases namedP ⟨a1, a2, a3, a4⟩ <;> rfl
end
noncomputable def spec_validParam.f (a1 : Str) (a2 : Int) (a3 : Bool) (a4 : Int)  (z_ : Bool) : Option (Bool) := (cn (isName a1) (cn (inRange a2 0 4) (cn (isValue a4) (cn a3 (cn (singleP (⟨a1, a2, true, a4⟩)) (some true) (some false)) (if a4 = 0 then (cn (singleP (⟨a1, a2, false, a4⟩)) (some true) (some true)) else (some false))) (some false)) (some false)) (some false))
section
variable {G : Glob} (hm : Hm) (hz : Hz) (hG : GF G)
include hm hz hG
theorem spec_validParam.w {a1 : Str} {a2 : Int} {a3 : Bool} {a4 : Int}  {r : Bool} (H : spec_validParam.f a1 a2 a3 a4  r = some r) : FnOK pg G 186 [.agg [.str ⟨⟨a1⟩⟩, .int .i64 a2, .bool a3, .int .i64 a4]] [] (.bool r) [] false := by
 obtain ⟨V, hV⟩ := exV
 refine fn_ok (tt0 := tyG [ty3, ty4, ty9, ty65]) (fn := Tryz.f186) (body := bodyOf Tryz.f186) (ext := []) hm (tyG_sub ⟨tt3, tt4, tt9, tt65, trivial⟩) hz 0 true [] (by unfold pg; exact Tryz.func186) rfl rfl (by simp [Tryz.f186]) (by simp [EObj.toObj]) (by cbv) ?_
 intro A F hA hF
 unfold spec_validParam.f at H
 cbv
 repeat' (first
  | (cases H; exact fin_plain hF rfl rfl rfl rfl)
  | ((with_reducible first | refine s_lt H ?_ ?_ | refine s_le H ?_ ?_ | refine s_eq H ?_ ?_ | refine s_ne H ?_ ?_) <;> intro H <;> cbv)
  | with_reducible first
   | (refine s_lv H (fun _ H => ?_); cbv)
   | (refine s_cb hA H (by with_unfolding_all exact spec_validName.ok hm hz hG) rfl (fun H => ?_) (fun H => ?_) <;> cbv)
   | (refine s_cb hA H (by with_unfolding_all exact spec_inRange.ok hm hz hG) rfl (fun H => ?_) (fun H => ?_) <;> cbv)
   | (refine s_cb hA H (by with_unfolding_all exact spec_validNumber.ok hm hz hG) rfl (fun H => ?_) (fun H => ?_) <;> cbv)
   | (refine s_cb hA H (by with_unfolding_all exact spec_isSingle.ok hm hz hG) rfl (fun H => ?_) (fun H => ?_) <;> cbv)
   | (refine indep_of hA ?_; cbv)
  | ((with_reducible refine side ?_); exact sideOf)
  | (with_reducible refine s_tk1 ?_; cbv)
  | (with_reducible refine And.intro ?_ ?_)
  | ((with_reducible refine s_cn H (fun hb H => ?_) (fun hb H => ?_)) <;> (revert H; subst hb; intro H; cbv))
  | (intro ys hys; subst hys; rfl)
  | rfl)
theorem spec_validParam.ok {a1 : Str} {a2 : Int} {a3 : Bool} {a4 : Int}  : FnOK pg G 186 [.agg [.str ⟨⟨a1⟩⟩, .int .i64 a2, .bool a3, .int .i64 a4]] [] (.bool ((validParam ⟨a1, a2, a3, a4⟩))) [] false := by
 refine spec_validParam.w hm hz hG ?_
 simp only [spec_validParam.f, validParam, cn_ite]
 cases isName a1 <;> cases inRange a2 0 4 <;> cases isValue a4 <;> try rfl
 cases a3
 ·simp only [if_true, Bool.false_eq_true, if_false, Bool.false_or, Bool.not_false, Bool.or_true, Bool.and_true, Bool.true_and]
  refine ite_ok (fun h => ?_) (fun h => ?_)
  ·rw [decide_eq_true h]; split <;> rfl
  ·rw [decide_eq_false h]
 ·cases singleP ⟨a1, a2, true, a4⟩ <;> rfl
end
noncomputable def spec_validParams.b0 (a1 : List Param)  (h0 : (Int) → Option (Bool)) (z_ : Bool) (x195 : Int) : Option (Bool) := (ln' z_ (a1.length) fun v244 => (if x195 < v244 then (ixParam a1 x195 fun v269 v270 v271 v272 => (cn (validParam (⟨v269, v270, v271, v272⟩)) (gd (0 ≤ x195 ∧ x195.toNat ≤ a1.length) (lv (a1.take x195.toNat) fun v273 => (lv (findParam v273 v269) fun v274 => (if 0 ≤ v274 then (some false) else (if x195 = 0 then (arr .i64 (x195 + 1) fun v275 => (h0 v275)) else (arr .i64 (x195 - 1) fun v281 => (ixParam a1 v281 fun v282 v283 v284 v285 => (if v270 < v283 then (some false) else (if v270 = v283 then (cn (singleP (⟨v269, v270, v271, v272⟩)) (cn (placedP (⟨v269, v270, v271, v272⟩)) (cn v284 (cn v271 (arr .i64 (x195 + 1) fun v286 => (h0 v286)) (some false)) (arr .i64 (x195 + 1) fun v287 => (h0 v287))) (arr .i64 (x195 + 1) fun v288 => (h0 v288))) (some false)) else (cn (placedP (⟨v269, v270, v271, v272⟩)) (cn v284 (cn v271 (arr .i64 (x195 + 1) fun v289 => (h0 v289)) (some false)) (arr .i64 (x195 + 1) fun v290 => (h0 v290))) (arr .i64 (x195 + 1) fun v291 => (h0 v291)))))))))))) (some false))) else (ln' z_ (a1.length) fun v292 => (if v292 ≤ 8 then (some true) else (some false)))))
noncomputable def spec_validParams.f (a1 : List Param) (h0 : (Int) → Option (Bool)) (z_ : Bool) : Option (Bool) := (h0 0)
theorem pin_spec_validParams {e : ESt} {ns : List (Nat × Nat)} {ps : List (Nat × C)} {os : List (Nat × EObj)} (hs : pinPZ (pinZ e.o (os.map Prod.fst) ns) e.s ps := by first | (cbv <;> (repeat' (first | trivial | refine And.intro ?_ ?_)) <;> (first | rfl | assumption | omega | exact clParam hV _ | with_unfolding_all exact hV.nParam [] | with_unfolding_all exact (hV.nParam []).symm | with_unfolding_all exact hV.rParam _ | with_unfolding_all exact (hV.nParam _).trans (Eq.trans (by simp only [hV.nParam] at *; omega) (hV.nParam _).symm) | simp [closedCell])) | fail) (ho : ∀ B : (Nat → EObj) → List (List C) → List (List C) → Prop, (∀ o rows rows', rowsZ (pinZ o (os.map Prod.fst) ns) rows rows' → B o rows rows') → pinOZ (pinZ e.o (os.map Prod.fst) ns) B e.o ns os := by intro B hB; first | (cbv <;> (repeat' (first | trivial | refine And.intro ?_ ?_ | refine pin_same hB ?_ | refine pin_nil hB ?_ | refine pin_dirty hB (by assumption) (by assumption) ?_ ?_ | exact pinL_n | refine pinL_c ?_ ?_ | exact pzr rfl rfl rfl (nrParam hV _) (clParam hV _) | (refine pz_go ?_; cbv) | (refine pinL_go ?_; cbv))) <;> (first | exact clParam hV _ | with_unfolding_all exact hV.rParam _ | with_unfolding_all exact hV.nParam [] | with_unfolding_all exact (hV.nParam []).symm | assumption | omega | rfl | with_unfolding_all exact (hV.nParam _).trans (Eq.trans (by simp only [hV.nParam] at *; omega) (hV.nParam _).symm) | simp [closedCell])) | fail) : PinnedZ e ns ps os := ⟨hs, ho⟩
section
variable {G : Glob} (hm : Hm) (hz : Hz) (hG : GF G)
include hm hz hG
set_option maxHeartbeats 8000000 in
theorem spec_validParams.w {a1 : List Param} (inv0 : (Int) → Prop) (mu0 : (Int) → Nat) (res0 : (Int) → Bool) (hb0 : ∀ (s_ : Int), inv0  s_ → spec_validParams.b0 a1  (LI (inv0 ) (mu0 ) (res0 ) (mu0  s_)) (res0  s_) s_ = some (res0  s_)) {r : Bool} (H : spec_validParams.f a1 (EI (inv0 ) (mu0 ) (res0 )) r = some r) : FnOK pg G 152 [.sl (a1.map eParam)] [] (.bool r) [] false := by
 obtain ⟨V, hV⟩ := exV
 simp only [← hV.rParam]
 refine fn_ok (tt0 := tyG [ty3, ty4, ty9, ty27, ty65]) (fn := Tryz.f152) (body := bodyOf Tryz.f152) (ext := []) hm (tyG_sub ⟨tt3, tt4, tt9, tt27, tt65, trivial⟩) hz 0 true [] (by unfold pg; exact Tryz.func152) rfl rfl (by simp [Tryz.f152]) (by simp [EObj.toObj]) (by cbv) ?_
 intro A F hA hF
 unfold spec_validParams.f at H
 cbv
 repeat' (first
  | (with_reducible refine s_gd H (fun hg H => ?_))
  | (cases H; exact fin_plain hF rfl rfl rfl rfl)
  | ((with_reducible first | refine s_lt H ?_ ?_ | refine s_le H ?_ ?_ | refine s_eq H ?_ ?_ | refine s_ne H ?_ ?_) <;> intro H <;> cbv)
  | with_reducible first
   | (refine s_ln H lnOf (fun _ H => ?_); cbv)
   | (refine s_ixParam hV H (fun _ _ _ _ H => ?_); cbv)
   | (refine s_ar H (fun _ H => ?_); cbv)
   | (refine s_tkL hV.rParam H (fun _ H => ?_); cbv)
   | (refine s_tdL hV.rParam H (fun _ H => ?_); cbv)
   | (refine s_tkLn hV.rParam (by with_unfolding_all rfl) H (fun _ H => ?_); cbv)
   | (refine s_lv H (fun _ H => ?_); cbv)
   | (refine s_loop hA H (fun s h => hb0  s h) [0] [] (fun e s => [(3, .int .i64 s)]) (fun e s => []) [] pin_spec_validParams nbOf ?_; rintro x195 H; unfold spec_validParams.b0 at H; (try dsimp only at H); cbv)
  | (with_reducible refine s_next H pin_spec_validParams nbOf)
  | with_reducible first
   | (refine s_cb hA H (by (try simp only [hV.rParam]); with_unfolding_all exact spec_validParam.ok hm hz hG) rfl (fun H => ?_) (fun H => ?_) <;> cbv)
   | (refine s_ci hA H (by (try simp only [hV.rParam]); with_unfolding_all exact spec_findParam.ok hm hz hG) rfl (fun _ H => ?_); cbv)
   | (refine s_cb hA H (by (try simp only [hV.rParam]); with_unfolding_all exact spec_isSingle.ok hm hz hG) rfl (fun H => ?_) (fun H => ?_) <;> cbv)
   | (refine s_cb hA H (by (try simp only [hV.rParam]); with_unfolding_all exact spec_byPlace.ok hm hz hG) rfl (fun H => ?_) (fun H => ?_) <;> cbv)
   | (refine indep_of hA ?_; cbv)
  | ((with_reducible refine side ?_); exact sideOf)
  | with_reducible first
   | (refine s_tkG hV.rParam hV.nParam ?_; cbv)
   | (refine s_tkP hV.rParam ?_; cbv)
   | (refine s_drP hV.rParam hV.nParam ?_; cbv)
   | (refine s_eqn ?_; cbv)
   | (refine s_eqn2 ?_; cbv)
   | (refine s_tk1 ?_; cbv)
  | (with_reducible refine And.intro ?_ ?_)
  | ((with_reducible refine s_cn H (fun hb H => ?_) (fun hb H => ?_)) <;> (revert H; subst hb; intro H; cbv))
  | (intro ys hys; subst hys; rfl)
  | rfl)
theorem spec_validParams.ok {a1 : List Param}  : FnOK pg G 152 [.sl (a1.map eParam)] [] (.bool ((validParams a1))) [] false := by
 have A := @spec_validParams.w G hm hz hG a1 (rgI (a1) (fun i => i) (fun _ => True)) (rgM (a1) (fun i => i)) (rgR (a1) (fun i => i) (fun r i => validGo (a1.take i.toNat) r && decide ((a1.length : Int) ≤ 8))) (rangeS (a1) (fun i => i) (fun _ => True) (fun r i => validGo (a1.take i.toNat) r && decide ((a1.length : Int) ≤ 8)) (fun rec z s => spec_validParams.b0 a1  rec z s) ?_ ?_)
 ·exact A (EI_fin (rg0 trivial rfl) rfl)
 ·intro rec s _ h0 h1
  simp only [spec_validParams.b0]
  refine ln_ok fun hB => ?_
  rw [if_neg (by omega)]
  simp only [validGo, Bool.true_and]
  refine ln_ok fun hB1 => ite_ok (fun h => ?_) (fun h => ?_)
  ·rw [decide_eq_true h]
  ·rw [decide_eq_false h]
 ·intro rec s x r _ h0 h1 hx hl hr
  simp only [spec_validParams.b0, lv, cn_ite]
  refine ln_ok fun hB => ?_
  have e1 : a1.take (s + 1).toNat = a1.take s.toNat ++ [x] := by rw [show (s + 1).toNat = s.toNat + 1 by omega, take_snoc hx]
  have hgo := hr _ trivial rfl
  rw [e1] at hgo
  rw [if_pos (by omega), ixParam_ok h0 hx, validGo]
  simp only [eta_Param]
  refine ite_ok (fun hv => ?_) (fun hv => by rw [Bool.eq_false_iff.2 hv]; rfl)
  rw [hv, gd_ok (by omega)]
  refine ite_ok (fun h => ?_) (fun h => ?_)
  ·rw [decide_eq_false (show ¬ findParam (a1.take s.toNat) x.name < 0 from Int.not_lt.2 h)]; rfl
  rw [decide_eq_true (show findParam (a1.take s.toNat) x.name < 0 from Int.not_le.1 h)]
  refine ite_ok (fun h2 => ?_) (fun h2 => ?_)
  ·subst h2
   rw [arr_ok (by omega), hgo]; rfl
  ·obtain ⟨y, hy⟩ : ∃ y, a1[(s - 1).toNat]? = some y := ⟨_, List.getElem?_eq_getElem (by omega)⟩
   have hla : (a1.take s.toNat).getLast? = some y := by
    rw [show s.toNat = (s - 1).toNat + 1 by omega, take_snoc hy]; simp
   rw [arr_ok (by omega), ixParam_ok (by omega) hy, hla]
   simp only [stepOK, Bool.true_and]
   have hgo' : arr .i64 (s + 1) (fun v => rec v) = some (validGo (a1.take s.toNat ++ [x]) r && decide ((a1.length : Int) ≤ 8)) := by rw [arr_ok (by omega), hgo]
   refine ite_ok (fun h3 => by rw [decide_eq_true h3]; rfl) (fun h3 => ?_)
   rw [decide_eq_false h3]
   simp only [hgo']
   by_cases h4 : x.kind = y.kind
   ·rw [if_pos h4, decide_eq_true h4]
    cases singleP x <;> cases placedP x <;> cases y.hasDefault <;> cases x.hasDefault <;> simp
   ·rw [if_neg h4, decide_eq_false h4]
    cases placedP x <;> cases y.hasDefault <;> cases x.hasDefault <;> simp
end
noncomputable def spec_validSignature.f (a1 : List Param)  (z_ : Bool) : Option (Bool) := (cn (validParams a1) (some true) (some false))
section
variable {G : Glob} (hm : Hm) (hz : Hz) (hG : GF G)
include hm hz hG
theorem spec_validSignature.w {a1 : List Param}  {r : Bool} (H : spec_validSignature.f a1  r = some r) : FnOK pg G 109 [.agg [.sl (a1.map eParam)]] [] (.bool r) [] false := by
 obtain ⟨V, hV⟩ := exV
 simp only [← hV.rParam]
 refine fn_ok (tt0 := tyG [ty3, ty4, ty9, ty27, ty29, ty65]) (fn := Tryz.f109) (body := bodyOf Tryz.f109) (ext := []) hm (tyG_sub ⟨tt3, tt4, tt9, tt27, tt29, tt65, trivial⟩) hz 0 true [] (by unfold pg; exact Tryz.func109) rfl rfl (by simp [Tryz.f109]) (by simp [EObj.toObj]) (by cbv) ?_
 intro A F hA hF
 unfold spec_validSignature.f at H
 cbv
 repeat' (first
  | (cases H; exact fin_plain hF rfl rfl rfl rfl)
  | with_reducible first
   | (refine s_lv H (fun _ H => ?_); cbv)
   | (refine s_cb hA H (by (try simp only [hV.rParam]); with_unfolding_all exact spec_validParams.ok hm hz hG) rfl (fun H => ?_) (fun H => ?_) <;> cbv)
   | (refine indep_of hA ?_; cbv)
  | ((with_reducible refine side ?_); exact sideOf)
  | with_reducible first
   | (refine s_tkG hV.rParam hV.nParam ?_; cbv)
   | (refine s_tk1 ?_; cbv)
  | (with_reducible refine And.intro ?_ ?_)
  | ((with_reducible refine s_cn H (fun hb H => ?_) (fun hb H => ?_)) <;> (revert H; subst hb; intro H; cbv))
  | (intro ys hys; subst hys; rfl)
  | rfl)
theorem spec_validSignature.ok {a1 : List Param}  : FnOK pg G 109 [.agg [.sl (a1.map eParam)]] [] (.bool (((fun (s : Sig) => validParams s.params) ⟨a1⟩))) [] false := by
 refine spec_validSignature.w hm hz hG ?_
 simp only [spec_validSignature.f]; cases validParams a1 <;> rfl
end
noncomputable def impl_Param_placed.f (a1 : Str) (a2 : Int) (a3 : Bool) (a4 : Int)  (z_ : Bool) : Option (Bool) := (if a2 = 0 then (some true) else (if a2 = 1 then (some true) else (some false)))
section
variable {G : Glob} (hm : Hm) (hz : Hz) (hG : GF G)
include hm hz hG
theorem impl_Param_placed.w {a1 : Str} {a2 : Int} {a3 : Bool} {a4 : Int}  {r : Bool} (H : impl_Param_placed.f a1 a2 a3 a4  r = some r) : FnOK pg G 89 [.agg [.str ⟨⟨a1⟩⟩, .int .i64 a2, .bool a3, .int .i64 a4]] [] (.bool r) [] false := by
 obtain ⟨V, hV⟩ := exV
 refine fn_ok (tt0 := tyG [ty3, ty4, ty9, ty65]) (fn := Tryz.f89) (body := bodyOf Tryz.f89) (ext := []) hm (tyG_sub ⟨tt3, tt4, tt9, tt65, trivial⟩) hz 0 true [] (by unfold pg; exact Tryz.func89) rfl rfl (by simp [Tryz.f89]) (by simp [EObj.toObj]) (by cbv) ?_
 intro A F hA hF
 unfold impl_Param_placed.f at H
 cbv
 repeat' (first
  | (cases H; exact fin_plain hF rfl rfl rfl rfl)
  | ((with_reducible first | refine s_lt H ?_ ?_ | refine s_le H ?_ ?_ | refine s_eq H ?_ ?_ | refine s_ne H ?_ ?_) <;> intro H <;> cbv)
  | with_reducible first
   | (refine s_lv H (fun _ H => ?_); cbv)
   | (refine indep_of hA ?_; cbv)
  | ((with_reducible refine side ?_); exact sideOf)
  | (with_reducible refine s_tk1 ?_; cbv)
  | (with_reducible refine And.intro ?_ ?_)
  | (intro ys hys; subst hys; rfl)
  | rfl)
theorem impl_Param_placed.ok {a1 : Str} {a2 : Int} {a3 : Bool} {a4 : Int}  : FnOK pg G 89 [.agg [.str ⟨⟨a1⟩⟩, .int .i64 a2, .bool a3, .int .i64 a4]] [] (.bool ((placedP ⟨a1, a2, a3, a4⟩))) [] false := by
 refine impl_Param_placed.w hm hz hG ?_
 simp only [impl_Param_placed.f, placedP]; split <;> (try split) <;> simp [*]
end
noncomputable def impl_Param_single.f (a1 : Str) (a2 : Int) (a3 : Bool) (a4 : Int)  (z_ : Bool) : Option (Bool) := (cn (placedP (⟨a1, a2, a3, a4⟩)) (some true) (if a2 = 3 then (some true) else (some false)))
section
variable {G : Glob} (hm : Hm) (hz : Hz) (hG : GF G)
include hm hz hG
theorem impl_Param_single.w {a1 : Str} {a2 : Int} {a3 : Bool} {a4 : Int}  {r : Bool} (H : impl_Param_single.f a1 a2 a3 a4  r = some r) : FnOK pg G 88 [.agg [.str ⟨⟨a1⟩⟩, .int .i64 a2, .bool a3, .int .i64 a4]] [] (.bool r) [] false := by
 obtain ⟨V, hV⟩ := exV
 refine fn_ok (tt0 := tyG [ty3, ty4, ty9, ty65]) (fn := Tryz.f88) (body := bodyOf Tryz.f88) (ext := []) hm (tyG_sub ⟨tt3, tt4, tt9, tt65, trivial⟩) hz 0 true [] (by unfold pg; exact Tryz.func88) rfl rfl (by simp [Tryz.f88]) (by simp [EObj.toObj]) (by cbv) ?_
 intro A F hA hF
 unfold impl_Param_single.f at H
 cbv
 repeat' (first
  | (cases H; exact fin_plain hF rfl rfl rfl rfl)
  | ((with_reducible first | refine s_lt H ?_ ?_ | refine s_le H ?_ ?_ | refine s_eq H ?_ ?_ | refine s_ne H ?_ ?_) <;> intro H <;> cbv)
  | with_reducible first
   | (refine s_lv H (fun _ H => ?_); cbv)
   | (refine s_cb hA H (by with_unfolding_all exact impl_Param_placed.ok hm hz hG) rfl (fun H => ?_) (fun H => ?_) <;> cbv)
   | (refine indep_of hA ?_; cbv)
  | ((with_reducible refine side ?_); exact sideOf)
  | (with_reducible refine s_tk1 ?_; cbv)
  | (with_reducible refine And.intro ?_ ?_)
  | ((with_reducible refine s_cn H (fun hb H => ?_) (fun hb H => ?_)) <;> (revert H; subst hb; intro H; cbv))
  | (intro ys hys; subst hys; rfl)
  | rfl)
theorem impl_Param_single.ok {a1 : Str} {a2 : Int} {a3 : Bool} {a4 : Int}  : FnOK pg G 88 [.agg [.str ⟨⟨a1⟩⟩, .int .i64 a2, .bool a3, .int .i64 a4]] [] (.bool ((singleP ⟨a1, a2, a3, a4⟩))) [] false := by
 refine impl_Param_single.w hm hz hG ?_
 simp only [impl_Param_single.f, singleP, cn_ite]
 by_cases h0 : a2 = 0 <;> by_cases h1 : a2 = 1 <;> by_cases h3 : a2 = 3 <;> simp [placedP, namedP, h0, h1, h3]
end
def kindOK : Option Param → Param → Bool
 | none, _ => true
 | some q, p => !(decide (p.kind < q.kind)) && !(decide (p.kind = q.kind) && !singleP p)
def optOK (pre : List Param) (o : Bool) : Prop :=
 match pre.getLast? with
 | none => o = false
 | some q => 0 ≤ q.kind ∧ (placedP q = true → o = q.hasDefault)
theorem optOK_snoc {pre : List Param} {x : Param} {o : Bool} (h : 0 ≤ x.kind) (ho : placedP x = true → o = x.hasDefault) : optOK (pre ++ [x]) o := by
 simp only [optOK, List.getLast?_concat]; exact ⟨h, ho⟩
theorem stepOK_def {l : Option Param} {x : Param} (hd : x.hasDefault = true) : stepOK l x = kindOK l x := by
 cases l with
 | none => rfl
 | some q => simp only [stepOK, kindOK, hd, Bool.not_true, Bool.and_false, Bool.not_false, Bool.and_true]
theorem stepOK_np {l : Option Param} {x : Param} (hd : placedP x = false) : stepOK l x = kindOK l x := by
 cases l with
 | none => rfl
 | some q => simp only [stepOK, kindOK, hd, Bool.false_and, Bool.not_false, Bool.and_true]
theorem stepOK_f {pre : List Param} {x : Param} (ho : optOK pre false) (hp : placedP x = true) (hx : 0 ≤ x.kind) : stepOK pre.getLast? x = kindOK pre.getLast? x := by
 unfold optOK at ho
 cases e : pre.getLast? with
 | none => rfl
 | some q =>
  rw [e] at ho
  obtain ⟨h1, h2⟩ := ho
  cases hq : placedP q with
  | true => simp only [stepOK, kindOK, ← h2 hq, Bool.and_false, Bool.false_and, Bool.not_false, Bool.and_true]
  | false =>
   have : x.kind < q.kind := by simp only [placedP, Bool.or_eq_true, Bool.or_eq_false_iff, decide_eq_true_eq, decide_eq_false_iff_not] at hp hq; omega
   simp only [stepOK, kindOK, decide_eq_true this, Bool.not_true, Bool.false_and]
theorem stepOK_t {pre : List Param} {x : Param} (ho : optOK pre true) (hp : placedP x = true) (hd : x.hasDefault = false) : stepOK pre.getLast? x = false := by
 unfold optOK at ho
 cases e : pre.getLast? with
 | none => rw [e] at ho; cases ho
 | some q =>
  rw [e] at ho
  obtain ⟨h1, h2⟩ := ho
  cases hq : placedP q with
  | true => simp only [stepOK, ← h2 hq, hp, hd, Bool.not_false, Bool.and_true, Bool.not_true, Bool.and_false]
  | false =>
   have : x.kind < q.kind := by simp only [placedP, Bool.or_eq_true, Bool.or_eq_false_iff, decide_eq_true_eq, decide_eq_false_iff_not] at hp hq; omega
   simp only [stepOK, decide_eq_true this, Bool.not_true, Bool.false_and]
noncomputable def impl_ValidSignature.b0 (a1 : List Param) (v153 : Int) (h0 : (Bool × Int) → Option (Bool)) (z_ : Bool) (x202 : Bool) (x203 : Int) : Option (Bool) := (if x203 < v153 then (ixParam a1 x203 fun v282 v283 v284 v285 => (cn (isName v282) (cn (inRange v283 0 4) (cn (isValue v285) (cn v284 (cn (singleP (⟨v282, v283, true, v285⟩)) (lj 0 (fun J0 => (cn (placedP (⟨v282, v283, true, v285⟩)) (cn x202 (J0 true) (J0 true)) (J0 x202))) (fun x286 => (lj 1 (fun J1 => (if 0 < x203 then (arr .i64 (x203 - 1) fun v292 => (ixParam a1 v292 fun v293 v294 v295 v296 => (if v283 < v294 then (some false) else (if v283 = v294 then (cn (singleP (⟨v282, v283, true, v285⟩)) (J1 ()) (some false)) else (J1 ()))))) else (J1 ()))) (fun () => (gd (0 ≤ x203 ∧ x203.toNat ≤ a1.length) (lv (a1.take x203.toNat) fun v297 => (lv (findParam v297 v282) fun v298 => (if 0 ≤ v298 then (some false) else (arr .i64 (x203 + 1) fun v299 => (h0 (x286, v299))))))))))) (some false)) (if v285 = 0 then (lj 2 (fun J2 => (cn (placedP (⟨v282, v283, false, v285⟩)) (cn x202 (some false) (J2 false)) (J2 x202))) (fun x300 => (lj 3 (fun J3 => (if 0 < x203 then (arr .i64 (x203 - 1) fun v306 => (ixParam a1 v306 fun v307 v308 v309 v310 => (if v283 < v308 then (some false) else (if v283 = v308 then (cn (singleP (⟨v282, v283, false, v285⟩)) (J3 ()) (some false)) else (J3 ()))))) else (J3 ()))) (fun () => (gd (0 ≤ x203 ∧ x203.toNat ≤ a1.length) (lv (a1.take x203.toNat) fun v311 => (lv (findParam v311 v282) fun v312 => (if 0 ≤ v312 then (some false) else (arr .i64 (x203 + 1) fun v313 => (h0 (x300, v313))))))))))) else (some false))) (some false)) (some false)) (some false))) else (ln' z_ (a1.length) fun v314 => (if v314 ≤ 8 then (some true) else (some false))))
noncomputable def impl_ValidSignature.f (a1 : List Param) (h0 : Int → (Bool × Int) → Option (Bool)) (z_ : Bool) : Option (Bool) := (ln' z_ (a1.length) fun v153 => (h0 v153 (false, 0)))
section
variable {G : Glob} (hm : Hm) (hz : Hz) (hG : GF G)
include hm hz hG
set_option maxHeartbeats 8000000 in
theorem impl_ValidSignature.w {a1 : List Param} (inv0 : Int → (Bool × Int) → Prop) (mu0 : Int → (Bool × Int) → Nat) (res0 : Int → (Bool × Int) → Bool) (hb0 : ∀ (v153 : Int), ∀ (s_ : Bool × Int), inv0 v153 s_ → impl_ValidSignature.b0 a1 v153 (LI (inv0 v153) (mu0 v153) (res0 v153) (mu0 v153 s_)) (res0 v153 s_) s_.1 s_.2 = some (res0 v153 s_)) {r : Bool} (H : impl_ValidSignature.f a1 (fun v153 => EI (inv0 v153) (mu0 v153) (res0 v153)) r = some r) : FnOK pg G 37 [.agg [.sl (a1.map eParam)]] [] (.bool r) [] false := by
 obtain ⟨V, hV⟩ := exV
 simp only [← hV.rParam]
 refine fn_ok (tt0 := tyG [ty3, ty4, ty9, ty27, ty29, ty65]) (fn := Tryz.f37) (body := bodyOf Tryz.f37) (ext := []) hm (tyG_sub ⟨tt3, tt4, tt9, tt27, tt29, tt65, trivial⟩) hz 0 true [11, 15, 11, 15] (by unfold pg; exact Tryz.func37) rfl rfl (by simp [Tryz.f37]) (by simp [EObj.toObj]) (by cbv) ?_
 intro A F hA hF
 unfold impl_ValidSignature.f at H
 cbv
 repeat' (first
  | (with_reducible refine s_gd H (fun hg H => ?_))
  | (cases H; exact fin_plain hF rfl rfl rfl rfl)
  | ((with_reducible first | refine s_lt H ?_ ?_ | refine s_le H ?_ ?_ | refine s_eq H ?_ ?_ | refine s_ne H ?_ ?_) <;> intro H <;> cbv)
  | with_reducible first
   | (refine s_ln H lnOf (fun _ H => ?_); cbv)
   | (refine s_ixParam hV H (fun _ _ _ _ H => ?_); cbv)
   | (refine s_ar H (fun _ H => ?_); cbv)
   | (refine s_tkL hV.rParam H (fun _ H => ?_); cbv)
   | (refine s_tdL hV.rParam H (fun _ H => ?_); cbv)
   | (refine s_tkLn hV.rParam (by with_unfolding_all rfl) H (fun _ H => ?_); cbv)
   | (refine s_lv H (fun _ H => ?_); cbv)
   | (refine s_loop hA H (fun s h => hb0 _ s h) [1, 8, 9] [64] (fun e s => [(3, .bool (s.1)), (10, .int .i64 (s.2))]) (fun e s => []) [] pin_spec_validParams nbOf ?_; rintro ⟨x202, x203⟩ H; unfold impl_ValidSignature.b0 at H; (try dsimp only at H); cbv)
  | (with_reducible refine s_next H pin_spec_validParams nbOf)
  | (with_reducible refine s_joint 0 hA H [1, 4, 5, 8, 9, 10] [64, 320] (fun e s => [(3, .bool s)]) (fun e s => []) (fun J0 H => ?_) ?_; rotate_left; (rintro x286 H; (try dsimp only at H); cbv); rotate_left; cbv)
  | (with_reducible refine s_meet H [] pin_spec_validParams nbOf)
  | (with_reducible refine s_joint 1 hA H [1, 3, 4, 5, 8, 9, 10] [64, 320] (fun e s => []) (fun e s => []) (fun J1 H => ?_) ?_; rotate_left; (rintro ⟨⟩ H; (try dsimp only at H); cbv); rotate_left; cbv)
  | (with_reducible refine s_meet H [] pin_spec_validParams nbOf)
  | (with_reducible refine s_joint 2 hA H [1, 4, 5, 8, 9, 10] [64, 320] (fun e s => [(3, .bool s)]) (fun e s => []) (fun J2 H => ?_) ?_; rotate_left; (rintro x300 H; (try dsimp only at H); cbv); rotate_left; cbv)
  | (with_reducible refine s_meet H [] pin_spec_validParams nbOf)
  | (with_reducible refine s_joint 3 hA H [1, 3, 4, 5, 8, 9, 10] [64, 320] (fun e s => []) (fun e s => []) (fun J3 H => ?_) ?_; rotate_left; (rintro ⟨⟩ H; (try dsimp only at H); cbv); rotate_left; cbv)
  | (with_reducible refine s_meet H [] pin_spec_validParams nbOf)
  | with_reducible first
   | (refine s_cb hA H (by (try simp only [hV.rParam]); with_unfolding_all exact impl_isName.ok hm hz hG) rfl (fun H => ?_) (fun H => ?_) <;> cbv)
   | (refine s_cb hA H (by (try simp only [hV.rParam]); with_unfolding_all exact impl_in.ok hm hz hG) rfl (fun H => ?_) (fun H => ?_) <;> cbv)
   | (refine s_cb hA H (by (try simp only [hV.rParam]); with_unfolding_all exact impl_isValue.ok hm hz hG) rfl (fun H => ?_) (fun H => ?_) <;> cbv)
   | (refine s_cb hA H (by (try simp only [hV.rParam]); with_unfolding_all exact impl_Param_single.ok hm hz hG) rfl (fun H => ?_) (fun H => ?_) <;> cbv)
   | (refine s_cb hA H (by (try simp only [hV.rParam]); with_unfolding_all exact impl_Param_placed.ok hm hz hG) rfl (fun H => ?_) (fun H => ?_) <;> cbv)
   | (refine s_ci hA H (by (try simp only [hV.rParam]); with_unfolding_all exact impl_find.ok hm hz hG) rfl (fun _ H => ?_); cbv)
   | (refine indep_of hA ?_; cbv)
  | ((with_reducible refine side ?_); exact sideOf)
  | with_reducible first
   | (refine s_tkG hV.rParam hV.nParam ?_; cbv)
   | (refine s_tkP hV.rParam ?_; cbv)
   | (refine s_drP hV.rParam hV.nParam ?_; cbv)
   | (refine s_eqn ?_; cbv)
   | (refine s_eqn2 ?_; cbv)
   | (refine s_tk1 ?_; cbv)
  | (with_reducible refine And.intro ?_ ?_)
  | ((with_reducible refine s_cn H (fun hb H => ?_) (fun hb H => ?_)) <;> (revert H; subst hb; intro H; cbv))
  | (intro ys hys; subst hys; rfl)
  | rfl)
theorem impl_ValidSignature.ok {a1 : List Param}  : FnOK pg G 37 [.agg [.sl (a1.map eParam)]] [] (.bool (((fun (s : Sig) => validParams s.params) ⟨a1⟩))) [] false := by
 have A := @impl_ValidSignature.w G hm hz hG a1 (fun v => rgI (a1) (fun s : Bool × Int => s.2) (fun s : Bool × Int => v = a1.length ∧ a1.length ≤ 9223372036854775807 ∧ optOK (a1.take s.2.toNat) s.1)) (fun v => rgM (a1) (fun s : Bool × Int => s.2)) (fun v => rgR (a1) (fun s : Bool × Int => s.2) (fun r (s : Bool × Int) => validGo (a1.take s.2.toNat) r && decide ((a1.length : Int) ≤ 8))) (fun v => rangeS (a1) (fun s : Bool × Int => s.2) (fun s : Bool × Int => v = a1.length ∧ a1.length ≤ 9223372036854775807 ∧ optOK (a1.take s.2.toNat) s.1) (fun r (s : Bool × Int) => validGo (a1.take s.2.toNat) r && decide ((a1.length : Int) ≤ 8)) (fun rec z s => impl_ValidSignature.b0 a1 v rec z s.1 s.2) ?_ ?_)
 ·exact A (ln_ok fun hB => EI_fin (rg0 ⟨rfl, hB, rfl⟩ rfl) rfl)
 ·rintro rec ⟨o, s⟩ ⟨rfl, hB, ho⟩ h0 h1
  simp only at h0 h1
  simp only [impl_ValidSignature.b0]
  rw [if_neg (by omega)]
  simp only [validGo, Bool.true_and]
  refine ln_ok fun hB1 => ite_ok (fun h => ?_) (fun h => ?_)
  ·rw [decide_eq_true h]
  ·rw [decide_eq_false h]
 ·rintro rec ⟨o, s⟩ x r ⟨rfl, hB, ho⟩ h0 h1 hx hl hr
  simp only at h0 h1 hx hl ho
  have e1 : a1.take (s + 1).toNat = a1.take s.toNat ++ [x] := by rw [show (s + 1).toNat = s.toNat + 1 by omega, take_snoc hx]
  have hgo : ∀ o', optOK (a1.take s.toNat ++ [x]) o' → rec (o', s + 1) = some (validGo (a1.take s.toNat ++ [x]) r && decide ((a1.length : Int) ≤ 8)) := fun o' h => by
   have := hr (o', s + 1) ⟨rfl, hB, by rw [e1]; exact h⟩ rfl
   rw [e1] at this; exact this
  have tail : ∀ (o' : Bool), optOK (a1.take s.toNat ++ [x]) o' → ∀ J : Option Bool, J = (gd (0 ≤ s ∧ s.toNat ≤ a1.length) (lv (a1.take s.toNat) fun v => lv (findParam v x.name) fun w => if 0 ≤ w then some false else arr .i64 (s + 1) fun u => rec (o', u))) →
    (if 0 < s then arr .i64 (s - 1) fun v => ixParam a1 v fun _ b _ _ => if x.kind < b then some false else if x.kind = b then cn (singleP x) J (some false) else J else J) = some (decide (findParam (a1.take s.toNat) x.name < 0) && kindOK (a1.take s.toNat).getLast? x && validGo (a1.take s.toNat ++ [x]) r && decide ((a1.length : Int) ≤ 8)) := by
   rintro o' ho' J rfl
   have eJ : (gd (0 ≤ s ∧ s.toNat ≤ a1.length) (lv (a1.take s.toNat) fun v => lv (findParam v x.name) fun w => if 0 ≤ w then some false else arr .i64 (s + 1) fun u => rec (o', u))) = some (decide (findParam (a1.take s.toNat) x.name < 0) && (validGo (a1.take s.toNat ++ [x]) r && decide ((a1.length : Int) ≤ 8))) := by
    rw [gd_ok (by omega)]
    simp only [lv]
    refine ite_ok (fun h => ?_) (fun h => ?_)
    ·rw [decide_eq_false (Int.not_lt.2 h)]; rfl
    ·rw [decide_eq_true (Int.not_le.1 h), arr_ok (by omega), hgo o' ho']; rfl
   rw [eJ]
   refine ite_ok (fun h => ?_) (fun h => ?_)
   ·obtain ⟨y, hy⟩ : ∃ y, a1[(s - 1).toNat]? = some y := ⟨_, List.getElem?_eq_getElem (by omega)⟩
    have hla : (a1.take s.toNat).getLast? = some y := by
     rw [show s.toNat = (s - 1).toNat + 1 by omega, take_snoc hy]; simp
    rw [arr_ok (by omega), ixParam_ok (by omega) hy, hla]
    simp only [kindOK, cn_ite]
    refine ite_ok (fun h3 => by rw [decide_eq_true h3]; simp) (fun h3 => ?_)
    rw [decide_eq_false h3]
    refine ite_ok (fun h4 => ?_) (fun h4 => ?_)
    ·rw [decide_eq_true h4]; cases singleP x <;> simp [Bool.and_assoc]
    ·rw [decide_eq_false h4]; simp [Bool.and_assoc]
   ·have : s = 0 := by omega
    subst this
    simp [kindOK, Bool.and_assoc]
  simp only [impl_ValidSignature.b0, lv, lj, cn_ite]
  rw [if_pos (by omega), ixParam_ok h0 hx, validGo]
  by_cases hv : validParam x = true
  ·have hk := hv
   simp only [validParam, Bool.and_eq_true, inRange, decide_eq_true_eq, Bool.or_eq_true, Bool.not_eq_true'] at hk
   obtain ⟨⟨⟨⟨k1, k2⟩, k3⟩, k4⟩, k5⟩ := hk
   have k2' : inRange x.kind 0 4 = true := by simp only [inRange, decide_eq_true_eq]; exact k2
   rw [hv]
   simp only [k1, k2', k3, if_true, Bool.true_and]
   cases hd : x.hasDefault with
   | true =>
    have ex : (⟨x.name, x.kind, true, x.dflt⟩ : Param) = x := by rw [← hd]
    rw [hd] at k5
    have hS : singleP x = true := by simpa using k5
    have tail := tail
    simp only [cn_ite, hS, if_true] at tail
    simp only [ex, hS, if_true]
    rw [stepOK_def hd]
    refine ite_ok (fun hp => ?_) (fun hp => ?_)
    ·refine ite_ok (fun _ => ?_) (fun _ => ?_) <;> exact (tail true (optOK_snoc k2.1 fun _ => hd.symm) _ rfl)
    ·exact tail o (optOK_snoc k2.1 fun h => absurd h hp) _ rfl
   | false =>
    have ex : (⟨x.name, x.kind, false, x.dflt⟩ : Param) = x := by rw [← hd]
    rw [hd] at k4
    have hz' : x.dflt = 0 := by simpa using k4
    have tail := tail
    simp only [cn_ite] at tail
    simp only [ex, Bool.false_eq_true, if_false]
    rw [if_pos hz']
    cases hp : placedP x with
    | true =>
     simp only [if_true]
     cases o with
     | true => simp only [if_true]; rw [stepOK_t ho hp hd]; simp
     | false =>
      simp only [Bool.false_eq_true, if_false]
      rw [stepOK_f ho hp k2.1]
      exact tail false (optOK_snoc k2.1 fun _ => hd.symm) _ rfl
    | false =>
     simp only [Bool.false_eq_true, if_false]
     rw [stepOK_np hp]
     exact tail o (optOK_snoc k2.1 fun h => by rw [hp] at h; cases h) _ rfl
  ·have hv' := Bool.eq_false_iff.2 hv
   rw [hv']
   simp only [Bool.false_and]
   simp only [validParam] at hv'
   cases k1 : isName x.name with
   | false => simp
   | true =>
   cases k2 : inRange x.kind 0 4 with
   | false => simp
   | true =>
   cases k3 : isValue x.dflt with
   | false => simp
   | true =>
   simp only [k1, k2, k3, Bool.true_and] at hv'
   simp only [if_true]
   cases hd : x.hasDefault with
   | true =>
    have ex : (⟨x.name, x.kind, true, x.dflt⟩ : Param) = x := by rw [← hd]
    rw [hd] at hv'
    have hS : singleP x = false := by simpa using hv'
    simp only [ex, hS, if_true, Bool.false_eq_true, if_false]
   | false =>
    rw [hd] at hv'
    have hz' : ¬ x.dflt = 0 := by simpa using hv'
    simp only [Bool.false_eq_true, if_false]
    rw [if_neg hz']
end
theorem validGo_mem : ∀ {r pre : List Param}, validGo pre r = true → ∀ p ∈ r, validParam p = true
 | [], _, _, p, hp => by cases hp
 | q :: r, pre, h, p, hp => by
  simp only [validGo, Bool.and_eq_true] at h
  rcases List.mem_cons.1 hp with rfl | hp
  ·exact h.1.1.1
  ·exact validGo_mem h.2 p hp
theorem kind_rng {p : Param} (h : validParam p = true) : 0 ≤ p.kind ∧ p.kind ≤ 4 := by
 simp only [validParam, Bool.and_eq_true, inRange, decide_eq_true_eq] at h; omega
theorem vp_name {p : Param} (h : validParam p = true) : isName p.name = true := by
 simp only [validParam, Bool.and_eq_true] at h; exact h.1.1.1.1
def kindAt (l : List Param) (k : Int) : Int := findI (fun p => decide (p.kind = k)) l
noncomputable def spec_kindAt.b0 (a1 : List Param) (a2 : Int)  (h0 : (Int) → Option (Int)) (z_ : Int) (x9 : Int) : Option (Int) := (ln' z_ (a1.length) fun v16 => (if x9 < v16 then (ixParam a1 x9 fun v17 v18 v19 v20 => (if v18 = a2 then (some x9) else (arr .i64 (x9 + 1) fun v21 => (h0 v21)))) else (some ((-1)))))
noncomputable def spec_kindAt.f (a1 : List Param) (a2 : Int) (h0 : (Int) → Option (Int)) (z_ : Int) : Option (Int) := (h0 0)
section
variable {G : Glob} (hm : Hm) (hz : Hz) (hG : GF G)
include hm hz hG
set_option maxHeartbeats 8000000 in
theorem spec_kindAt.w {a1 : List Param} {a2 : Int} (inv0 : (Int) → Prop) (mu0 : (Int) → Nat) (res0 : (Int) → Int) (hb0 : ∀ (s_ : Int), inv0  s_ → spec_kindAt.b0 a1 a2  (LI (inv0 ) (mu0 ) (res0 ) (mu0  s_)) (res0  s_) s_ = some (res0  s_)) {r : Int} (H : spec_kindAt.f a1 a2 (EI (inv0 ) (mu0 ) (res0 )) r = some r) : FnOK pg G 129 [.sl (a1.map eParam), .int .i64 a2] [] (.int .i64 r) [] false := by
 obtain ⟨V, hV⟩ := exV
 simp only [← hV.rParam]
 refine fn_ok (tt0 := tyG [ty3, ty4, ty9, ty27, ty65]) (fn := Tryz.f129) (body := bodyOf Tryz.f129) (ext := []) hm (tyG_sub ⟨tt3, tt4, tt9, tt27, tt65, trivial⟩) hz 0 true [] (by unfold pg; exact Tryz.func129) rfl rfl (by simp [Tryz.f129]) (by simp [EObj.toObj]) (by cbv) ?_
 intro A F hA hF
 unfold spec_kindAt.f at H
 cbv
 repeat' (first
  | (cases H; exact fin_plain hF rfl rfl rfl rfl)
  | ((with_reducible first | refine s_lt H ?_ ?_ | refine s_le H ?_ ?_ | refine s_eq H ?_ ?_ | refine s_ne H ?_ ?_) <;> intro H <;> cbv)
  | with_reducible first
   | (refine s_ln H lnOf (fun _ H => ?_); cbv)
   | (refine s_ixParam hV H (fun _ _ _ _ H => ?_); cbv)
   | (refine s_ar H (fun _ H => ?_); cbv)
   | (refine s_lv H (fun _ H => ?_); cbv)
   | (refine s_loop hA H (fun s h => hb0  s h) [0, 1] [] (fun e s => [(5, .int .i64 s)]) (fun e s => []) [] pin_spec_validParams nbOf ?_; rintro x9 H; unfold spec_kindAt.b0 at H; (try dsimp only at H); cbv)
  | (with_reducible refine s_next H pin_spec_validParams nbOf)
  | (with_reducible refine indep_of hA ?_; cbv)
  | ((with_reducible refine side ?_); exact sideOf)
  | with_reducible first
   | (refine s_tkG hV.rParam hV.nParam ?_; cbv)
   | (refine s_tk1 ?_; cbv)
  | (with_reducible refine And.intro ?_ ?_)
  | (intro ys hys; subst hys; rfl)
  | rfl)
theorem spec_kindAt.ok {a1 : List Param} {a2 : Int}  : FnOK pg G 129 [.sl (a1.map eParam), .int .i64 a2] [] (.int .i64 ((kindAt a1 a2))) [] false := by
 have A := @spec_kindAt.w G hm hz hG a1 a2 (rgI (a1) (fun i => i) (fun _ => True)) (rgM (a1) (fun i => i)) (rgR (a1) (fun i => i) (fun r i => idxOr i (r.findIdx? (fun p => decide (p.kind = a2))))) (rangeS (a1) (fun i => i) (fun _ => True) (fun r i => idxOr i (r.findIdx? (fun p => decide (p.kind = a2)))) (fun rec z s => spec_kindAt.b0 a1 a2  rec z s) ?_ ?_)
 ·exact A (EI_fin (rg0 trivial rfl) rfl)
 ·intro rec s _ h0 h1
  simp only [spec_kindAt.b0]
  refine ln_ok fun hB => ?_
  simp (disch := first | assumption | omega | (simp; done) | (simp; omega)) only [if_true, if_false, reduceIte, lv, lj, ln_at, cn_t, cn_f, cn_tf, cn_ft, cn_xx, gd_ok, arr_ok, arr_ok8, arr_ok32, arr_oku, ia_ok, bt_ok, EI_ok, LI_ok, h1, Int.lt_irrefl]
  rfl
 ·intro rec s x r _ h0 h1 hx hl hr
  simp only [spec_kindAt.b0]
  refine ln_ok fun hB => ?_
  simp (disch := first | assumption | omega | (simp; done) | (simp; omega)) only [if_true, if_false, reduceIte, lv, lj, ln_at, cn_t, cn_f, cn_tf, cn_ft, cn_xx, gd_ok, arr_ok, arr_ok8, arr_ok32, arr_oku, ia_ok, bt_ok, EI_ok, LI_ok, h1, ixParam, hx, h0, hr _ trivial rfl, idxOr_cons]
  by_cases h : x.kind = a2 <;> simp [h]
end
noncomputable def impl_Signature_has_1.f (a1 : Str) (a2 : Int) (a3 : Bool) (a4 : Int) (a5 : Int)  (z_ : Bool) : Option (Bool) := (if a2 = a5 then (some true) else (some false))
section
variable {G : Glob} (hm : Hm) (hz : Hz) (hG : GF G)
include hm hz hG
theorem impl_Signature_has_1.w {a1 : Str} {a2 : Int} {a3 : Bool} {a4 : Int} {a5 : Int}  {r : Bool} (H : impl_Signature_has_1.f a1 a2 a3 a4 a5  r = some r) : FnOK pg G 189 [.agg [.str ⟨⟨a1⟩⟩, .int .i64 a2, .bool a3, .int .i64 a4], .ptr 0 0 1 0 0] (([⟨0, false, 1, .one [.int .i64 a5]⟩] : List EObj).map EObj.toObj) (.bool r) (([⟨0, false, 1, .one [.int .i64 a5]⟩] : List EObj).map EObj.toObj) false := by
 obtain ⟨V, hV⟩ := exV
 refine fn_ok (tt0 := tyG [ty3, ty4, ty9, ty65]) (fn := Tryz.f189) (body := bodyOf Tryz.f189) (ext := [⟨0, false, 1, .one [.int .i64 a5]⟩]) hm (tyG_sub ⟨tt3, tt4, tt9, tt65, trivial⟩) hz 0 true [] (by unfold pg; exact Tryz.func189) rfl rfl (by simp [Tryz.f189]) (by simp [EObj.toObj]) (by cbv) ?_
 intro A F hA hF
 unfold impl_Signature_has_1.f at H
 cbv
 repeat' (first
  | (cases H; exact fin_plain hF rfl rfl rfl rfl)
  | ((with_reducible first | refine s_lt H ?_ ?_ | refine s_le H ?_ ?_ | refine s_eq H ?_ ?_ | refine s_ne H ?_ ?_) <;> intro H <;> cbv)
  | with_reducible first
   | (refine s_lv H (fun _ H => ?_); cbv)
   | (refine indep_of hA ?_; cbv)
  | ((with_reducible refine side ?_); exact sideOf)
  | (with_reducible refine s_tk1 ?_; cbv)
  | (with_reducible refine And.intro ?_ ?_)
  | (intro ys hys; subst hys; rfl)
  | rfl)
theorem impl_Signature_has_1.ok {a1 : Str} {a2 : Int} {a3 : Bool} {a4 : Int} {a5 : Int}  : FnOK pg G 189 [.agg [.str ⟨⟨a1⟩⟩, .int .i64 a2, .bool a3, .int .i64 a4], .ptr 0 0 1 0 0] (([⟨0, false, 1, .one [.int .i64 a5]⟩] : List EObj).map EObj.toObj) (.bool (((fun (p : Param) (k : Int) => decide (p.kind = k)) ⟨a1, a2, a3, a4⟩ a5))) (([⟨0, false, 1, .one [.int .i64 a5]⟩] : List EObj).map EObj.toObj) false := by
 refine impl_Signature_has_1.w hm hz hG ?_
 simp only [impl_Signature_has_1.f]; split <;> simp [*]
end
noncomputable def slices_IndexFunc_Param_at_impl_Signature_has_1.b0 (a1 : List Param) (a2 : Int) (v3 : Int) (h0 : (Int) → Option (Int)) (z_ : Int) (x9 : Int) : Option (Int) := (if x9 < v3 then (ixParam a1 x9 fun v15 v16 v17 v18 => (cn ((fun (p : Param) (k : Int) => decide (p.kind = k)) (⟨v15, v16, v17, v18⟩) a2) (some x9) (arr .i64 (x9 + 1) fun v19 => (h0 v19)))) else (some ((-1))))
noncomputable def slices_IndexFunc_Param_at_impl_Signature_has_1.f (a1 : List Param) (a2 : Int) (h0 : Int → (Int) → Option (Int)) (z_ : Int) : Option (Int) := (ln' z_ (a1.length) fun v3 => (h0 v3 0))
section
variable {G : Glob} (hm : Hm) (hz : Hz) (hG : GF G)
include hm hz hG
set_option maxHeartbeats 8000000 in
theorem slices_IndexFunc_Param_at_impl_Signature_has_1.w {a1 : List Param} {a2 : Int} (inv0 : Int → (Int) → Prop) (mu0 : Int → (Int) → Nat) (res0 : Int → (Int) → Int) (hb0 : ∀ (v3 : Int), ∀ (s_ : Int), inv0 v3 s_ → slices_IndexFunc_Param_at_impl_Signature_has_1.b0 a1 a2 v3 (LI (inv0 v3) (mu0 v3) (res0 v3) (mu0 v3 s_)) (res0 v3 s_) s_ = some (res0 v3 s_)) {r : Int} (H : slices_IndexFunc_Param_at_impl_Signature_has_1.f a1 a2 (fun v3 => EI (inv0 v3) (mu0 v3) (res0 v3)) r = some r) : FnOK pg G 137 [.sl (a1.map eParam), .fn 189 [.ptr 0 0 1 0 0]] (([⟨0, false, 1, .one [.int .i64 a2]⟩] : List EObj).map EObj.toObj) (.int .i64 r) (([⟨0, false, 1, .one [.int .i64 a2]⟩] : List EObj).map EObj.toObj) false := by
 obtain ⟨V, hV⟩ := exV
 simp only [← hV.rParam]
 refine fn_ok (tt0 := tyG [ty3, ty4, ty9, ty27, ty65]) (fn := Tryz.f137) (body := bodyOf Tryz.f137) (ext := [⟨0, false, 1, .one [.int .i64 a2]⟩]) hm (tyG_sub ⟨tt3, tt4, tt9, tt27, tt65, trivial⟩) hz 0 true [] (by unfold pg; exact Tryz.func137) rfl rfl (by simp [Tryz.f137]) (by simp [EObj.toObj]) (by cbv) ?_
 intro A F hA hF
 unfold slices_IndexFunc_Param_at_impl_Signature_has_1.f at H
 cbv
 repeat' (first
  | (cases H; exact fin_plain hF rfl rfl rfl rfl)
  | ((with_reducible first | refine s_lt H ?_ ?_ | refine s_le H ?_ ?_ | refine s_eq H ?_ ?_ | refine s_ne H ?_ ?_) <;> intro H <;> cbv)
  | with_reducible first
   | (refine s_ln H lnOf (fun _ H => ?_); cbv)
   | (refine s_ixParam hV H (fun _ _ _ _ H => ?_); cbv)
   | (refine s_ar H (fun _ H => ?_); cbv)
   | (refine s_lv H (fun _ H => ?_); cbv)
   | (refine s_loop hA H (fun s h => hb0 _ s h) [0, 1, 7] [0] (fun e s => [(8, .int .i64 s)]) (fun e s => []) [] pin_spec_validParams nbOf ?_; rintro x9 H; unfold slices_IndexFunc_Param_at_impl_Signature_has_1.b0 at H; (try dsimp only at H); cbv)
  | (with_reducible refine s_next H pin_spec_validParams nbOf)
  | with_reducible first
   | (refine s_cb hA H (by (try simp only [hV.rParam]); with_unfolding_all exact impl_Signature_has_1.ok hm hz hG) rfl (fun H => ?_) (fun H => ?_) <;> cbv)
   | (refine s_rb (by assumption) H (by (try simp only [hV.rParam]); with_unfolding_all exact impl_Signature_has_1.ok hm hz hG) (fun H => ?_) (fun H => ?_) <;> cbv)
   | (refine callT_cl hA (fun U hU => ?_); cbv)
   | (refine indep_of hA ?_; cbv)
  | ((with_reducible refine side ?_); exact sideOf)
  | with_reducible first
   | (refine s_tkG hV.rParam hV.nParam ?_; cbv)
   | (refine s_tk1 ?_; cbv)
  | (with_reducible refine And.intro ?_ ?_)
  | ((with_reducible refine s_cn H (fun hb H => ?_) (fun hb H => ?_)) <;> (revert H; subst hb; intro H; cbv))
  | (intro ys hys; subst hys; rfl)
  | rfl)
theorem slices_IndexFunc_Param_at_impl_Signature_has_1.ok {a1 : List Param} {a2 : Int}  : FnOK pg G 137 [.sl (a1.map eParam), .fn 189 [.ptr 0 0 1 0 0]] (([⟨0, false, 1, .one [.int .i64 a2]⟩] : List EObj).map EObj.toObj) (.int .i64 (((fun (a1 : List Param) a2 => findI (fun x => decide (x.kind = a2)) a1) a1 a2))) (([⟨0, false, 1, .one [.int .i64 a2]⟩] : List EObj).map EObj.toObj) false := by
 have A := @slices_IndexFunc_Param_at_impl_Signature_has_1.w G hm hz hG a1 a2 (fun v => rgI (a1) (fun i => i) (fun _ => v = a1.length ∧ a1.length ≤ 9223372036854775807)) (fun v => rgM (a1) (fun i => i)) (fun v => rgR (a1) (fun i => i) (fun r i => idxOr i (r.findIdx? (fun x => decide (x.kind = a2))))) (fun v => rangeS (a1) (fun i => i) (fun _ => v = a1.length ∧ a1.length ≤ 9223372036854775807) (fun r i => idxOr i (r.findIdx? (fun x => decide (x.kind = a2)))) (fun rec z s => slices_IndexFunc_Param_at_impl_Signature_has_1.b0 a1 a2 v rec z s) ?_ ?_)
 ·exact A (ln_ok fun hB => EI_fin (rg0 ⟨rfl, hB⟩ rfl) rfl)
 ·rintro rec s ⟨rfl, hB⟩ h0 h1
  simp only [slices_IndexFunc_Param_at_impl_Signature_has_1.b0]
  simp (disch := first | assumption | omega | (simp; done) | (simp; omega)) only [if_true, if_false, reduceIte, lv, lj, ln_at, cn_t, cn_f, cn_tf, cn_ft, cn_xx, gd_ok, arr_ok, arr_ok8, arr_ok32, arr_oku, ia_ok, bt_ok, EI_ok, LI_ok, h1, Int.lt_irrefl]
  rfl
 ·rintro rec s x r ⟨rfl, hB⟩ h0 h1 hx hl hr
  simp only [slices_IndexFunc_Param_at_impl_Signature_has_1.b0]
  simp (disch := first | assumption | omega | (simp; done) | (simp; omega)) only [if_true, if_false, reduceIte, lv, lj, ln_at, cn_t, cn_f, cn_tf, cn_ft, cn_xx, gd_ok, arr_ok, arr_ok8, arr_ok32, arr_oku, ia_ok, bt_ok, EI_ok, LI_ok, h1, ixParam, hx, h0, idxOr_cons, hr _ ⟨rfl, hB⟩ rfl, cn_ite, eta_Param]
  split <;> rfl
end
def hasK (k : Int) (l : List Param) : Bool := l.any fun p => decide (p.kind = k)
noncomputable def slices_ContainsFunc_Param_at_impl_Signature_has_1.f (a1 : List Param) (a2 : Int)  (z_ : Bool) : Option (Bool) := (lv ((fun (a1 : List Param) a2 => findI (fun x => decide (x.kind = a2)) a1) a1 a2) fun v3 => (if 0 ≤ v3 then (some true) else (some false)))
section
variable {G : Glob} (hm : Hm) (hz : Hz) (hG : GF G)
include hm hz hG
theorem slices_ContainsFunc_Param_at_impl_Signature_has_1.w {a1 : List Param} {a2 : Int}  {r : Bool} (H : slices_ContainsFunc_Param_at_impl_Signature_has_1.f a1 a2  r = some r) : FnOK pg G 188 [.sl (a1.map eParam), .fn 189 [.ptr 0 0 1 0 0]] (([⟨0, false, 1, .one [.int .i64 a2]⟩] : List EObj).map EObj.toObj) (.bool r) (([⟨0, false, 1, .one [.int .i64 a2]⟩] : List EObj).map EObj.toObj) false := by
 obtain ⟨V, hV⟩ := exV
 simp only [← hV.rParam]
 refine fn_ok (tt0 := tyG [ty3, ty4, ty9, ty27, ty65]) (fn := Tryz.f188) (body := bodyOf Tryz.f188) (ext := [⟨0, false, 1, .one [.int .i64 a2]⟩]) hm (tyG_sub ⟨tt3, tt4, tt9, tt27, tt65, trivial⟩) hz 0 true [] (by unfold pg; exact Tryz.func188) rfl rfl (by simp [Tryz.f188]) (by simp [EObj.toObj]) (by cbv) ?_
 intro A F hA hF
 unfold slices_ContainsFunc_Param_at_impl_Signature_has_1.f at H
 cbv
 repeat' (first
  | (cases H; exact fin_plain hF rfl rfl rfl rfl)
  | ((with_reducible first | refine s_lt H ?_ ?_ | refine s_le H ?_ ?_ | refine s_eq H ?_ ?_ | refine s_ne H ?_ ?_) <;> intro H <;> cbv)
  | with_reducible first
   | (refine s_lv H (fun _ H => ?_); cbv)
   | (refine s_ci hA H (by (try simp only [hV.rParam]); with_unfolding_all exact slices_IndexFunc_Param_at_impl_Signature_has_1.ok hm hz hG) rfl (fun _ H => ?_); cbv)
   | (refine s_ri (by assumption) H (by (try simp only [hV.rParam]); with_unfolding_all exact slices_IndexFunc_Param_at_impl_Signature_has_1.ok hm hz hG) (fun _ H => ?_); cbv)
   | (refine callT_cl hA (fun U hU => ?_); cbv)
   | (refine indep_of hA ?_; cbv)
  | ((with_reducible refine side ?_); exact sideOf)
  | with_reducible first
   | (refine s_tkG hV.rParam hV.nParam ?_; cbv)
   | (refine s_tk1 ?_; cbv)
  | (with_reducible refine And.intro ?_ ?_)
  | (intro ys hys; subst hys; rfl)
  | rfl)
theorem slices_ContainsFunc_Param_at_impl_Signature_has_1.ok {a1 : List Param} {a2 : Int}  : FnOK pg G 188 [.sl (a1.map eParam), .fn 189 [.ptr 0 0 1 0 0]] (([⟨0, false, 1, .one [.int .i64 a2]⟩] : List EObj).map EObj.toObj) (.bool (((fun (l : List Param) (k : Int) => hasK k l) a1 a2))) (([⟨0, false, 1, .one [.int .i64 a2]⟩] : List EObj).map EObj.toObj) false := by
 refine slices_ContainsFunc_Param_at_impl_Signature_has_1.w hm hz hG ?_
 simp only [slices_ContainsFunc_Param_at_impl_Signature_has_1.f, lv, findI_nn, hasK]
 split <;> simp_all
end
noncomputable def impl_Signature_has.f (a1 : List Param) (a2 : Int)  (z_ : Bool) : Option (Bool) := (cn ((fun (l : List Param) (k : Int) => hasK k l) a1 a2) (some true) (some false))
section
variable {G : Glob} (hm : Hm) (hz : Hz) (hG : GF G)
include hm hz hG
theorem impl_Signature_has.w {a1 : List Param} {a2 : Int}  {r : Bool} (H : impl_Signature_has.f a1 a2  r = some r) : FnOK pg G 154 [.agg [.sl (a1.map eParam)], .int .i64 a2] [] (.bool r) [] false := by
 obtain ⟨V, hV⟩ := exV
 simp only [← hV.rParam]
 refine fn_ok (tt0 := tyG [ty3, ty4, ty9, ty27, ty29, ty65]) (fn := Tryz.f154) (body := bodyOf Tryz.f154) (ext := []) hm (tyG_sub ⟨tt3, tt4, tt9, tt27, tt29, tt65, trivial⟩) hz 0 true [] (by unfold pg; exact Tryz.func154) rfl rfl (by simp [Tryz.f154]) (by simp [EObj.toObj]) (by cbv) ?_
 intro A F hA hF
 unfold impl_Signature_has.f at H
 cbv
 repeat' (first
  | (cases H; exact fin_plain hF rfl rfl rfl rfl)
  | with_reducible first
   | (refine s_lv H (fun _ H => ?_); cbv)
   | (refine s_cb hA H (by (try simp only [hV.rParam]); with_unfolding_all exact slices_ContainsFunc_Param_at_impl_Signature_has_1.ok hm hz hG) rfl (fun H => ?_) (fun H => ?_) <;> cbv)
   | (refine s_rb (by assumption) H (by (try simp only [hV.rParam]); with_unfolding_all exact slices_ContainsFunc_Param_at_impl_Signature_has_1.ok hm hz hG) (fun H => ?_) (fun H => ?_) <;> cbv)
   | (refine callT_cl hA (fun U hU => ?_); cbv)
   | (refine indep_of hA ?_; cbv)
  | ((with_reducible refine side ?_); exact sideOf)
  | with_reducible first
   | (refine s_tkG hV.rParam hV.nParam ?_; cbv)
   | (refine s_tk1 ?_; cbv)
  | (with_reducible refine And.intro ?_ ?_)
  | ((with_reducible refine s_cn H (fun hb H => ?_) (fun hb H => ?_)) <;> (revert H; subst hb; intro H; cbv))
  | (intro ys hys; subst hys; rfl)
  | rfl)
theorem impl_Signature_has.ok {a1 : List Param} {a2 : Int}  : FnOK pg G 154 [.agg [.sl (a1.map eParam)], .int .i64 a2] [] (.bool (((fun (s : Sig) (k : Int) => hasK k s.params) ⟨a1⟩ a2))) [] false := by
 refine impl_Signature_has.w hm hz hG ?_
 simp only [impl_Signature_has.f]; cases hasK a2 a1 <;> rfl
end
def on_LParam {R : Type} (v : (List Param)) (f : (List Param) → Option R) : Option R := f v
section
variable {A : Bx} {P : Program} {G : Glob} {rg : Option Nat} {own : Nat} {o : Nat → EObj} {g : FuncId} {vs : List C} {sh : Bool} {K : C → List (Nat × EObj) → Prop} {R : Type} {r : R} {V : Vx} {v : (List Param)} {f : (List Param) → Option R}
theorem s_cLParam (hV : IsV V) (hA : IsBx true rg P G A) (H : on_LParam v f = some r) (hok : FnOK P G g vs [] (.sl (v.map eParam)) [] sh) (hc : vs.all closedArg = true) (h : ∀ c0, f c0 = some r → K (.sl (V.rParam c0)) []) : A.call own o g vs K := by
 refine callT_plain hA hok hc ?_
 have := h (v) H
 simp only [hV.rParam] at this
 exact this
variable {U : List C → List Nat → (C → List (Nat × EObj) → Prop) → Prop} {bs : List C} {tops : List Nat}
end
section
variable {G : Glob} (hm : Hm) (hz : Hz) (hG : GF G)
include hm hz hG
end
end Go.Proofs.YtchpopejojghmaaGreatDoor.M
