/- Searches. -/
import Derived.Test.YtchpopejojghmaaGreatDoorP1
set_option linter.unusedVariables false
set_option linter.unusedSimpArgs false
set_option linter.unusedSectionVars false
namespace Go.Proofs.YtchpopejojghmaaGreatDoor.M
open Go Go.Proofs
set_option maxRecDepth 100000
def findParam (l : List Param) (s : Str) : Int := findI (fun p => decide (p.name = s)) l
noncomputable def spec_findParam.b0 (a1 : List Param) (a2 : Str)  (h0 : (Int) → Option (Int)) (z_ : Int) (x9 : Int) : Option (Int) := (ln' z_ (a1.length) fun v16 => (if x9 < v16 then (ixParam a1 x9 fun v17 v18 v19 v20 => (if v17 = a2 then (some x9) else (arr .i64 (x9 + 1) fun v21 => (h0 v21)))) else (some ((-1)))))
noncomputable def spec_findParam.f (a1 : List Param) (a2 : Str) (h0 : (Int) → Option (Int)) (z_ : Int) : Option (Int) := (h0 0)
theorem pin_spec_findParam {e : ESt} {ns : List (Nat × Nat)} {ps : List (Nat × C)} {os : List (Nat × EObj)} (hs : pinPZ (pinZ e.o (os.map Prod.fst) ns) e.s ps := by first | (cbv <;> (repeat' (first | trivial | refine And.intro ?_ ?_)) <;> (first | rfl | assumption | omega | exact clParam hV _ | with_unfolding_all exact hV.nParam [] | with_unfolding_all exact (hV.nParam []).symm | with_unfolding_all exact hV.rParam _ | with_unfolding_all exact (hV.nParam _).trans (Eq.trans (by simp only [hV.nParam] at *; omega) (hV.nParam _).symm) | simp [closedCell])) | fail) (ho : ∀ B : (Nat → EObj) → List (List C) → List (List C) → Prop, (∀ o rows rows', rowsZ (pinZ o (os.map Prod.fst) ns) rows rows' → B o rows rows') → pinOZ (pinZ e.o (os.map Prod.fst) ns) B e.o ns os := by intro B hB; first | (cbv <;> (repeat' (first | trivial | refine And.intro ?_ ?_ | refine pin_same hB ?_ | refine pin_nil hB ?_ | refine pin_dirty hB (by assumption) (by assumption) ?_ ?_ | exact pinL_n | refine pinL_c ?_ ?_ | exact pzr rfl rfl rfl (nrParam hV _) (clParam hV _) | (refine pz_go ?_; cbv) | (refine pinL_go ?_; cbv))) <;> (first | exact clParam hV _ | with_unfolding_all exact hV.rParam _ | with_unfolding_all exact hV.nParam [] | with_unfolding_all exact (hV.nParam []).symm | assumption | omega | rfl | with_unfolding_all exact (hV.nParam _).trans (Eq.trans (by simp only [hV.nParam] at *; omega) (hV.nParam _).symm) | simp [closedCell])) | fail) : PinnedZ e ns ps os := ⟨hs, ho⟩
section
variable {G : Glob} (hm : Hm) (hz : Hz) (hG : GF G)
include hm hz hG
set_option maxHeartbeats 8000000 in
theorem spec_findParam.w {a1 : List Param} {a2 : Str} (inv0 : (Int) → Prop) (mu0 : (Int) → Nat) (res0 : (Int) → Int) (hb0 : ∀ (s_ : Int), inv0  s_ → spec_findParam.b0 a1 a2  (LI (inv0 ) (mu0 ) (res0 ) (mu0  s_)) (res0  s_) s_ = some (res0  s_)) {r : Int} (H : spec_findParam.f a1 a2 (EI (inv0 ) (mu0 ) (res0 )) r = some r) : FnOK pg G 164 [.sl (a1.map eParam), .str ⟨⟨a2⟩⟩] [] (.int .i64 r) [] false := by
 obtain ⟨V, hV⟩ := exV
 simp only [← hV.rParam]
 refine fn_ok (tt0 := tyG [ty3, ty4, ty9, ty27, ty65]) (fn := Tryz.f164) (body := bodyOf Tryz.f164) (ext := []) hm (tyG_sub ⟨tt3, tt4, tt9, tt27, tt65, trivial⟩) hz 0 true [] (by unfold pg; exact Tryz.func164) rfl rfl (by simp [Tryz.f164]) (by simp [EObj.toObj]) (by cbv) ?_
 intro A F hA hF
 unfold spec_findParam.f at H
 cbv
 repeat' (first
  | (cases H; exact fin_plain hF rfl rfl rfl rfl)
  | ((with_reducible first | refine s_lt H ?_ ?_ | refine s_le H ?_ ?_ | refine s_eq H ?_ ?_ | refine s_ne H ?_ ?_) <;> intro H <;> cbv)
  | with_reducible first
   | (refine s_ln H lnOf (fun _ H => ?_); cbv)
   | (refine s_ixParam hV H (fun _ _ _ _ H => ?_); cbv)
   | (refine s_ar H (fun _ H => ?_); cbv)
   | (refine s_lv H (fun _ H => ?_); cbv)
   | (refine s_loop hA H (fun s h => hb0  s h) [0, 1] [] (fun e s => [(5, .int .i64 s)]) (fun e s => []) [] pin_spec_findParam nbOf ?_; rintro x9 H; unfold spec_findParam.b0 at H; (try dsimp only at H); cbv)
  | (with_reducible refine s_next H pin_spec_findParam nbOf)
  | (with_reducible refine indep_of hA ?_; cbv)
  | ((with_reducible refine side ?_); exact sideOf)
  | with_reducible first
   | (refine s_tkG hV.rParam hV.nParam ?_; cbv)
   | (refine s_tk1 ?_; cbv)
  | (with_reducible refine And.intro ?_ ?_)
  | (intro ys hys; subst hys; rfl)
  | rfl)
theorem spec_findParam.ok {a1 : List Param} {a2 : Str}  : FnOK pg G 164 [.sl (a1.map eParam), .str ⟨⟨a2⟩⟩] [] (.int .i64 ((findParam a1 a2))) [] false := by
 have A := @spec_findParam.w G hm hz hG a1 a2 (rgI (a1) (fun i => i) (fun _ => True)) (rgM (a1) (fun i => i)) (rgR (a1) (fun i => i) (fun r i => idxOr i (r.findIdx? (fun p => decide (p.name = a2))))) (rangeS (a1) (fun i => i) (fun _ => True) (fun r i => idxOr i (r.findIdx? (fun p => decide (p.name = a2)))) (fun rec z s => spec_findParam.b0 a1 a2  rec z s) ?_ ?_)
 ·exact A (EI_fin (rg0 trivial rfl) rfl)
 ·intro rec s _ h0 h1
  simp only [spec_findParam.b0]
  refine ln_ok fun hB => ?_
  simp (disch := first | assumption | omega | (simp; done) | (simp; omega)) only [if_true, if_false, reduceIte, lv, lj, ln_at, cn_t, cn_f, cn_tf, cn_ft, cn_xx, gd_ok, arr_ok, arr_ok8, arr_ok32, arr_oku, ia_ok, bt_ok, EI_ok, LI_ok, h1, Int.lt_irrefl]
  rfl
 ·intro rec s x r _ h0 h1 hx hl hr
  simp only [spec_findParam.b0]
  refine ln_ok fun hB => ?_
  simp (disch := first | assumption | omega | (simp; done) | (simp; omega)) only [if_true, if_false, reduceIte, lv, lj, ln_at, cn_t, cn_f, cn_tf, cn_ft, cn_xx, gd_ok, arr_ok, arr_ok8, arr_ok32, arr_oku, ia_ok, bt_ok, EI_ok, LI_ok, h1, ixParam, hx, h0, hr _ trivial rfl, idxOr_cons]
  by_cases h : x.name = a2 <;> simp [h]
end
noncomputable def impl_find_1.f (a1 : Str) (a2 : Int) (a3 : Bool) (a4 : Int) (a5 : Str)  (z_ : Bool) : Option (Bool) := (if a1 = a5 then (some true) else (some false))
section
variable {G : Glob} (hm : Hm) (hz : Hz) (hG : GF G)
include hm hz hG
theorem impl_find_1.w {a1 : Str} {a2 : Int} {a3 : Bool} {a4 : Int} {a5 : Str}  {r : Bool} (H : impl_find_1.f a1 a2 a3 a4 a5  r = some r) : FnOK pg G 138 [.agg [.str ⟨⟨a1⟩⟩, .int .i64 a2, .bool a3, .int .i64 a4], .ptr 0 0 1 0 0] (([⟨0, false, 1, .one [.str ⟨⟨a5⟩⟩]⟩] : List EObj).map EObj.toObj) (.bool r) (([⟨0, false, 1, .one [.str ⟨⟨a5⟩⟩]⟩] : List EObj).map EObj.toObj) false := by
 obtain ⟨V, hV⟩ := exV
 refine fn_ok (tt0 := tyG [ty3, ty4, ty9, ty65]) (fn := Tryz.f138) (body := bodyOf Tryz.f138) (ext := [⟨0, false, 1, .one [.str ⟨⟨a5⟩⟩]⟩]) hm (tyG_sub ⟨tt3, tt4, tt9, tt65, trivial⟩) hz 0 true [] (by unfold pg; exact Tryz.func138) rfl rfl (by simp [Tryz.f138]) (by simp [EObj.toObj]) (by cbv) ?_
 intro A F hA hF
 unfold impl_find_1.f at H
 cbv
 repeat' (first
  | (cases H; exact fin_plain hF rfl rfl rfl rfl)
  | ((with_reducible first | refine s_lt H ?_ ?_ | refine s_le H ?_ ?_ | refine s_eq H ?_ ?_ | refine s_ne H ?_ ?_) <;> intro H <;> cbv)
  | with_reducible first
   | (refine s_lv H (fun _ H => ?_); cbv)
   | (refine indep_of hA ?_; cbv)
  | ((with_reducible refine side ?_); exact sideOf)
  | (with_reducible refine s_tk1 ?_; cbv)
  | (with_reducible refine And.intro ?_ ?_)
  | (intro ys hys; subst hys; rfl)
  | rfl)
theorem impl_find_1.ok {a1 : Str} {a2 : Int} {a3 : Bool} {a4 : Int} {a5 : Str}  : FnOK pg G 138 [.agg [.str ⟨⟨a1⟩⟩, .int .i64 a2, .bool a3, .int .i64 a4], .ptr 0 0 1 0 0] (([⟨0, false, 1, .one [.str ⟨⟨a5⟩⟩]⟩] : List EObj).map EObj.toObj) (.bool (((fun (p : Param) (s : Str) => decide (p.name = s)) ⟨a1, a2, a3, a4⟩ a5))) (([⟨0, false, 1, .one [.str ⟨⟨a5⟩⟩]⟩] : List EObj).map EObj.toObj) false := by
 refine impl_find_1.w hm hz hG ?_
 simp only [impl_find_1.f]; split <;> simp [*]
end
noncomputable def slices_IndexFunc_Param_at_impl_find_1.b0 (a1 : List Param) (a2 : Str) (v3 : Int) (h0 : (Int) → Option (Int)) (z_ : Int) (x9 : Int) : Option (Int) := (if x9 < v3 then (ixParam a1 x9 fun v15 v16 v17 v18 => (cn ((fun (p : Param) (s : Str) => decide (p.name = s)) (⟨v15, v16, v17, v18⟩) a2) (some x9) (arr .i64 (x9 + 1) fun v19 => (h0 v19)))) else (some ((-1))))
noncomputable def slices_IndexFunc_Param_at_impl_find_1.f (a1 : List Param) (a2 : Str) (h0 : Int → (Int) → Option (Int)) (z_ : Int) : Option (Int) := (ln' z_ (a1.length) fun v3 => (h0 v3 0))
section
variable {G : Glob} (hm : Hm) (hz : Hz) (hG : GF G)
include hm hz hG
set_option maxHeartbeats 8000000 in
theorem slices_IndexFunc_Param_at_impl_find_1.w {a1 : List Param} {a2 : Str} (inv0 : Int → (Int) → Prop) (mu0 : Int → (Int) → Nat) (res0 : Int → (Int) → Int) (hb0 : ∀ (v3 : Int), ∀ (s_ : Int), inv0 v3 s_ → slices_IndexFunc_Param_at_impl_find_1.b0 a1 a2 v3 (LI (inv0 v3) (mu0 v3) (res0 v3) (mu0 v3 s_)) (res0 v3 s_) s_ = some (res0 v3 s_)) {r : Int} (H : slices_IndexFunc_Param_at_impl_find_1.f a1 a2 (fun v3 => EI (inv0 v3) (mu0 v3) (res0 v3)) r = some r) : FnOK pg G 137 [.sl (a1.map eParam), .fn 138 [.ptr 0 0 1 0 0]] (([⟨0, false, 1, .one [.str ⟨⟨a2⟩⟩]⟩] : List EObj).map EObj.toObj) (.int .i64 r) (([⟨0, false, 1, .one [.str ⟨⟨a2⟩⟩]⟩] : List EObj).map EObj.toObj) false := by
 obtain ⟨V, hV⟩ := exV
 simp only [← hV.rParam]
 refine fn_ok (tt0 := tyG [ty3, ty4, ty9, ty27, ty65]) (fn := Tryz.f137) (body := bodyOf Tryz.f137) (ext := [⟨0, false, 1, .one [.str ⟨⟨a2⟩⟩]⟩]) hm (tyG_sub ⟨tt3, tt4, tt9, tt27, tt65, trivial⟩) hz 0 true [] (by unfold pg; exact Tryz.func137) rfl rfl (by simp [Tryz.f137]) (by simp [EObj.toObj]) (by cbv) ?_
 intro A F hA hF
 unfold slices_IndexFunc_Param_at_impl_find_1.f at H
 cbv
 repeat' (first
  | (cases H; exact fin_plain hF rfl rfl rfl rfl)
  | ((with_reducible first | refine s_lt H ?_ ?_ | refine s_le H ?_ ?_ | refine s_eq H ?_ ?_ | refine s_ne H ?_ ?_) <;> intro H <;> cbv)
  | with_reducible first
   | (refine s_ln H lnOf (fun _ H => ?_); cbv)
   | (refine s_ixParam hV H (fun _ _ _ _ H => ?_); cbv)
   | (refine s_ar H (fun _ H => ?_); cbv)
   | (refine s_lv H (fun _ H => ?_); cbv)
   | (refine s_loop hA H (fun s h => hb0 _ s h) [0, 1, 7] [0] (fun e s => [(8, .int .i64 s)]) (fun e s => []) [] pin_spec_findParam nbOf ?_; rintro x9 H; unfold slices_IndexFunc_Param_at_impl_find_1.b0 at H; (try dsimp only at H); cbv)
  | (with_reducible refine s_next H pin_spec_findParam nbOf)
  | with_reducible first
   | (refine s_cb hA H (by (try simp only [hV.rParam]); with_unfolding_all exact impl_find_1.ok hm hz hG) rfl (fun H => ?_) (fun H => ?_) <;> cbv)
   | (refine s_rb (by assumption) H (by (try simp only [hV.rParam]); with_unfolding_all exact impl_find_1.ok hm hz hG) (fun H => ?_) (fun H => ?_) <;> cbv)
   | (refine callT_cl hA (fun U hU => ?_); cbv)
   | (refine indep_of hA ?_; cbv)
  | ((with_reducible refine side ?_); exact sideOf)
  | with_reducible first
   | (refine s_tkG hV.rParam hV.nParam ?_; cbv)
   | (refine s_tk1 ?_; cbv)
  | (with_reducible refine And.intro ?_ ?_)
  | ((with_reducible refine s_cn H (fun hb H => ?_) (fun hb H => ?_)) <;> (revert H; subst hb; intro H; cbv))
  | (intro ys hys; subst hys; rfl)
  | rfl)
theorem slices_IndexFunc_Param_at_impl_find_1.ok {a1 : List Param} {a2 : Str}  : FnOK pg G 137 [.sl (a1.map eParam), .fn 138 [.ptr 0 0 1 0 0]] (([⟨0, false, 1, .one [.str ⟨⟨a2⟩⟩]⟩] : List EObj).map EObj.toObj) (.int .i64 (((fun (a1 : List Param) a2 => findI (fun x => decide (x.name = a2)) a1) a1 a2))) (([⟨0, false, 1, .one [.str ⟨⟨a2⟩⟩]⟩] : List EObj).map EObj.toObj) false := by
 have A := @slices_IndexFunc_Param_at_impl_find_1.w G hm hz hG a1 a2 (fun v => rgI (a1) (fun i => i) (fun _ => v = a1.length ∧ a1.length ≤ 9223372036854775807)) (fun v => rgM (a1) (fun i => i)) (fun v => rgR (a1) (fun i => i) (fun r i => idxOr i (r.findIdx? (fun x => decide (x.name = a2))))) (fun v => rangeS (a1) (fun i => i) (fun _ => v = a1.length ∧ a1.length ≤ 9223372036854775807) (fun r i => idxOr i (r.findIdx? (fun x => decide (x.name = a2)))) (fun rec z s => slices_IndexFunc_Param_at_impl_find_1.b0 a1 a2 v rec z s) ?_ ?_)
 ·exact A (ln_ok fun hB => EI_fin (rg0 ⟨rfl, hB⟩ rfl) rfl)
 ·rintro rec s ⟨rfl, hB⟩ h0 h1
  simp only [slices_IndexFunc_Param_at_impl_find_1.b0]
  simp (disch := first | assumption | omega | (simp; done) | (simp; omega)) only [if_true, if_false, reduceIte, lv, lj, ln_at, cn_t, cn_f, cn_tf, cn_ft, cn_xx, gd_ok, arr_ok, arr_ok8, arr_ok32, arr_oku, ia_ok, bt_ok, EI_ok, LI_ok, h1, Int.lt_irrefl]
  rfl
 ·rintro rec s x r ⟨rfl, hB⟩ h0 h1 hx hl hr
  simp only [slices_IndexFunc_Param_at_impl_find_1.b0]
  simp (disch := first | assumption | omega | (simp; done) | (simp; omega)) only [if_true, if_false, reduceIte, lv, lj, ln_at, cn_t, cn_f, cn_tf, cn_ft, cn_xx, gd_ok, arr_ok, arr_ok8, arr_ok32, arr_oku, ia_ok, bt_ok, EI_ok, LI_ok, h1, ixParam, hx, h0, idxOr_cons, hr _ ⟨rfl, hB⟩ rfl, cn_ite, eta_Param]
  split <;> rfl
end
noncomputable def impl_find.f (a1 : List Param) (a2 : Str)  (z_ : Int) : Option (Int) := (lv ((fun (a1 : List Param) a2 => findI (fun x => decide (x.name = a2)) a1) a1 a2) fun v3 => (some v3))
section
variable {G : Glob} (hm : Hm) (hz : Hz) (hG : GF G)
include hm hz hG
theorem impl_find.w {a1 : List Param} {a2 : Str}  {r : Int} (H : impl_find.f a1 a2  r = some r) : FnOK pg G 90 [.sl (a1.map eParam), .str ⟨⟨a2⟩⟩] [] (.int .i64 r) [] false := by
 obtain ⟨V, hV⟩ := exV
 simp only [← hV.rParam]
 refine fn_ok (tt0 := tyG [ty3, ty4, ty9, ty27, ty65]) (fn := Tryz.f90) (body := bodyOf Tryz.f90) (ext := []) hm (tyG_sub ⟨tt3, tt4, tt9, tt27, tt65, trivial⟩) hz 0 true [] (by unfold pg; exact Tryz.func90) rfl rfl (by simp [Tryz.f90]) (by simp [EObj.toObj]) (by cbv) ?_
 intro A F hA hF
 unfold impl_find.f at H
 cbv
 repeat' (first
  | (cases H; exact fin_plain hF rfl rfl rfl rfl)
  | with_reducible first
   | (refine s_lv H (fun _ H => ?_); cbv)
   | (refine s_ci hA H (by (try simp only [hV.rParam]); with_unfolding_all exact slices_IndexFunc_Param_at_impl_find_1.ok hm hz hG) rfl (fun _ H => ?_); cbv)
   | (refine s_ri (by assumption) H (by (try simp only [hV.rParam]); with_unfolding_all exact slices_IndexFunc_Param_at_impl_find_1.ok hm hz hG) (fun _ H => ?_); cbv)
   | (refine callT_cl hA (fun U hU => ?_); cbv)
   | (refine indep_of hA ?_; cbv)
  | ((with_reducible refine side ?_); exact sideOf)
  | with_reducible first
   | (refine s_tkG hV.rParam hV.nParam ?_; cbv)
   | (refine s_tk1 ?_; cbv)
  | (with_reducible refine And.intro ?_ ?_)
  | (intro ys hys; subst hys; rfl)
  | rfl)
theorem impl_find.ok {a1 : List Param} {a2 : Str}  : FnOK pg G 90 [.sl (a1.map eParam), .str ⟨⟨a2⟩⟩] [] (.int .i64 ((findParam a1 a2))) [] false := by
 exact impl_find.w hm hz hG rfl
end
def areValues (l : List Int) : Bool := l.all isValue
theorem any_not {α : Type} (p : α → Bool) (l : List α) : (!l.any fun x => !p x) = l.all p := by induction l with | nil => rfl | cons x r ih => simp [← ih]
noncomputable def impl_areValues_1.f (a1 : Int)  (z_ : Bool) : Option (Bool) := (cn (isValue a1) (some false) (some true))
section
variable {G : Glob} (hm : Hm) (hz : Hz) (hG : GF G)
include hm hz hG
theorem impl_areValues_1.w {a1 : Int}  {r : Bool} (H : impl_areValues_1.f a1  r = some r) : FnOK pg G 162 [.int .i64 a1] [] (.bool r) [] false := by
 obtain ⟨V, hV⟩ := exV
 refine fn_ok (tt0 := tyG [ty3, ty4]) (fn := Tryz.f162) (body := bodyOf Tryz.f162) (ext := []) hm (tyG_sub ⟨tt3, tt4, trivial⟩) hz 0 true [] (by unfold pg; exact Tryz.func162) rfl rfl (by simp [Tryz.f162]) (by simp [EObj.toObj]) (by cbv) ?_
 intro A F hA hF
 unfold impl_areValues_1.f at H
 cbv
 repeat' (first
  | (cases H; exact fin_plain hF rfl rfl rfl rfl)
  | with_reducible first
   | (refine s_lv H (fun _ H => ?_); cbv)
   | (refine s_cb hA H (by with_unfolding_all exact impl_isValue.ok hm hz hG) rfl (fun H => ?_) (fun H => ?_) <;> cbv)
   | (refine indep_of hA ?_; cbv)
  | ((with_reducible refine side ?_); exact sideOf)
  | (with_reducible refine s_tk1 ?_; cbv)
  | (with_reducible refine And.intro ?_ ?_)
  | ((with_reducible refine s_cn H (fun hb H => ?_) (fun hb H => ?_)) <;> (revert H; subst hb; intro H; cbv))
  | (intro ys hys; subst hys; rfl)
  | rfl)
theorem impl_areValues_1.ok {a1 : Int}  : FnOK pg G 162 [.int .i64 a1] [] (.bool (((fun (n : Int) => !isValue n) a1))) [] false := by
 refine impl_areValues_1.w hm hz hG ?_
 simp only [impl_areValues_1.f]; cases isValue a1 <;> rfl
end
noncomputable def slices_IndexFunc_int_at_impl_areValues_1.b0 (a1 : List Int) (v2 : Int) (h0 : (Int) → Option (Int)) (z_ : Int) (x5 : Int) : Option (Int) := (if x5 < v2 then (ixI a1 x5 fun v8 => (cn ((fun (n : Int) => !isValue n) v8) (some x5) (arr .i64 (x5 + 1) fun v9 => (h0 v9)))) else (some ((-1))))
noncomputable def slices_IndexFunc_int_at_impl_areValues_1.f (a1 : List Int) (h0 : Int → (Int) → Option (Int)) (z_ : Int) : Option (Int) := (ln' z_ (a1.length) fun v2 => (h0 v2 0))
theorem pin_slices_IndexFunc_int_at_impl_areValues_1 {e : ESt} {ns : List (Nat × Nat)} {ps : List (Nat × C)} {os : List (Nat × EObj)} (hs : pinPZ (pinZ e.o (os.map Prod.fst) ns) e.s ps := by first | (cbv <;> (repeat' (first | trivial | refine And.intro ?_ ?_)) <;> (first | rfl | assumption | omega | exact clI hV _ | with_unfolding_all exact hV.nI [] | with_unfolding_all exact (hV.nI []).symm | with_unfolding_all exact hV.rI _ | with_unfolding_all exact (hV.nI _).trans (Eq.trans (by simp only [hV.nI] at *; omega) (hV.nI _).symm) | simp [closedCell])) | fail) (ho : ∀ B : (Nat → EObj) → List (List C) → List (List C) → Prop, (∀ o rows rows', rowsZ (pinZ o (os.map Prod.fst) ns) rows rows' → B o rows rows') → pinOZ (pinZ e.o (os.map Prod.fst) ns) B e.o ns os := by intro B hB; first | (cbv <;> (repeat' (first | trivial | refine And.intro ?_ ?_ | refine pin_same hB ?_ | refine pin_nil hB ?_ | refine pin_dirty hB (by assumption) (by assumption) ?_ ?_ | exact pinL_n | refine pinL_c ?_ ?_ | exact pzr rfl rfl rfl (nrI hV _) (clI hV _) | (refine pz_go ?_; cbv) | (refine pinL_go ?_; cbv))) <;> (first | exact clI hV _ | with_unfolding_all exact hV.rI _ | with_unfolding_all exact hV.nI [] | with_unfolding_all exact (hV.nI []).symm | assumption | omega | rfl | with_unfolding_all exact (hV.nI _).trans (Eq.trans (by simp only [hV.nI] at *; omega) (hV.nI _).symm) | simp [closedCell])) | fail) : PinnedZ e ns ps os := ⟨hs, ho⟩
section
variable {G : Glob} (hm : Hm) (hz : Hz) (hG : GF G)
include hm hz hG
set_option maxHeartbeats 8000000 in
theorem slices_IndexFunc_int_at_impl_areValues_1.w {a1 : List Int} (inv0 : Int → (Int) → Prop) (mu0 : Int → (Int) → Nat) (res0 : Int → (Int) → Int) (hb0 : ∀ (v2 : Int), ∀ (s_ : Int), inv0 v2 s_ → slices_IndexFunc_int_at_impl_areValues_1.b0 a1 v2 (LI (inv0 v2) (mu0 v2) (res0 v2) (mu0 v2 s_)) (res0 v2 s_) s_ = some (res0 v2 s_)) {r : Int} (H : slices_IndexFunc_int_at_impl_areValues_1.f a1 (fun v2 => EI (inv0 v2) (mu0 v2) (res0 v2)) r = some r) : FnOK pg G 125 [.sl (a1.map eI), .fn 162 []] [] (.int .i64 r) [] false := by
 obtain ⟨V, hV⟩ := exV
 simp only [← hV.rI]
 refine fn_ok (tt0 := tyG [ty3, ty4, ty39]) (fn := Tryz.f125) (body := bodyOf Tryz.f125) (ext := []) hm (tyG_sub ⟨tt3, tt4, tt39, trivial⟩) hz 0 true [] (by unfold pg; exact Tryz.func125) rfl rfl (by simp [Tryz.f125]) (by simp [EObj.toObj]) (by cbv) ?_
 intro A F hA hF
 unfold slices_IndexFunc_int_at_impl_areValues_1.f at H
 cbv
 repeat' (first
  | (cases H; exact fin_plain hF rfl rfl rfl rfl)
  | ((with_reducible first | refine s_lt H ?_ ?_ | refine s_le H ?_ ?_ | refine s_eq H ?_ ?_ | refine s_ne H ?_ ?_) <;> intro H <;> cbv)
  | with_reducible first
   | (refine s_ln H lnOf (fun _ H => ?_); cbv)
   | (refine s_ixI hV H (fun _ H => ?_); cbv)
   | (refine s_ar H (fun _ H => ?_); cbv)
   | (refine s_lv H (fun _ H => ?_); cbv)
   | (refine s_loop hA H (fun s h => hb0 _ s h) [0, 1, 7] [] (fun e s => [(8, .int .i64 s)]) (fun e s => []) [] pin_slices_IndexFunc_int_at_impl_areValues_1 nbOf ?_; rintro x5 H; unfold slices_IndexFunc_int_at_impl_areValues_1.b0 at H; (try dsimp only at H); cbv)
  | (with_reducible refine s_next H pin_slices_IndexFunc_int_at_impl_areValues_1 nbOf)
  | with_reducible first
   | (refine s_cb hA H (by (try simp only [hV.rI]); with_unfolding_all exact impl_areValues_1.ok hm hz hG) rfl (fun H => ?_) (fun H => ?_) <;> cbv)
   | (refine indep_of hA ?_; cbv)
  | ((with_reducible refine side ?_); exact sideOf)
  | with_reducible first
   | (refine s_tkG hV.rI hV.nI ?_; cbv)
   | (refine s_tk1 ?_; cbv)
  | (with_reducible refine And.intro ?_ ?_)
  | ((with_reducible refine s_cn H (fun hb H => ?_) (fun hb H => ?_)) <;> (revert H; subst hb; intro H; cbv))
  | (intro ys hys; subst hys; rfl)
  | rfl)
theorem slices_IndexFunc_int_at_impl_areValues_1.ok {a1 : List Int}  : FnOK pg G 125 [.sl (a1.map eI), .fn 162 []] [] (.int .i64 (((findI (fun x => !isValue x)) a1))) [] false := by
 have A := @slices_IndexFunc_int_at_impl_areValues_1.w G hm hz hG a1  (fun v => rgI (a1) (fun i => i) (fun _ => v = a1.length ∧ a1.length ≤ 9223372036854775807)) (fun v => rgM (a1) (fun i => i)) (fun v => rgR (a1) (fun i => i) (fun r i => idxOr i (r.findIdx? (fun x => !isValue x)))) (fun v => rangeS (a1) (fun i => i) (fun _ => v = a1.length ∧ a1.length ≤ 9223372036854775807) (fun r i => idxOr i (r.findIdx? (fun x => !isValue x))) (fun rec z s => slices_IndexFunc_int_at_impl_areValues_1.b0 a1 v rec z s) ?_ ?_)
 ·exact A (ln_ok fun hB => EI_fin (rg0 ⟨rfl, hB⟩ rfl) rfl)
 ·rintro rec s ⟨rfl, hB⟩ h0 h1
  simp only [slices_IndexFunc_int_at_impl_areValues_1.b0]
  simp (disch := first | assumption | omega | (simp; done) | (simp; omega)) only [if_true, if_false, reduceIte, lv, lj, ln_at, cn_t, cn_f, cn_tf, cn_ft, cn_xx, gd_ok, arr_ok, arr_ok8, arr_ok32, arr_oku, ia_ok, bt_ok, EI_ok, LI_ok, h1, Int.lt_irrefl]
  rfl
 ·rintro rec s x r ⟨rfl, hB⟩ h0 h1 hx hl hr
  simp only [slices_IndexFunc_int_at_impl_areValues_1.b0]
  simp (disch := first | assumption | omega | (simp; done) | (simp; omega)) only [if_true, if_false, reduceIte, lv, lj, ln_at, cn_t, cn_f, cn_tf, cn_ft, cn_xx, gd_ok, arr_ok, arr_ok8, arr_ok32, arr_oku, ia_ok, bt_ok, EI_ok, LI_ok, h1, ixI, hx, h0, idxOr_cons, hr _ ⟨rfl, hB⟩ rfl, cn_ite]
  split <;> rfl
end
noncomputable def slices_ContainsFunc_int_at_impl_areValues_1.f (a1 : List Int)  (z_ : Bool) : Option (Bool) := (lv ((findI (fun x => !isValue x)) a1) fun v2 => (if 0 ≤ v2 then (some true) else (some false)))
section
variable {G : Glob} (hm : Hm) (hz : Hz) (hG : GF G)
include hm hz hG
theorem slices_ContainsFunc_int_at_impl_areValues_1.w {a1 : List Int}  {r : Bool} (H : slices_ContainsFunc_int_at_impl_areValues_1.f a1  r = some r) : FnOK pg G 75 [.sl (a1.map eI), .fn 162 []] [] (.bool r) [] false := by
 obtain ⟨V, hV⟩ := exV
 simp only [← hV.rI]
 refine fn_ok (tt0 := tyG [ty3, ty4, ty39]) (fn := Tryz.f75) (body := bodyOf Tryz.f75) (ext := []) hm (tyG_sub ⟨tt3, tt4, tt39, trivial⟩) hz 0 true [] (by unfold pg; exact Tryz.func75) rfl rfl (by simp [Tryz.f75]) (by simp [EObj.toObj]) (by cbv) ?_
 intro A F hA hF
 unfold slices_ContainsFunc_int_at_impl_areValues_1.f at H
 cbv
 repeat' (first
  | (cases H; exact fin_plain hF rfl rfl rfl rfl)
  | ((with_reducible first | refine s_lt H ?_ ?_ | refine s_le H ?_ ?_ | refine s_eq H ?_ ?_ | refine s_ne H ?_ ?_) <;> intro H <;> cbv)
  | with_reducible first
   | (refine s_lv H (fun _ H => ?_); cbv)
   | (refine s_ci hA H (by (try simp only [hV.rI]); with_unfolding_all exact slices_IndexFunc_int_at_impl_areValues_1.ok hm hz hG) rfl (fun _ H => ?_); cbv)
   | (refine indep_of hA ?_; cbv)
  | ((with_reducible refine side ?_); exact sideOf)
  | with_reducible first
   | (refine s_tkG hV.rI hV.nI ?_; cbv)
   | (refine s_tk1 ?_; cbv)
  | (with_reducible refine And.intro ?_ ?_)
  | (intro ys hys; subst hys; rfl)
  | rfl)
theorem slices_ContainsFunc_int_at_impl_areValues_1.ok {a1 : List Int}  : FnOK pg G 75 [.sl (a1.map eI), .fn 162 []] [] (.bool (((fun (l : List Int) => l.any (fun n => !isValue n)) a1))) [] false := by
 refine slices_ContainsFunc_int_at_impl_areValues_1.w hm hz hG ?_
 simp only [slices_ContainsFunc_int_at_impl_areValues_1.f, lv, findI_nn]
 split <;> simp_all
end
noncomputable def impl_areValues.f (a1 : List Int)  (z_ : Bool) : Option (Bool) := (cn ((fun (l : List Int) => l.any (fun n => !isValue n)) a1) (some false) (some true))
section
variable {G : Glob} (hm : Hm) (hz : Hz) (hG : GF G)
include hm hz hG
theorem impl_areValues.w {a1 : List Int}  {r : Bool} (H : impl_areValues.f a1  r = some r) : FnOK pg G 124 [.sl (a1.map eI)] [] (.bool r) [] false := by
 obtain ⟨V, hV⟩ := exV
 simp only [← hV.rI]
 refine fn_ok (tt0 := tyG [ty3, ty4, ty39]) (fn := Tryz.f124) (body := bodyOf Tryz.f124) (ext := []) hm (tyG_sub ⟨tt3, tt4, tt39, trivial⟩) hz 0 true [] (by unfold pg; exact Tryz.func124) rfl rfl (by simp [Tryz.f124]) (by simp [EObj.toObj]) (by cbv) ?_
 intro A F hA hF
 unfold impl_areValues.f at H
 cbv
 repeat' (first
  | (cases H; exact fin_plain hF rfl rfl rfl rfl)
  | with_reducible first
   | (refine s_lv H (fun _ H => ?_); cbv)
   | (refine s_cb hA H (by (try simp only [hV.rI]); with_unfolding_all exact slices_ContainsFunc_int_at_impl_areValues_1.ok hm hz hG) rfl (fun H => ?_) (fun H => ?_) <;> cbv)
   | (refine indep_of hA ?_; cbv)
  | ((with_reducible refine side ?_); exact sideOf)
  | with_reducible first
   | (refine s_tkG hV.rI hV.nI ?_; cbv)
   | (refine s_tk1 ?_; cbv)
  | (with_reducible refine And.intro ?_ ?_)
  | ((with_reducible refine s_cn H (fun hb H => ?_) (fun hb H => ?_)) <;> (revert H; subst hb; intro H; cbv))
  | (intro ys hys; subst hys; rfl)
  | rfl)
theorem impl_areValues.ok {a1 : List Int}  : FnOK pg G 124 [.sl (a1.map eI)] [] (.bool ((areValues a1))) [] false := by
 refine impl_areValues.w hm hz hG ?_
 simp only [impl_areValues.f, areValues, ← any_not]; cases a1.any (fun n => !isValue n) <;> rfl
end
end Go.Proofs.YtchpopejojghmaaGreatDoor.M
