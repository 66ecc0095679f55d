/- Which parameter takes a name; what the parameters get by places. -/
import Derived.Test.YtchpopejojghmaaGreatDoorV1
set_option linter.unusedVariables false
set_option linter.unusedSimpArgs false
set_option linter.unusedSectionVars false
namespace Go.Proofs.YtchpopejojghmaaGreatDoor.M
open Go Go.Proofs
set_option maxRecDepth 100000
noncomputable def impl_Param_named.f (a1 : Str) (a2 : Int) (a3 : Bool) (a4 : Int)  (z_ : Bool) : Option (Bool) := (if a2 = 1 then (some true) else (if a2 = 3 then (some true) else (some false)))
section
variable {G : Glob} (hm : Hm) (hz : Hz) (hG : GF G)
include hm hz hG
theorem impl_Param_named.w {a1 : Str} {a2 : Int} {a3 : Bool} {a4 : Int}  {r : Bool} (H : impl_Param_named.f a1 a2 a3 a4  r = some r) : FnOK pg G 167 [.agg [.str ⟨⟨a1⟩⟩, .int .i64 a2, .bool a3, .int .i64 a4]] [] (.bool r) [] false := by
 obtain ⟨V, hV⟩ := exV
 refine fn_ok (tt0 := tyG [ty3, ty4, ty9, ty65]) (fn := Tryz.f167) (body := bodyOf Tryz.f167) (ext := []) hm (tyG_sub ⟨tt3, tt4, tt9, tt65, trivial⟩) hz 0 true [] (by unfold pg; exact Tryz.func167) rfl rfl (by simp [Tryz.f167]) (by simp [EObj.toObj]) (by cbv) ?_
 intro A F hA hF
 unfold impl_Param_named.f at H
 cbv
 repeat' (first
  | (cases H; exact fin_plain hF rfl rfl rfl rfl)
  | ((with_reducible first | refine s_lt H ?_ ?_ | refine s_le H ?_ ?_ | refine s_eq H ?_ ?_ | refine s_ne H ?_ ?_) <;> intro H <;> cbv)
  | with_reducible first
   | (refine s_lv H (fun _ H => ?_); cbv)
   | (refine indep_of hA ?_; cbv)
  | ((with_reducible refine side ?_); exact sideOf)
  | (with_reducible refine s_tk1 ?_; cbv)
  | (with_reducible refine And.intro ?_ ?_)
  | (intro ys hys; subst hys; rfl)
  | rfl)
theorem impl_Param_named.ok {a1 : Str} {a2 : Int} {a3 : Bool} {a4 : Int}  : FnOK pg G 167 [.agg [.str ⟨⟨a1⟩⟩, .int .i64 a2, .bool a3, .int .i64 a4]] [] (.bool ((namedP ⟨a1, a2, a3, a4⟩))) [] false := by
 refine impl_Param_named.w hm hz hG ?_
 simp only [impl_Param_named.f, namedP]; split <;> (try split) <;> simp [*]
end
def kind4P (p : Param) : Bool := decide (p.kind = 4)
noncomputable def impl_Signature_takes_1.f (a1 : Str) (a2 : Int) (a3 : Bool) (a4 : Int)  (z_ : Bool) : Option (Bool) := (if a2 = 4 then (some true) else (some false))
section
variable {G : Glob} (hm : Hm) (hz : Hz) (hG : GF G)
include hm hz hG
theorem impl_Signature_takes_1.w {a1 : Str} {a2 : Int} {a3 : Bool} {a4 : Int}  {r : Bool} (H : impl_Signature_takes_1.f a1 a2 a3 a4  r = some r) : FnOK pg G 168 [.agg [.str ⟨⟨a1⟩⟩, .int .i64 a2, .bool a3, .int .i64 a4]] [] (.bool r) [] false := by
 obtain ⟨V, hV⟩ := exV
 refine fn_ok (tt0 := tyG [ty3, ty4, ty9, ty65]) (fn := Tryz.f168) (body := bodyOf Tryz.f168) (ext := []) hm (tyG_sub ⟨tt3, tt4, tt9, tt65, trivial⟩) hz 0 true [] (by unfold pg; exact Tryz.func168) rfl rfl (by simp [Tryz.f168]) (by simp [EObj.toObj]) (by cbv) ?_
 intro A F hA hF
 unfold impl_Signature_takes_1.f at H
 cbv
 repeat' (first
  | (cases H; exact fin_plain hF rfl rfl rfl rfl)
  | ((with_reducible first | refine s_lt H ?_ ?_ | refine s_le H ?_ ?_ | refine s_eq H ?_ ?_ | refine s_ne H ?_ ?_) <;> intro H <;> cbv)
  | with_reducible first
   | (refine s_lv H (fun _ H => ?_); cbv)
   | (refine indep_of hA ?_; cbv)
  | ((with_reducible refine side ?_); exact sideOf)
  | (with_reducible refine s_tk1 ?_; cbv)
  | (with_reducible refine And.intro ?_ ?_)
  | (intro ys hys; subst hys; rfl)
  | rfl)
theorem impl_Signature_takes_1.ok {a1 : Str} {a2 : Int} {a3 : Bool} {a4 : Int}  : FnOK pg G 168 [.agg [.str ⟨⟨a1⟩⟩, .int .i64 a2, .bool a3, .int .i64 a4]] [] (.bool ((kind4P ⟨a1, a2, a3, a4⟩))) [] false := by
 refine impl_Signature_takes_1.w hm hz hG ?_
 simp only [impl_Signature_takes_1.f, kind4P]; split <;> simp [*]
end
noncomputable def slices_IndexFunc_Param_at_impl_Signature_takes_1.b0 (a1 : List Param) (v2 : Int) (h0 : (Int) → Option (Int)) (z_ : Int) (x8 : Int) : Option (Int) := (if x8 < v2 then (ixParam a1 x8 fun v14 v15 v16 v17 => (cn (kind4P (⟨v14, v15, v16, v17⟩)) (some x8) (arr .i64 (x8 + 1) fun v18 => (h0 v18)))) else (some ((-1))))
noncomputable def slices_IndexFunc_Param_at_impl_Signature_takes_1.f (a1 : List Param) (h0 : Int → (Int) → Option (Int)) (z_ : Int) : Option (Int) := (ln' z_ (a1.length) fun v2 => (h0 v2 0))
theorem pin_slices_IndexFunc_Param_at_impl_Signature_takes_1 {e : ESt} {ns : List (Nat × Nat)} {ps : List (Nat × C)} {os : List (Nat × EObj)} (hs : pinPZ (pinZ e.o (os.map Prod.fst) ns) e.s ps := by first | (cbv <;> (repeat' (first | trivial | refine And.intro ?_ ?_)) <;> (first | rfl | assumption | omega | exact clParam hV _ | with_unfolding_all exact hV.nParam [] | with_unfolding_all exact (hV.nParam []).symm | with_unfolding_all exact hV.rParam _ | with_unfolding_all exact (hV.nParam _).trans (Eq.trans (by simp only [hV.nParam] at *; omega) (hV.nParam _).symm) | simp [closedCell])) | fail) (ho : ∀ B : (Nat → EObj) → List (List C) → List (List C) → Prop, (∀ o rows rows', rowsZ (pinZ o (os.map Prod.fst) ns) rows rows' → B o rows rows') → pinOZ (pinZ e.o (os.map Prod.fst) ns) B e.o ns os := by intro B hB; first | (cbv <;> (repeat' (first | trivial | refine And.intro ?_ ?_ | refine pin_same hB ?_ | refine pin_nil hB ?_ | refine pin_dirty hB (by assumption) (by assumption) ?_ ?_ | exact pinL_n | refine pinL_c ?_ ?_ | exact pzr rfl rfl rfl (nrParam hV _) (clParam hV _) | (refine pz_go ?_; cbv) | (refine pinL_go ?_; cbv))) <;> (first | exact clParam hV _ | with_unfolding_all exact hV.rParam _ | with_unfolding_all exact hV.nParam [] | with_unfolding_all exact (hV.nParam []).symm | assumption | omega | rfl | with_unfolding_all exact (hV.nParam _).trans (Eq.trans (by simp only [hV.nParam] at *; omega) (hV.nParam _).symm) | simp [closedCell])) | fail) : PinnedZ e ns ps os := ⟨hs, ho⟩
section
variable {G : Glob} (hm : Hm) (hz : Hz) (hG : GF G)
include hm hz hG
set_option maxHeartbeats 8000000 in
theorem slices_IndexFunc_Param_at_impl_Signature_takes_1.w {a1 : List Param} (inv0 : Int → (Int) → Prop) (mu0 : Int → (Int) → Nat) (res0 : Int → (Int) → Int) (hb0 : ∀ (v2 : Int), ∀ (s_ : Int), inv0 v2 s_ → slices_IndexFunc_Param_at_impl_Signature_takes_1.b0 a1 v2 (LI (inv0 v2) (mu0 v2) (res0 v2) (mu0 v2 s_)) (res0 v2 s_) s_ = some (res0 v2 s_)) {r : Int} (H : slices_IndexFunc_Param_at_impl_Signature_takes_1.f a1 (fun v2 => EI (inv0 v2) (mu0 v2) (res0 v2)) r = some r) : FnOK pg G 137 [.sl (a1.map eParam), .fn 168 []] [] (.int .i64 r) [] false := by
 obtain ⟨V, hV⟩ := exV
 simp only [← hV.rParam]
 refine fn_ok (tt0 := tyG [ty3, ty4, ty9, ty27, ty65]) (fn := Tryz.f137) (body := bodyOf Tryz.f137) (ext := []) hm (tyG_sub ⟨tt3, tt4, tt9, tt27, tt65, trivial⟩) hz 0 true [] (by unfold pg; exact Tryz.func137) rfl rfl (by simp [Tryz.f137]) (by simp [EObj.toObj]) (by cbv) ?_
 intro A F hA hF
 unfold slices_IndexFunc_Param_at_impl_Signature_takes_1.f at H
 cbv
 repeat' (first
  | (cases H; exact fin_plain hF rfl rfl rfl rfl)
  | ((with_reducible first | refine s_lt H ?_ ?_ | refine s_le H ?_ ?_ | refine s_eq H ?_ ?_ | refine s_ne H ?_ ?_) <;> intro H <;> cbv)
  | with_reducible first
   | (refine s_ln H lnOf (fun _ H => ?_); cbv)
   | (refine s_ixParam hV H (fun _ _ _ _ H => ?_); cbv)
   | (refine s_ar H (fun _ H => ?_); cbv)
   | (refine s_lv H (fun _ H => ?_); cbv)
   | (refine s_loop hA H (fun s h => hb0 _ s h) [0, 1, 7] [] (fun e s => [(8, .int .i64 s)]) (fun e s => []) [] pin_slices_IndexFunc_Param_at_impl_Signature_takes_1 nbOf ?_; rintro x8 H; unfold slices_IndexFunc_Param_at_impl_Signature_takes_1.b0 at H; (try dsimp only at H); cbv)
  | (with_reducible refine s_next H pin_slices_IndexFunc_Param_at_impl_Signature_takes_1 nbOf)
  | with_reducible first
   | (refine s_cb hA H (by (try simp only [hV.rParam]); with_unfolding_all exact impl_Signature_takes_1.ok hm hz hG) rfl (fun H => ?_) (fun H => ?_) <;> cbv)
   | (refine indep_of hA ?_; cbv)
  | ((with_reducible refine side ?_); exact sideOf)
  | with_reducible first
   | (refine s_tkG hV.rParam hV.nParam ?_; cbv)
   | (refine s_tk1 ?_; cbv)
  | (with_reducible refine And.intro ?_ ?_)
  | ((with_reducible refine s_cn H (fun hb H => ?_) (fun hb H => ?_)) <;> (revert H; subst hb; intro H; cbv))
  | (intro ys hys; subst hys; rfl)
  | rfl)
theorem slices_IndexFunc_Param_at_impl_Signature_takes_1.ok {a1 : List Param}  : FnOK pg G 137 [.sl (a1.map eParam), .fn 168 []] [] (.int .i64 (((findI (fun x => kind4P x)) a1))) [] false := by
 have A := @slices_IndexFunc_Param_at_impl_Signature_takes_1.w G hm hz hG a1  (fun v => rgI (a1) (fun i => i) (fun _ => v = a1.length ∧ a1.length ≤ 9223372036854775807)) (fun v => rgM (a1) (fun i => i)) (fun v => rgR (a1) (fun i => i) (fun r i => idxOr i (r.findIdx? (fun x => kind4P x)))) (fun v => rangeS (a1) (fun i => i) (fun _ => v = a1.length ∧ a1.length ≤ 9223372036854775807) (fun r i => idxOr i (r.findIdx? (fun x => kind4P x))) (fun rec z s => slices_IndexFunc_Param_at_impl_Signature_takes_1.b0 a1 v rec z s) ?_ ?_)
 ·exact A (ln_ok fun hB => EI_fin (rg0 ⟨rfl, hB⟩ rfl) rfl)
 ·rintro rec s ⟨rfl, hB⟩ h0 h1
  simp only [slices_IndexFunc_Param_at_impl_Signature_takes_1.b0]
  simp (disch := first | assumption | omega | (simp; done) | (simp; omega)) only [if_true, if_false, reduceIte, lv, lj, ln_at, cn_t, cn_f, cn_tf, cn_ft, cn_xx, gd_ok, arr_ok, arr_ok8, arr_ok32, arr_oku, ia_ok, bt_ok, EI_ok, LI_ok, h1, Int.lt_irrefl]
  rfl
 ·rintro rec s x r ⟨rfl, hB⟩ h0 h1 hx hl hr
  simp only [slices_IndexFunc_Param_at_impl_Signature_takes_1.b0]
  simp (disch := first | assumption | omega | (simp; done) | (simp; omega)) only [if_true, if_false, reduceIte, lv, lj, ln_at, cn_t, cn_f, cn_tf, cn_ft, cn_xx, gd_ok, arr_ok, arr_ok8, arr_ok32, arr_oku, ia_ok, bt_ok, EI_ok, LI_ok, h1, ixParam, hx, h0, idxOr_cons, hr _ ⟨rfl, hB⟩ rfl, cn_ite, eta_Param]
  split <;> rfl
end
theorem find_k4 (l : List Param) : findI (fun x => kind4P x) l = kindAt l 4 := rfl
def takesV (ps : List Param) (name : Str) : Int :=
 if 0 ≤ findParam ps name ∧ (ps[(findParam ps name).toNat]?.any namedP) = true then findParam ps name else kindAt ps 4
theorem find_at {l : List Param} {s : Str} (h : 0 ≤ findParam l s) : ∃ x, l[(findParam l s).toNat]? = some x := by
 have := findI_range (fun p : Param => decide (p.name = s)) l
 unfold findParam at h ⊢
 exact ⟨_, List.getElem?_eq_getElem (by omega)⟩
noncomputable def impl_Signature_takes.f (a1 : List Param) (a2 : Str)  (z_ : Int) : Option (Int) := (lv (findParam a1 a2) fun v3 => (if 0 ≤ v3 then (ixParam a1 v3 fun v4 v5 v6 v7 => (cn (namedP (⟨v4, v5, v6, v7⟩)) (some v3) (lv ((findI (fun x => kind4P x)) a1) fun v8 => (some v8)))) else (lv ((findI (fun x => kind4P x)) a1) fun v9 => (some v9))))
section
variable {G : Glob} (hm : Hm) (hz : Hz) (hG : GF G)
include hm hz hG
theorem impl_Signature_takes.w {a1 : List Param} {a2 : Str}  {r : Int} (H : impl_Signature_takes.f a1 a2  r = some r) : FnOK pg G 132 [.agg [.sl (a1.map eParam)], .str ⟨⟨a2⟩⟩] [] (.int .i64 r) [] false := by
 obtain ⟨V, hV⟩ := exV
 simp only [← hV.rParam]
 refine fn_ok (tt0 := tyG [ty3, ty4, ty9, ty27, ty29, ty65]) (fn := Tryz.f132) (body := bodyOf Tryz.f132) (ext := []) hm (tyG_sub ⟨tt3, tt4, tt9, tt27, tt29, tt65, trivial⟩) hz 0 true [] (by unfold pg; exact Tryz.func132) rfl rfl (by simp [Tryz.f132]) (by simp [EObj.toObj]) (by cbv) ?_
 intro A F hA hF
 unfold impl_Signature_takes.f at H
 cbv
 repeat' (first
  | (cases H; exact fin_plain hF rfl rfl rfl rfl)
  | ((with_reducible first | refine s_lt H ?_ ?_ | refine s_le H ?_ ?_ | refine s_eq H ?_ ?_ | refine s_ne H ?_ ?_) <;> intro H <;> cbv)
  | with_reducible first
   | (refine s_ixParam hV H (fun _ _ _ _ H => ?_); cbv)
   | (refine s_lv H (fun _ H => ?_); cbv)
   | (refine s_ci hA H (by (try simp only [hV.rParam]); with_unfolding_all exact impl_find.ok hm hz hG) rfl (fun _ H => ?_); cbv)
   | (refine s_cb hA H (by (try simp only [hV.rParam]); with_unfolding_all exact impl_Param_named.ok hm hz hG) rfl (fun H => ?_) (fun H => ?_) <;> cbv)
   | (refine s_ci hA H (by (try simp only [hV.rParam]); with_unfolding_all exact slices_IndexFunc_Param_at_impl_Signature_takes_1.ok hm hz hG) rfl (fun _ H => ?_); cbv)
   | (refine indep_of hA ?_; cbv)
  | ((with_reducible refine side ?_); exact sideOf)
  | with_reducible first
   | (refine s_tkG hV.rParam hV.nParam ?_; cbv)
   | (refine s_tk1 ?_; cbv)
  | (with_reducible refine And.intro ?_ ?_)
  | ((with_reducible refine s_cn H (fun hb H => ?_) (fun hb H => ?_)) <;> (revert H; subst hb; intro H; cbv))
  | (intro ys hys; subst hys; rfl)
  | rfl)
theorem impl_Signature_takes.ok {a1 : List Param} {a2 : Str}  : FnOK pg G 132 [.agg [.sl (a1.map eParam)], .str ⟨⟨a2⟩⟩] [] (.int .i64 (((fun (s : Sig) (n : Str) => takesV s.params n) ⟨a1⟩ a2))) [] false := by
 refine impl_Signature_takes.w hm hz hG ?_
 simp only [impl_Signature_takes.f, lv, takesV, cn_ite, find_k4]
 refine ite_ok (fun h => ?_) (fun h => by rw [if_neg fun c => h c.1])
 obtain ⟨x, hx⟩ := find_at h
 rw [ixParam_ok h hx, hx]
 simp only [eta_Param, Option.any_some]
 refine ite_ok (fun c => by rw [if_pos ⟨h, c⟩]) (fun c => by rw [if_neg fun d => c d.2])
end
noncomputable def spec_takesName.f (a1 : List Param) (a2 : Str)  (z_ : Int) : Option (Int) := (lv (findParam a1 a2) fun v3 => (if 0 ≤ v3 then (ixParam a1 v3 fun v4 v5 v6 v7 => (cn (namedP (⟨v4, v5, v6, v7⟩)) (some v3) (lv (kindAt a1 4) fun v8 => (some v8)))) else (lv (kindAt a1 4) fun v9 => (some v9))))
section
variable {G : Glob} (hm : Hm) (hz : Hz) (hG : GF G)
include hm hz hG
theorem spec_takesName.w {a1 : List Param} {a2 : Str}  {r : Int} (H : spec_takesName.f a1 a2  r = some r) : FnOK pg G 130 [.agg [.sl (a1.map eParam)], .str ⟨⟨a2⟩⟩] [] (.int .i64 r) [] false := by
 obtain ⟨V, hV⟩ := exV
 simp only [← hV.rParam]
 refine fn_ok (tt0 := tyG [ty3, ty4, ty9, ty27, ty29, ty65]) (fn := Tryz.f130) (body := bodyOf Tryz.f130) (ext := []) hm (tyG_sub ⟨tt3, tt4, tt9, tt27, tt29, tt65, trivial⟩) hz 0 true [] (by unfold pg; exact Tryz.func130) rfl rfl (by simp [Tryz.f130]) (by simp [EObj.toObj]) (by cbv) ?_
 intro A F hA hF
 unfold spec_takesName.f at H
 cbv
 repeat' (first
  | (cases H; exact fin_plain hF rfl rfl rfl rfl)
  | ((with_reducible first | refine s_lt H ?_ ?_ | refine s_le H ?_ ?_ | refine s_eq H ?_ ?_ | refine s_ne H ?_ ?_) <;> intro H <;> cbv)
  | with_reducible first
   | (refine s_ixParam hV H (fun _ _ _ _ H => ?_); cbv)
   | (refine s_lv H (fun _ H => ?_); cbv)
   | (refine s_ci hA H (by (try simp only [hV.rParam]); with_unfolding_all exact spec_findParam.ok hm hz hG) rfl (fun _ H => ?_); cbv)
   | (refine s_cb hA H (by (try simp only [hV.rParam]); with_unfolding_all exact spec_byName.ok hm hz hG) rfl (fun H => ?_) (fun H => ?_) <;> cbv)
   | (refine s_ci hA H (by (try simp only [hV.rParam]); with_unfolding_all exact spec_kindAt.ok hm hz hG) rfl (fun _ H => ?_); cbv)
   | (refine indep_of hA ?_; cbv)
  | ((with_reducible refine side ?_); exact sideOf)
  | with_reducible first
   | (refine s_tkG hV.rParam hV.nParam ?_; cbv)
   | (refine s_tk1 ?_; cbv)
  | (with_reducible refine And.intro ?_ ?_)
  | ((with_reducible refine s_cn H (fun hb H => ?_) (fun hb H => ?_)) <;> (revert H; subst hb; intro H; cbv))
  | (intro ys hys; subst hys; rfl)
  | rfl)
theorem spec_takesName.ok {a1 : List Param} {a2 : Str}  : FnOK pg G 130 [.agg [.sl (a1.map eParam)], .str ⟨⟨a2⟩⟩] [] (.int .i64 (((fun (s : Sig) (n : Str) => takesV s.params n) ⟨a1⟩ a2))) [] false := by
 refine spec_takesName.w hm hz hG ?_
 simp only [spec_takesName.f, lv, takesV, cn_ite]
 refine ite_ok (fun h => ?_) (fun h => by rw [if_neg fun c => h c.1])
 obtain ⟨x, hx⟩ := find_at h
 rw [ixParam_ok h hx, hx]
 simp only [eta_Param, Option.any_some]
 refine ite_ok (fun c => by rw [if_pos ⟨h, c⟩]) (fun c => by rw [if_neg fun d => c d.2])
end
noncomputable def slices_Clip_Problem.f (a1 : List Prob)  (z_ : (List Prob)) : Option ((List Prob)) := (ln' z_ (a1.length) fun v2 => (ln' z_ (a1.length) fun v3 => (gd (v2.toNat = a1.length ∧ v3.toNat = a1.length ∧ 0 ≤ v2 ∧ 0 ≤ v3) (some a1))))
section
variable {G : Glob} (hm : Hm) (hz : Hz) (hG : GF G)
include hm hz hG
theorem slices_Clip_Problem.w {a1 : List Prob}  {r : (List Prob)} (H : slices_Clip_Problem.f a1  r = some r) : FnOK pg G 134 [.sl (a1.map eProb)] [] (.sl (r.map eProb)) [] true := by
 obtain ⟨V, hV⟩ := exV
 have e0_Prob : V.rProb [] = [] := hV.rProb []
 have e1_Prob : ∀ x r, V.rProb (x :: r) = eProb x :: V.rProb r := fun x r => by rw [hV.rProb, hV.rProb]; rfl
 simp only [← hV.rProb]
 refine fn_okS (tt0 := tyG [ty3, ty9, ty98, ty146]) (fn := Tryz.f134) (body := bodyOf Tryz.f134) (ext := []) hm (tyG_sub ⟨tt3, tt9, tt98, tt146, trivial⟩) hz 0 [] (by unfold pg; exact Tryz.func134) rfl rfl (by simp [Tryz.f134]) (by simp [EObj.toObj]) (by cbv) ?_
 intro A F hA hF
 unfold slices_Clip_Problem.f at H
 cbv
 repeat' (first
  | (with_reducible refine s_gd H (fun hg H => ?_))
  | (cases H; (try simp only [e0_Prob, e1_Prob, eProb] at hF); with_reducible refine fin_close hF rfl (by simp [expIds, posCells, C.cells, idOf]) ?_; cbv)
  | with_reducible first
   | (refine s_ln H lnOf (fun _ H => ?_); cbv)
   | (refine s_lv H (fun _ H => ?_); cbv)
   | (refine indep_of hA ?_; cbv)
  | ((with_reducible refine side ?_); exact sideOf)
  | with_reducible first
   | (refine s_tkG hV.rProb hV.nProb ?_; cbv)
   | (refine s_tk1 ?_; cbv)
  | (with_reducible refine And.intro ?_ ?_)
  | (intro ys hys; subst hys; rfl)
  | rfl)
theorem slices_Clip_Problem.ok {a1 : List Prob}  : FnOK pg G 134 [.sl (a1.map eProb)] [] (.sl ((((fun (l : List Prob) => l) a1)).map eProb)) [] true := by
 refine slices_Clip_Problem.w hm hz hG ?_
 simp only [slices_Clip_Problem.f]
 refine ln_ok fun _ => ln_ok fun _ => ?_
 rw [gd_ok (by omega)]
end
end Go.Proofs.YtchpopejojghmaaGreatDoor.M
