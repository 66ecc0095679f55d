/- FnCallTextFlat. -/
import Derived.Test.YtoofegkjdjlpkaaGreatDoorQ8
set_option linter.unusedVariables false
set_option linter.unusedSimpArgs false
set_option linter.unusedSectionVars false
namespace Go.Proofs.YtoofegkjdjlpkaaGreatDoor.M
open Go Go.Proofs
set_option maxRecDepth 100000
def someFlatV (r : Rd) : Flat × Rd :=
  let x := goodFlatV r
  let c := pickI x.2 24
  let r2 := (pickV x.2 24).2
  if c = 0 then (⟨x.1.places ++ [(rOne r2 [100, -100]).1], x.1.names⟩, (rOne r2 [100, -100]).2)
  else if c = 1 then (⟨x.1.places, x.1.names ++ [⟨(anyNameV r2).1, (anyNumberV (anyNameV r2).2).1⟩]⟩, (anyNumberV (anyNameV r2).2).2)
  else if c = 2 then (⟨List.replicate 9 0, x.1.names⟩, r2) else (x.1, r2)
theorem RO_anyName {n : Nat} {r : Rd} (h : RO (n + 2) r) : RO n (anyNameV r).2 := by
  have h1 : RO (n + 1) (pickV r 16).2 := RO_pick h
  unfold anyNameV; split
  · exact RO_of h1
  · exact RO_aName h1
noncomputable def spec_someFlat.f (a1 : List Int) (a2 : Int)  (z_ : Flat × Rd) : Option (Flat × Rd) := (gd (RO 16 ⟨a1, a2⟩) (on_Flat_Rd (goodFlatV (⟨a1, a2⟩)) fun v7 v8 v9 v10 => (gd (RO 1 ⟨v9, v10⟩) (on_I_Rd (pickV (⟨v9, v10⟩) 24) fun v27 v28 v29 => (if v27 = 0 then (gd (RO 1 ⟨v28, v29⟩ ∧ 1 ≤ (([100, (-100)] : List Int)).length ∧ (([100, (-100)] : List Int)).length ≤ 1000) (on_I_Rd (rOne (⟨v28, v29⟩) ([100, (-100)])) fun v30 v31 v32 => (gd ((v7.length + 1) * 8 ≤ 140737488355328) (lv (v7 ++ [v30]) fun v33 => (some (⟨v33, v8⟩, ⟨v31, v32⟩)))))) else (if v27 = 1 then (gd (RO 2 ⟨v28, v29⟩) (on_S_Rd (anyNameV (⟨v28, v29⟩)) fun v34 v35 v36 => (gd (RO 2 ⟨v35, v36⟩) (on_I_Rd (anyNumberV (⟨v35, v36⟩)) fun v37 v38 v39 => (gd ((v8.length + 1) * 24 ≤ 140737488355328) (lv (v8 ++ [⟨v34, v37⟩]) fun v40 => (some (⟨v7, v40⟩, ⟨v38, v39⟩)))))))) else (if v27 = 2 then (gd (0 ≤ (9 : Int) ∧ 9 * 8 ≤ 140737488355328) (lv (List.replicate 9 0) fun v41 => (some (⟨v41, v8⟩, ⟨v28, v29⟩)))) else (some (⟨v7, v8⟩, ⟨v28, v29⟩)))))))))
section
variable {G : Glob} (hm : pg.follows .mixedOrders = true) (hz : ∀ T, ∀ c ∈ (ttOf pg T).zero, Bd c) (hG : GF G)
include hm hz hG
theorem spec_someFlat.w {a1 : List Int} {a2 : Int}  {r : Flat × Rd} (H : spec_someFlat.f a1 a2  r = some r) : FnOK pg G 83 [.ptr 0 0 2 0 0] (([⟨0, true, 2, .one [.sl (a1.map eIu8), .int .i64 a2]⟩] : List EObj).map EObj.toObj) (.agg [.fr 1 ((r.1.places).map eI), .fr 2 ((r.1.names).map ePair)]) (([⟨0, true, 2, .one [.sl ((r.2.bs).map eIu8), .int .i64 (r.2.at_)]⟩] : List EObj).map EObj.toObj) true := by
  obtain ⟨V, hV⟩ := exV
  have e0_I : V.rI [] = [] := hV.rI []
  have e1_I : ∀ x r, V.rI (x :: r) = eI x :: V.rI r := fun x r => by rw [hV.rI, hV.rI]; rfl
  have e0_Iu8 : V.rIu8 [] = [] := hV.rIu8 []
  have e1_Iu8 : ∀ x r, V.rIu8 (x :: r) = eIu8 x :: V.rIu8 r := fun x r => by rw [hV.rIu8, hV.rIu8]; rfl
  have e0_Pair : V.rPair [] = [] := hV.rPair []
  have e1_Pair : ∀ x r, V.rPair (x :: r) = ePair x :: V.rPair r := fun x r => by rw [hV.rPair, hV.rPair]; rfl
  simp only [← hV.rI, ← hV.rIu8, ← hV.rPair]
  refine fn_okW (tt0 := tyG [ty3, ty4, ty9, ty36, ty37, ty39, ty80, ty90]) (fn := Tryz.f83) (body := bodyOf Tryz.f83) (ext := [⟨0, true, 2, .one [.sl (V.rIu8 a1), .int .i64 a2]⟩]) (ext' := [⟨0, true, 2, .one [.sl (V.rIu8 (r.2.bs)), .int .i64 (r.2.at_)]⟩]) hm (tyG_sub ⟨tt3, tt4, tt9, tt36, tt37, tt39, tt80, tt90, trivial⟩) hz 0 true [] (by unfold pg; exact Tryz.func83) rfl rfl (by simp [Tryz.f83]) (by simp [EObj.toObj]) (by cbv) ?_
  intro A F hA hF
  unfold spec_someFlat.f at H
  cbv
  repeat' (first
    | (with_reducible refine s_gd H (fun hg H => ?_))
    | (cases H; (try simp only [e0_I, e0_Iu8, e0_Pair, e1_I, eI, e1_Iu8, eIu8, e1_Pair, ePair] at hF); with_reducible refine fin_WO hF rfl (by simp [expIds, posCells, C.cells, idOf]) ?_ ?_ (by with_unfolding_all exact ⟨by first | (cbv <;> rfl) | fail, rfl, rfl, rfl, rfl, (by intro z hz; simp [ED.rows] at hz; subst hz; rfl), trivial⟩) <;> cbv)
    | (with_reducible refine s_lt H (fun H => ?_) (fun H => ?_) <;> cbv)
    | (with_reducible refine s_le H (fun H => ?_) (fun H => ?_) <;> cbv)
    | (with_reducible refine s_eq H (fun H => ?_) (fun H => ?_) <;> cbv)
    | (with_reducible refine s_ne H (fun H => ?_) (fun H => ?_) <;> cbv)
    | (with_reducible refine s_apI hV H (fun _ H => ?_); cbv)
    | (with_reducible refine s_apL hV.rI hV.nI H (fun _ H => ?_); cbv)
    | (with_reducible refine s_mkL hV.rI hV.nI (by cbv) H (fun _ H => ?_); cbv)
    | (with_reducible refine s_mkLn hV.rI hV.nI (by cbv) (by with_unfolding_all rfl) H (fun _ H => ?_); cbv)
    | (with_reducible refine s_apIu8 hV H (fun _ H => ?_); cbv)
    | (with_reducible refine s_apL hV.rIu8 hV.nIu8 H (fun _ H => ?_); cbv)
    | (with_reducible refine s_mkL hV.rIu8 hV.nIu8 (by cbv) H (fun _ H => ?_); cbv)
    | (with_reducible refine s_mkLn hV.rIu8 hV.nIu8 (by cbv) (by with_unfolding_all rfl) H (fun _ H => ?_); cbv)
    | (with_reducible refine s_apPair hV H (fun _ H => ?_); cbv)
    | (with_reducible refine s_apL hV.rPair hV.nPair H (fun _ H => ?_); cbv)
    | (with_reducible refine s_mkL hV.rPair hV.nPair (by cbv) H (fun _ H => ?_); cbv)
    | (with_reducible refine s_mkLn hV.rPair hV.nPair (by cbv) (by with_unfolding_all rfl) H (fun _ H => ?_); cbv)
    | (with_reducible refine s_lv H (fun _ H => ?_); cbv)
    | (with_reducible refine s_vFFlat_Rd_1 hV (by assumption) H (by (try simp only [hV.rI, hV.rIu8, hV.rPair]); (first | (have hk_ := spec_goodFlat.ok hm hz hG hg; with_unfolding_all exact hk_) | (with_unfolding_all exact spec_goodFlat.ok hm hz hG (by first | assumption | omega)))) (by first | (cbv <;> (repeat' (first | trivial | refine And.intro ?_ ?_)) <;> (first | rfl | exact clI hV _ | with_unfolding_all exact clIu8 hV _ | with_unfolding_all exact clPair hV _ | simp [closedCell])) | fail) (fun _ _ _ _ H => ?_); cbv)
    | (with_reducible refine s_vI_Rd_1 hV (by assumption) H (by (try simp only [hV.rI, hV.rIu8, hV.rPair]); (first | (have hk_ := spec_reader_pick.ok hm hz hG hg; with_unfolding_all exact hk_) | (with_unfolding_all exact spec_reader_pick.ok hm hz hG (by first | assumption | omega)))) (by first | (cbv <;> (repeat' (first | trivial | refine And.intro ?_ ?_)) <;> (first | rfl | exact clI hV _ | with_unfolding_all exact clIu8 hV _ | with_unfolding_all exact clPair hV _ | simp [closedCell])) | fail) (fun _ _ _ H => ?_); cbv)
    | (with_reducible refine s_vI_Rd_1 hV (by assumption) H (by (try simp only [hV.rI, hV.rIu8, hV.rPair]); (first | (have hk_ := spec_reader_one.ok hm hz hG hg; with_unfolding_all exact hk_) | (with_unfolding_all exact spec_reader_one.ok hm hz hG (by first | assumption | omega)))) (by first | (cbv <;> (repeat' (first | trivial | refine And.intro ?_ ?_)) <;> (first | rfl | exact clI hV _ | with_unfolding_all exact clIu8 hV _ | with_unfolding_all exact clPair hV _ | simp [closedCell])) | fail) (fun _ _ _ H => ?_); cbv)
    | (with_reducible refine s_vS_Rd_1 hV (by assumption) H (by (try simp only [hV.rI, hV.rIu8, hV.rPair]); (first | (have hk_ := spec_anyName.ok hm hz hG hg; with_unfolding_all exact hk_) | (with_unfolding_all exact spec_anyName.ok hm hz hG (by first | assumption | omega)))) (by first | (cbv <;> (repeat' (first | trivial | refine And.intro ?_ ?_)) <;> (first | rfl | exact clI hV _ | with_unfolding_all exact clIu8 hV _ | with_unfolding_all exact clPair hV _ | simp [closedCell])) | fail) (fun _ _ _ H => ?_); cbv)
    | (with_reducible refine s_vI_Rd_1 hV (by assumption) H (by (try simp only [hV.rI, hV.rIu8, hV.rPair]); (first | (have hk_ := spec_anyNumber.ok hm hz hG hg; with_unfolding_all exact hk_) | (with_unfolding_all exact spec_anyNumber.ok hm hz hG (by first | assumption | omega)))) (by first | (cbv <;> (repeat' (first | trivial | refine And.intro ?_ ?_)) <;> (first | rfl | exact clI hV _ | with_unfolding_all exact clIu8 hV _ | with_unfolding_all exact clPair hV _ | simp [closedCell])) | fail) (fun _ _ _ H => ?_); cbv)
    | (with_reducible refine callT_wp hA rfl (fun U hU => ?_); cbv)
    | (with_reducible refine indep_of hA ?_; cbv)
    | ((with_reducible refine side ?_); exact sideOf)
    | (with_reducible refine s_tkG hV.rI hV.nI ?_; cbv)
    | (with_reducible refine s_tkG hV.rIu8 hV.nIu8 ?_; cbv)
    | (with_reducible refine s_tkG hV.rPair hV.nPair ?_; cbv)
    | (with_reducible refine s_tk1 ?_; cbv)
    | (with_reducible refine s_eqL ?_; cbv)
    | (with_reducible refine And.intro ?_ ?_)
    | (intro ys hys; subst hys; rfl)
    | rfl
    | (first | exact True.intro | omega | exact clI hV _ | exact clIu8 hV _ | exact clPair hV _)
    | (intro h_; cases h_; done)
    | (with_reducible refine s_pl ?_; with_unfolding_all simp [plainV, plainA, plainC, plRI hV, plRIu8 hV, plRPair hV])
    | (intro ys hys; subst hys))
end
section
variable {G : Glob} (hm : pg.follows .mixedOrders = true) (hz : ∀ T, ∀ c ∈ (ttOf pg T).zero, Bd c) (hG : GF G)
include hm hz hG
theorem spec_someFlat.ok {a1 : List Int} {a2 : Int} (hp : RO 21 ⟨a1, a2⟩) : FnOK pg G 83 [.ptr 0 0 2 0 0] (([⟨0, true, 2, .one [.sl (a1.map eIu8), .int .i64 a2]⟩] : List EObj).map EObj.toObj) (.agg [.fr 1 (((someFlatV ⟨a1, a2⟩).1.places).map eI), .fr 2 (((someFlatV ⟨a1, a2⟩).1.names).map ePair)]) (([⟨0, true, 2, .one [.sl (((someFlatV ⟨a1, a2⟩).2.bs).map eIu8), .int .i64 ((someFlatV ⟨a1, a2⟩).2.at_)]⟩] : List EObj).map EObj.toObj) true := by
  obtain ⟨g1, g2, g3⟩ := goodFlatV_ok (n := 5) hp
  have h1 : RO 4 (pickV (goodFlatV ⟨a1, a2⟩).2 24).2 := RO_pick g1
  refine spec_someFlat.w hm hz hG ?_
  simp only [spec_someFlat.f, on_Flat_Rd, on_I_Rd, on_S_Rd, lv, someFlatV, eta_Rd, pickV_1]
  rw [gd_ok (hp.le (by omega)), gd_ok (g1.le (by omega))]
  refine ite_ok (fun h => ?_) (fun h => ?_)
  · rw [if_pos h, gd_ok ⟨h1.le (by omega), by decide, by decide⟩, gd_ok (by omega)]
  rw [if_neg h]
  refine ite_ok (fun h => ?_) (fun h => ?_)
  · rw [if_pos h, gd_ok (h1.le (by omega)), gd_ok ((RO_anyName (n := 2) h1).le (by omega)), gd_ok (by omega)]
  rw [if_neg h]
  refine ite_ok (fun h => ?_) (fun h => ?_)
  · rw [if_pos h, gd_ok (by omega)]
  · rw [if_neg h]
end
def drawCO (c : List Int) : Flat := (someFlatV (newRd c)).1
noncomputable def spec_DrawCallOf.f (a1 : List Int)  (z_ : Flat) : Option (Flat) := (on_Rd (newRd a1) fun v8 v9 => (gd (RO 21 ⟨v8, v9⟩) (on_Flat_Rd (someFlatV (⟨v8, v9⟩)) fun v10 v11 v12 v13 => (some ⟨v10, v11⟩))))
section
variable {G : Glob} (hm : pg.follows .mixedOrders = true) (hz : ∀ T, ∀ c ∈ (ttOf pg T).zero, Bd c) (hG : GF G)
include hm hz hG
theorem spec_DrawCallOf.w {a1 : List Int}  {r : Flat} (H : spec_DrawCallOf.f a1  r = some r) : FnOK pg G 26 [.sl (a1.map eIu8)] [] (.agg [.sl ((r.places).map eI), .sl ((r.names).map ePair)]) [] true := by
  obtain ⟨V, hV⟩ := exV
  have e0_I : V.rI [] = [] := hV.rI []
  have e1_I : ∀ x r, V.rI (x :: r) = eI x :: V.rI r := fun x r => by rw [hV.rI, hV.rI]; rfl
  have e0_Iu8 : V.rIu8 [] = [] := hV.rIu8 []
  have e1_Iu8 : ∀ x r, V.rIu8 (x :: r) = eIu8 x :: V.rIu8 r := fun x r => by rw [hV.rIu8, hV.rIu8]; rfl
  have e0_Pair : V.rPair [] = [] := hV.rPair []
  have e1_Pair : ∀ x r, V.rPair (x :: r) = ePair x :: V.rPair r := fun x r => by rw [hV.rPair, hV.rPair]; rfl
  simp only [← hV.rI, ← hV.rIu8, ← hV.rPair]
  refine fn_okS (tt0 := tyG [ty3, ty5, ty9, ty32, ty36, ty37, ty39, ty80, ty90]) (fn := Tryz.f26) (body := bodyOf Tryz.f26) (ext := []) hm (tyG_sub ⟨tt3, tt5, tt9, tt32, tt36, tt37, tt39, tt80, tt90, trivial⟩) hz 0 [] (by unfold pg; exact Tryz.func26) rfl rfl (by simp [Tryz.f26]) (by simp [EObj.toObj]) (by cbv) ?_
  intro A F hA hF
  unfold spec_DrawCallOf.f at H
  cbv
  repeat' (first
    | (with_reducible refine s_gd H (fun hg H => ?_))
    | (cases H; (try simp only [e0_I, e0_Iu8, e0_Pair, e1_I, eI, e1_Iu8, eIu8, e1_Pair, ePair] at hF); with_reducible refine fin_close hF rfl (by simp [expIds, posCells, C.cells, idOf]) ?_; cbv)
    | (with_reducible refine s_lv H (fun _ H => ?_); cbv)
    | (with_reducible refine s_cPRd hV hA H (by (try simp only [hV.rI, hV.rIu8, hV.rPair]); with_unfolding_all exact spec_newReader.ok hm hz hG) rfl (fun _ _ H => ?_); cbv)
    | (with_reducible refine s_vFFlat_Rd_1 hV (by assumption) H (by (try simp only [hV.rI, hV.rIu8, hV.rPair]); (first | (have hk_ := spec_someFlat.ok hm hz hG hg; with_unfolding_all exact hk_) | (with_unfolding_all exact spec_someFlat.ok hm hz hG (by first | assumption | omega)))) (by first | (cbv <;> (repeat' (first | trivial | refine And.intro ?_ ?_)) <;> (first | rfl | exact clI hV _ | with_unfolding_all exact clIu8 hV _ | with_unfolding_all exact clPair hV _ | simp [closedCell])) | fail) (fun _ _ _ _ H => ?_); cbv)
    | (with_reducible refine callT_wp hA rfl (fun U hU => ?_); cbv)
    | (with_reducible refine indep_of hA ?_; cbv)
    | ((with_reducible refine side ?_); exact sideOf)
    | (with_reducible refine s_tkG hV.rI hV.nI ?_; cbv)
    | (with_reducible refine s_tkG hV.rIu8 hV.nIu8 ?_; cbv)
    | (with_reducible refine s_tkG hV.rPair hV.nPair ?_; cbv)
    | (with_reducible refine s_tk1 ?_; cbv)
    | (with_reducible refine And.intro ?_ ?_)
    | (intro ys hys; subst hys; rfl)
    | rfl)
end
section
variable {G : Glob} (hm : pg.follows .mixedOrders = true) (hz : ∀ T, ∀ c ∈ (ttOf pg T).zero, Bd c) (hG : GF G)
include hm hz hG
theorem spec_DrawCallOf.ok {a1 : List Int} (hp : bytesOK a1) : FnOK pg G 26 [.sl (a1.map eIu8)] [] (.agg [.sl (((drawCO a1).places).map eI), .sl (((drawCO a1).names).map ePair)]) [] true := by
  refine spec_DrawCallOf.w hm hz hG ?_
  simp only [spec_DrawCallOf.f, on_Rd, on_Flat_Rd, eta_Rd, drawCO]
  rw [gd_ok (RO_new hp (by omega))]
end
theorem callText_len' (c : Cal) : (callText c).length ≤ 16 * 302 := by
  by_cases h : validCall c = true
  · exact callText_len h
  · rw [callText, if_neg h]; simp
theorem all_map' {α β : Type} {f : α → β} {p : β → Bool} {q : α → Bool} (h : ∀ x, q x = true → p (f x) = true) {l : List α} (hl : l.all q = true) : (l.map f).all p = true := by
  rw [List.all_map, List.all_eq_true] at *
  exact fun x hx => h x (hl x hx)
theorem plArg_star {n : Int} (h : isValue n = true) : isStar (plArg n) = true := by simp [isStar, plArg, validArg, byN, areValues, h]
theorem nmArg_map {p : Pair} (h : validPair p = true) : isMapA (nmArg p) = true := by
  have h : isName p.name = true ∧ isValue p.value = true := by simpa [validPair] using h
  simp [isMapA, nmArg, validArg, byN, areValues, h]
theorem valid_callOf {f : Flat} (h : validFlat f = true) : validCall (callOfV f) = true := by
  obtain ⟨h1, h2, h3, h4, _⟩ := validFlat_len h
  show (callGo false (f.places.map plArg ++ f.names.map nmArg) && decide (((f.places.map plArg ++ f.names.map nmArg).length : Int) ≤ 16)) = true
  rw [callGo_stars (all_map' (fun x => plArg_star) h3) (all_map' (fun x => nmArg_map) h4)]
  simp; omega
theorem flat_callOf (f : Flat) : flatOfC (callOfV f) = f := by
  obtain ⟨ps, ns⟩ := f
  have e1 : ∀ l : List Int, (l.map plArg).flatMap plOf = l := fun l => by induction l with | nil => rfl | cons x r ih => simp [ih, plArg, plOf]
  have e2 : ∀ l : List Pair, (l.map nmArg).flatMap plOf = [] := fun l => by induction l with | nil => rfl | cons x r ih => simp [nmArg, plOf]
  have e3 : ∀ l : List Int, (l.map plArg).flatMap nmOf = [] := fun l => by induction l with | nil => rfl | cons x r ih => simp [plArg, nmOf]
  have e4 : ∀ l : List Pair, (l.map nmArg).flatMap nmOf = l := fun l => by induction l with | nil => rfl | cons x r ih => simp [ih, nmArg, nmOf]
  simp only [flatOfC, callOfV, List.flatMap_append, e1, e2, e3, e4, List.append_nil, List.nil_append]
theorem valid_star {f : Flat} (h : validFlat f = true) : validCall (StarCallV f) = true := by
  obtain ⟨h1, h2, h3, h4, _⟩ := validFlat_len h
  rw [StarCallV, if_pos h]
  show (callGo false (_ ++ _) && decide (((_ ++ _ : List Arg).length : Int) ≤ 16)) = true
  rw [callGo_stars]
  · split <;> split <;> simp
  · split
    · rfl
    · simp [isStar, validArg, byN, h3]; omega
  · split
    · rfl
    · simp [isMapA, validArg, byN, h4]; omega
theorem flat_star {f : Flat} (h : validFlat f = true) : flatOfC (StarCallV f) = f := by
  obtain ⟨ps, ns⟩ := f
  rw [StarCallV, if_pos h]
  simp only [flatOfC]
  by_cases h1 : ps = [] <;> by_cases h2 : ns = [] <;> simp [h1, h2, plOf, nmOf]
def on_Flat_B {R : Type} (v : Flat × Bool) (f : (List Int) → (List Pair) → Bool → Option R) : Option R := f (v.1.places) (v.1.names) (v.2)
section
variable {A : Bx} {P : Program} {G : Glob} {rg : Option Nat} {own : Nat} {o : Nat → EObj} {g : FuncId} {vs : List C} {sh : Bool} {K : C → List (Nat × EObj) → Prop} {R : Type} {r : R} {V : Vx} {v : Flat × Bool} {f : (List Int) → (List Pair) → Bool → Option R}
theorem s_cFlat_B (hV : IsV V) (hA : IsBx true rg P G A) (H : on_Flat_B v f = some r) (hok : FnOK P G g vs [] (.tup [.agg [.sl ((v.1.places).map eI), .sl ((v.1.names).map ePair)], .bool (v.2)]) [] sh) (hc : vs.all closedArg = true) (h : ∀ c0 c1 c2, f c0 c1 c2 = some r → K (.tup [.agg [.sl (V.rI c0), .sl (V.rPair c1)], .bool c2]) []) : A.call own o g vs K := by
  refine callT_plain hA hok hc ?_
  have := h (v.1.places) (v.1.names) (v.2) H
  simp only [hV.rI, hV.rPair] at this
  exact this
variable {U : List C → List Nat → (C → List (Nat × EObj) → Prop) → Prop} {bs : List C} {tops : List Nat}
end
noncomputable def laws_FnCallTextFlat.f (a1 : List Int)  (z_ : Bool) : Option (Bool) := (ln' z_ (a1.length) fun v2 => (if 1048576 < v2 then (some true) else (gd (bytesOK a1) (on_Flat (drawCO a1) fun v5 v6 => (on_Cal (CallOfV (⟨v5, v6⟩)) fun v8 => (on_Cal (CallOfV (⟨v5, v6⟩)) fun v9 => (cn ((fun (a b : Cal) => decide (a = b)) (⟨v8⟩) (⟨v9⟩)) (cn (validFlat (⟨v5, v6⟩)) (lv (callText (⟨v8⟩)) fun v13 => (gd (v13.length ≤ 1048576) (on_Cal_B (parseCallI v13) fun v14 v15 => (on_Cal (StarCallV (⟨v5, v6⟩)) fun v20 => (lv (callText (⟨v20⟩)) fun v21 => (gd (v21.length ≤ 1048576) (on_Cal_B (parseCallI v21) fun v22 v23 => (on_Flat_B (FlattenV (⟨v14⟩)) fun v27 v28 v29 => (on_Flat_B (FlattenV (⟨v22⟩)) fun v33 v34 v35 => (cn v15 (cn v23 (cn v29 (cn v35 (cn ((fun (a b : Flat) => decide (a = b)) (⟨v27, v28⟩) (⟨v5, v6⟩)) (cn ((fun (a b : Flat) => decide (a = b)) (⟨v33, v34⟩) (⟨v5, v6⟩)) (some true) (some false)) (some false)) (some false)) (some false)) (some false)) (some false))))))))))) (on_Cal (CallOfV (⟨v5, v6⟩)) fun v36 => (cn ((fun (a b : Cal) => decide (a = b)) (⟨v8⟩) (⟨v36⟩)) (some true) (some false)))) (on_Cal (CallOfV (⟨v5, v6⟩)) fun v37 => (cn ((fun (a b : Cal) => decide (a = b)) (⟨v8⟩) (⟨v37⟩)) (some true) (some false))))))))))
section
variable {G : Glob} (hm : pg.follows .mixedOrders = true) (hz : ∀ T, ∀ c ∈ (ttOf pg T).zero, Bd c) (hG : GF G)
include hm hz hG
theorem laws_FnCallTextFlat.w {a1 : List Int}  {r : Bool} (H : laws_FnCallTextFlat.f a1  r = some r) : FnOK pg G 7 [.sl (a1.map eIu8)] [] (.bool r) [] false := by
  obtain ⟨V, hV⟩ := exV
  simp only [← hV.rI, ← hV.rIu8, ← hV.rPair, ← hV.rArg]
  refine fn_ok (tt0 := tyG [ty3, ty4, ty5, ty9, ty22, ty24, ty32, ty36, ty37, ty39, ty74, ty80]) (fn := Tryz.f7) (body := bodyOf Tryz.f7) (ext := []) hm (tyG_sub ⟨tt3, tt4, tt5, tt9, tt22, tt24, tt32, tt36, tt37, tt39, tt74, tt80, trivial⟩) hz 0 true [] (by unfold pg; exact Tryz.func7) rfl rfl (by simp [Tryz.f7]) (by simp [EObj.toObj]) (by cbv) ?_
  intro A F hA hF
  unfold laws_FnCallTextFlat.f at H
  cbv
  repeat' (first
    | (with_reducible refine s_gd H (fun hg H => ?_))
    | (cases H; exact fin_plain hF rfl rfl rfl rfl)
    | (with_reducible refine s_lt H (fun H => ?_) (fun H => ?_) <;> cbv)
    | (with_reducible refine s_le H (fun H => ?_) (fun H => ?_) <;> cbv)
    | (with_reducible refine s_eq H (fun H => ?_) (fun H => ?_) <;> cbv)
    | (with_reducible refine s_ne H (fun H => ?_) (fun H => ?_) <;> cbv)
    | (with_reducible refine s_ln H lnOf (fun _ H => ?_); cbv)
    | (with_reducible refine s_apZArg hV H (fun _ _ H hk_ zs_ hd_ => ?_); cbv)
    | (with_reducible refine s_bnZArg hV H (fun _ _ H hk_ zs_ hd_ => ?_); cbv)
    | (with_reducible refine s_a0ZArg hV H (fun _ _ H hk_ zs_ hd_ => ?_); cbv)
    | (with_reducible refine s_lv H (fun _ H => ?_); cbv)
    | (with_reducible refine s_cFlat hV hA H (by (try simp only [hV.rI, hV.rIu8, hV.rPair, hV.rArg]); (first | (have hk_ := spec_DrawCallOf.ok hm hz hG hg; with_unfolding_all exact hk_) | (with_unfolding_all exact spec_DrawCallOf.ok hm hz hG (by first | assumption | omega)))) rfl (fun _ _ H => ?_); cbv)
    | (with_reducible refine s_cCal hV hA H (by (try simp only [hV.rI, hV.rIu8, hV.rPair, hV.rArg]); with_unfolding_all exact impl_CallOf.ok hm hz hG) rfl (fun _ H => ?_); cbv)
    | (with_reducible refine s_cCal hV hA H (by (try simp only [hV.rI, hV.rIu8, hV.rPair, hV.rArg]); with_unfolding_all exact spec_CallOf.ok hm hz hG) rfl (fun _ H => ?_); cbv)
    | (with_reducible refine s_cb hA H (by (try simp only [hV.rI, hV.rIu8, hV.rPair, hV.rArg]); with_unfolding_all exact laws_equalCall.ok hm hz hG) rfl (fun H => ?_) (fun H => ?_) <;> cbv)
    | (with_reducible refine s_cb hA H (by (try simp only [hV.rI, hV.rIu8, hV.rPair, hV.rArg]); with_unfolding_all exact impl_ValidFlat.ok hm hz hG) rfl (fun H => ?_) (fun H => ?_) <;> cbv)
    | (with_reducible refine s_cs hA H (by (try simp only [hV.rI, hV.rIu8, hV.rPair, hV.rArg]); with_unfolding_all exact impl_CallText.ok hm hz hG) rfl (fun _ H => ?_); cbv)
    | (with_reducible refine s_cCal_B hV hA H (by (try simp only [hV.rI, hV.rIu8, hV.rPair, hV.rArg]); (first | (have hk_ := impl_ParseCall.ok hm hz hG hg; with_unfolding_all exact hk_) | (with_unfolding_all exact impl_ParseCall.ok hm hz hG (by first | assumption | omega)))) rfl (fun _ _ H => ?_); cbv)
    | (with_reducible refine s_cCal hV hA H (by (try simp only [hV.rI, hV.rIu8, hV.rPair, hV.rArg]); with_unfolding_all exact impl_StarCall.ok hm hz hG) rfl (fun _ H => ?_); cbv)
    | (with_reducible refine s_cFlat_B hV hA H (by (try simp only [hV.rI, hV.rIu8, hV.rPair, hV.rArg]); with_unfolding_all exact impl_FlattenCall.ok hm hz hG) rfl (fun _ _ _ H => ?_); cbv)
    | (with_reducible refine s_cb hA H (by (try simp only [hV.rI, hV.rIu8, hV.rPair, hV.rArg]); with_unfolding_all exact laws_equalFlat.ok hm hz hG) rfl (fun H => ?_) (fun H => ?_) <;> cbv)
    | (with_reducible refine indep_of hA ?_; cbv)
    | ((with_reducible refine side ?_); exact sideOf)
    | (with_reducible refine s_tkG hV.rI hV.nI ?_; cbv)
    | (with_reducible refine s_tkG hV.rIu8 hV.nIu8 ?_; cbv)
    | (with_reducible refine s_tkG hV.rPair hV.nPair ?_; cbv)
    | (with_reducible refine s_tkG hV.rArg hV.nArg ?_; cbv)
    | (with_reducible refine s_tk1 ?_; cbv)
    | (with_reducible refine And.intro ?_ ?_)
    | ((with_reducible refine s_cn H (fun hb H => ?_) (fun hb H => ?_)) <;> (revert H; subst hb; intro H; cbv))
    | (intro ys hys; subst hys; rfl)
    | rfl)
end
section
variable {G : Glob} (hm : pg.follows .mixedOrders = true) (hz : ∀ T, ∀ c ∈ (ttOf pg T).zero, Bd c) (hG : GF G)
include hm hz hG
theorem laws_FnCallTextFlat.ok {a1 : List Int} (hp : bytesOK a1) : FnOK pg G 7 [.sl (a1.map eIu8)] [] (.bool (((fun (_ : List Int) => true) a1))) [] false := by
  refine laws_FnCallTextFlat.w hm hz hG ?_
  simp only [laws_FnCallTextFlat.f, on_Cal_B, on_Cal, on_Flat, on_Flat_B, lv]
  refine ln_ok fun hB => ite_ok (fun h => rfl) (fun h => ?_)
  rw [gd_ok hp]
  generalize drawCO a1 = f
  have ec : ∀ c : Cal, (⟨c.args⟩ : Cal) = c := fun _ => rfl
  have ef : ∀ f : Flat, (⟨f.places, f.names⟩ : Flat) = f := fun _ => rfl
  have l1 := callText_len' (CallOfV f)
  have l2 := callText_len' (StarCallV f)
  simp only [ec, ef]
  rw [gd_ok (by omega), gd_ok (by omega)]
  by_cases hv : validFlat f = true
  · have e1 : CallOfV f = callOfV f := by rw [CallOfV, if_pos hv]
    have p1 := parseCallI_text (valid_callOf hv)
    have p2 := parseCallI_text (valid_star hv)
    have f1 : FlattenV (callOfV f) = (f, true) := by rw [FlattenV, if_pos (valid_callOf hv), flat_callOf, if_pos hv]
    have f2 : FlattenV (StarCallV f) = (f, true) := by rw [FlattenV, if_pos (valid_star hv), flat_star hv, if_pos hv]
    simp [e1, p1, p2, f1, f2, hv, cn_ite]
  · simp [hv, cn_ite]
end
end Go.Proofs.YtoofegkjdjlpkaaGreatDoor.M
