/- Lists held against each other; FnTopCall, walked. -/
import Derived.Test.YtoofegkjdjlpkaaGreatDoorPD
set_option linter.unusedVariables false
set_option linter.unusedSimpArgs false
set_option linter.unusedSectionVars false
namespace Go.Proofs.YtoofegkjdjlpkaaGreatDoor.M
open Go Go.Proofs
set_option maxRecDepth 100000
noncomputable def laws_equalInts.b0 (a1 : List Int) (a2 : List Int)  (h0 : (Int) → Option (Bool)) (z_ : Bool) (x9 : Int) : Option (Bool) := (ln' z_ (a1.length) fun v14 => (if x9 < v14 then (ixI a1 x9 fun v15 => (ixI a2 x9 fun v16 => (if v15 = v16 then (arr .i64 (x9 + 1) fun v17 => (h0 v17)) else (some false)))) else (some true)))
noncomputable def laws_equalInts.f (a1 : List Int) (a2 : List Int) (h0 : (Int) → Option (Bool)) (z_ : Bool) : Option (Bool) := (ln' z_ (a1.length) fun v3 => (ln' z_ (a2.length) fun v4 => (if v3 = v4 then (h0 0) else (some false))))
theorem pin_laws_equalInts {e : ESt} {ns : List (Nat × Nat)} {ps : List (Nat × C)} {os : List (Nat × EObj)} (hs : pinPZ (pinZ e.o (os.map Prod.fst) ns) e.s ps := by first | (cbv <;> (repeat' (first | trivial | refine And.intro ?_ ?_)) <;> (first | rfl | assumption | omega | exact clI hV _ | with_unfolding_all exact hV.nI [] | with_unfolding_all exact (hV.nI []).symm | with_unfolding_all exact hV.rI _ | with_unfolding_all exact (hV.nI _).trans (Eq.trans (by simp only [hV.nI] at *; omega) (hV.nI _).symm) | simp [closedCell])) | fail) (ho : ∀ B : (Nat → EObj) → List (List C) → List (List C) → Prop, (∀ o rows rows', rowsZ (pinZ o (os.map Prod.fst) ns) rows rows' → B o rows rows') → pinOZ (pinZ e.o (os.map Prod.fst) ns) B e.o ns os := by intro B hB; first | (cbv <;> (repeat' (first | trivial | refine And.intro ?_ ?_ | refine pin_same hB ?_ | refine pin_nil hB ?_ | refine pin_dirty hB (by assumption) (by assumption) ?_ ?_ | exact pinL_n | refine pinL_c ?_ ?_ | exact pzr rfl rfl rfl (nrI hV _) (clI hV _) | (refine pz_go ?_; cbv) | (refine pinL_go ?_; cbv))) <;> (first | exact clI hV _ | with_unfolding_all exact hV.rI _ | with_unfolding_all exact hV.nI [] | with_unfolding_all exact (hV.nI []).symm | assumption | omega | rfl | with_unfolding_all exact (hV.nI _).trans (Eq.trans (by simp only [hV.nI] at *; omega) (hV.nI _).symm) | simp [closedCell])) | fail) : PinnedZ e ns ps os := ⟨hs, ho⟩
section
variable {G : Glob} (hm : pg.follows .mixedOrders = true) (hz : ∀ T, ∀ c ∈ (ttOf pg T).zero, Bd c) (hG : GF G)
include hm hz hG
set_option maxHeartbeats 8000000 in
theorem laws_equalInts.w {a1 : List Int} {a2 : List Int} (inv0 : (Int) → Prop) (mu0 : (Int) → Nat) (res0 : (Int) → Bool) (hb0 : ∀ (s_ : Int), inv0  s_ → laws_equalInts.b0 a1 a2  (LI (inv0 ) (mu0 ) (res0 ) (mu0  s_)) (res0  s_) s_ = some (res0  s_)) {r : Bool} (H : laws_equalInts.f a1 a2 (EI (inv0 ) (mu0 ) (res0 )) r = some r) : FnOK pg G 68 [.sl (a1.map eI), .sl (a2.map eI)] [] (.bool r) [] false := by
  obtain ⟨V, hV⟩ := exV
  simp only [← hV.rI]
  refine fn_ok (tt0 := tyG [ty3, ty4, ty36]) (fn := Tryz.f68) (body := bodyOf Tryz.f68) (ext := []) hm (tyG_sub ⟨tt3, tt4, tt36, trivial⟩) hz 0 true [] (by unfold pg; exact Tryz.func68) rfl rfl (by simp [Tryz.f68]) (by simp [EObj.toObj]) (by cbv) ?_
  intro A F hA hF
  unfold laws_equalInts.f at H
  cbv
  repeat' (first
    | (cases H; exact fin_plain hF rfl rfl rfl rfl)
    | (with_reducible refine s_lt H (fun H => ?_) (fun H => ?_) <;> cbv)
    | (with_reducible refine s_le H (fun H => ?_) (fun H => ?_) <;> cbv)
    | (with_reducible refine s_eq H (fun H => ?_) (fun H => ?_) <;> cbv)
    | (with_reducible refine s_ne H (fun H => ?_) (fun H => ?_) <;> cbv)
    | (with_reducible refine s_ln H lnOf (fun _ H => ?_); cbv)
    | (with_reducible refine s_ixI hV H (fun _ H => ?_); cbv)
    | (with_reducible refine s_ar H (fun _ H => ?_); cbv)
    | (with_reducible refine s_lv H (fun _ H => ?_); cbv)
    | (with_reducible refine s_loop hA H (fun s h => hb0  s h) [0, 1] [] (fun e s => [(5, .int .i64 s)]) (fun e s => []) [] pin_laws_equalInts nbOf ?_; rintro x9 H; unfold laws_equalInts.b0 at H; (try dsimp only at H); cbv)
    | (with_reducible refine s_next H pin_laws_equalInts nbOf)
    | (with_reducible refine indep_of hA ?_; cbv)
    | ((with_reducible refine side ?_); exact sideOf)
    | (with_reducible refine s_tkG hV.rI hV.nI ?_; cbv)
    | (with_reducible refine s_tk1 ?_; cbv)
    | (with_reducible refine And.intro ?_ ?_)
    | (intro ys hys; subst hys; rfl)
    | rfl)
end
section
variable {G : Glob} (hm : pg.follows .mixedOrders = true) (hz : ∀ T, ∀ c ∈ (ttOf pg T).zero, Bd c) (hG : GF G)
include hm hz hG
theorem laws_equalInts.ok {a1 : List Int} {a2 : List Int}  : FnOK pg G 68 [.sl (a1.map eI), .sl (a2.map eI)] [] (.bool (((fun (a b : List Int) => decide (a = b)) a1 a2))) [] false := by
  have A := @laws_equalInts.w G hm hz hG a1 a2 (rgI (a1) (fun i => i) (fun _ => a1.length = a2.length)) (rgM (a1) (fun i => i)) (rgR (a1) (fun i => i) (fun r i => decide (r = a2.drop i.toNat))) (rangeS (a1) (fun i => i) (fun _ => a1.length = a2.length) (fun r i => decide (r = a2.drop i.toNat)) (fun rec z s => laws_equalInts.b0 a1 a2  rec z s) ?_ ?_)
  · refine A ?_
    simp only [laws_equalInts.f]
    refine ln_ok fun hB => ?_
    refine ln_ok fun hB2 => ?_
    refine ite_ok (fun h => EI_fin (rg0 (by omega) rfl) (by simp [rgR])) (fun h => ?_)
    rw [decide_eq_false (fun e => h (by rw [e]))]
  · rintro rec i hI h0 h1
    simp only [laws_equalInts.b0]
    refine ln_ok fun hB => ?_
    rw [if_neg (by omega), List.drop_eq_nil_of_le (by omega)]; rfl
  · rintro rec i x r hI h0 h1 hx hll hr
    obtain ⟨y, hy, hd⟩ := drop_cons' h0 (by omega : i < a2.length)
    simp only [laws_equalInts.b0]
    refine ln_ok fun hB => ?_
    simp (disch := first | assumption | omega | (simp; done) | (simp; omega)) only [if_true, if_false, reduceIte, lv, lj, ln_at, cn_t, cn_f, cn_tf, cn_ft, cn_xx, gd_ok, arr_ok, arr_ok8, arr_ok32, arr_oku, ia_ok, bt_ok, EI_ok, LI_ok, h1, ixI, hx, h0, hy, hr (i + 1) hI rfl, cn_ite, eta_Pair]
    rw [hd]
    by_cases h : x = y <;> simp [h]
end
noncomputable def laws_equalPairs.b0 (a1 : List Pair) (a2 : List Pair)  (h0 : (Int) → Option (Bool)) (z_ : Bool) (x11 : Int) : Option (Bool) := (ln' z_ (a1.length) fun v18 => (if x11 < v18 then (ixPair a1 x11 fun v19 v20 => (ixPair a2 x11 fun v21 v22 => (if (⟨v19, v20⟩ : Pair) = ⟨v21, v22⟩ then (arr .i64 (x11 + 1) fun v23 => (h0 v23)) else (some false)))) else (some true)))
noncomputable def laws_equalPairs.f (a1 : List Pair) (a2 : List Pair) (h0 : (Int) → Option (Bool)) (z_ : Bool) : Option (Bool) := (ln' z_ (a1.length) fun v3 => (ln' z_ (a2.length) fun v4 => (if v3 = v4 then (h0 0) else (some false))))
theorem pin_laws_equalPairs {e : ESt} {ns : List (Nat × Nat)} {ps : List (Nat × C)} {os : List (Nat × EObj)} (hs : pinPZ (pinZ e.o (os.map Prod.fst) ns) e.s ps := by first | (cbv <;> (repeat' (first | trivial | refine And.intro ?_ ?_)) <;> (first | rfl | assumption | omega | exact clPair hV _ | with_unfolding_all exact hV.nPair [] | with_unfolding_all exact (hV.nPair []).symm | with_unfolding_all exact hV.rPair _ | with_unfolding_all exact (hV.nPair _).trans (Eq.trans (by simp only [hV.nPair] at *; omega) (hV.nPair _).symm) | simp [closedCell])) | fail) (ho : ∀ B : (Nat → EObj) → List (List C) → List (List C) → Prop, (∀ o rows rows', rowsZ (pinZ o (os.map Prod.fst) ns) rows rows' → B o rows rows') → pinOZ (pinZ e.o (os.map Prod.fst) ns) B e.o ns os := by intro B hB; first | (cbv <;> (repeat' (first | trivial | refine And.intro ?_ ?_ | refine pin_same hB ?_ | refine pin_nil hB ?_ | refine pin_dirty hB (by assumption) (by assumption) ?_ ?_ | exact pinL_n | refine pinL_c ?_ ?_ | exact pzr rfl rfl rfl (nrPair hV _) (clPair hV _) | (refine pz_go ?_; cbv) | (refine pinL_go ?_; cbv))) <;> (first | exact clPair hV _ | with_unfolding_all exact hV.rPair _ | with_unfolding_all exact hV.nPair [] | with_unfolding_all exact (hV.nPair []).symm | assumption | omega | rfl | with_unfolding_all exact (hV.nPair _).trans (Eq.trans (by simp only [hV.nPair] at *; omega) (hV.nPair _).symm) | simp [closedCell])) | fail) : PinnedZ e ns ps os := ⟨hs, ho⟩
section
variable {G : Glob} (hm : pg.follows .mixedOrders = true) (hz : ∀ T, ∀ c ∈ (ttOf pg T).zero, Bd c) (hG : GF G)
include hm hz hG
set_option maxHeartbeats 8000000 in
theorem laws_equalPairs.w {a1 : List Pair} {a2 : List Pair} (inv0 : (Int) → Prop) (mu0 : (Int) → Nat) (res0 : (Int) → Bool) (hb0 : ∀ (s_ : Int), inv0  s_ → laws_equalPairs.b0 a1 a2  (LI (inv0 ) (mu0 ) (res0 ) (mu0  s_)) (res0  s_) s_ = some (res0  s_)) {r : Bool} (H : laws_equalPairs.f a1 a2 (EI (inv0 ) (mu0 ) (res0 )) r = some r) : FnOK pg G 69 [.sl (a1.map ePair), .sl (a2.map ePair)] [] (.bool r) [] false := by
  obtain ⟨V, hV⟩ := exV
  simp only [← hV.rPair]
  refine fn_ok (tt0 := tyG [ty3, ty4, ty9, ty37, ty80]) (fn := Tryz.f69) (body := bodyOf Tryz.f69) (ext := []) hm (tyG_sub ⟨tt3, tt4, tt9, tt37, tt80, trivial⟩) hz 0 true [] (by unfold pg; exact Tryz.func69) rfl rfl (by simp [Tryz.f69]) (by simp [EObj.toObj]) (by cbv) ?_
  intro A F hA hF
  unfold laws_equalPairs.f at H
  cbv
  repeat' (first
    | (cases H; exact fin_plain hF rfl rfl rfl rfl)
    | (with_reducible refine s_lt H (fun H => ?_) (fun H => ?_) <;> cbv)
    | (with_reducible refine s_le H (fun H => ?_) (fun H => ?_) <;> cbv)
    | (with_reducible refine s_eq H (fun H => ?_) (fun H => ?_) <;> cbv)
    | (with_reducible refine s_ne H (fun H => ?_) (fun H => ?_) <;> cbv)
    | (with_reducible refine s_nePair H (fun H => ?_) (fun H => ?_) <;> cbv)
    | (with_reducible refine s_eqPair H (fun H => ?_) (fun H => ?_) <;> cbv)
    | (with_reducible refine s_ln H lnOf (fun _ H => ?_); cbv)
    | (with_reducible refine s_ixPair hV H (fun _ _ H => ?_); cbv)
    | (with_reducible refine s_ar H (fun _ H => ?_); cbv)
    | (with_reducible refine s_lv H (fun _ H => ?_); cbv)
    | (with_reducible refine s_loop hA H (fun s h => hb0  s h) [0, 1] [] (fun e s => [(5, .int .i64 s)]) (fun e s => []) [] pin_laws_equalPairs nbOf ?_; rintro x11 H; unfold laws_equalPairs.b0 at H; (try dsimp only at H); cbv)
    | (with_reducible refine s_next H pin_laws_equalPairs nbOf)
    | (with_reducible refine indep_of hA ?_; cbv)
    | ((with_reducible refine side ?_); exact sideOf)
    | (with_reducible refine s_tkG hV.rPair hV.nPair ?_; cbv)
    | (with_reducible refine s_tk1 ?_; cbv)
    | (with_reducible refine And.intro ?_ ?_)
    | (intro ys hys; subst hys; rfl)
    | rfl)
end
section
variable {G : Glob} (hm : pg.follows .mixedOrders = true) (hz : ∀ T, ∀ c ∈ (ttOf pg T).zero, Bd c) (hG : GF G)
include hm hz hG
theorem laws_equalPairs.ok {a1 : List Pair} {a2 : List Pair}  : FnOK pg G 69 [.sl (a1.map ePair), .sl (a2.map ePair)] [] (.bool (((fun (a b : List Pair) => decide (a = b)) a1 a2))) [] false := by
  have A := @laws_equalPairs.w G hm hz hG a1 a2 (rgI (a1) (fun i => i) (fun _ => a1.length = a2.length)) (rgM (a1) (fun i => i)) (rgR (a1) (fun i => i) (fun r i => decide (r = a2.drop i.toNat))) (rangeS (a1) (fun i => i) (fun _ => a1.length = a2.length) (fun r i => decide (r = a2.drop i.toNat)) (fun rec z s => laws_equalPairs.b0 a1 a2  rec z s) ?_ ?_)
  · refine A ?_
    simp only [laws_equalPairs.f]
    refine ln_ok fun hB => ?_
    refine ln_ok fun hB2 => ?_
    refine ite_ok (fun h => EI_fin (rg0 (by omega) rfl) (by simp [rgR])) (fun h => ?_)
    rw [decide_eq_false (fun e => h (by rw [e]))]
  · rintro rec i hI h0 h1
    simp only [laws_equalPairs.b0]
    refine ln_ok fun hB => ?_
    rw [if_neg (by omega), List.drop_eq_nil_of_le (by omega)]; rfl
  · rintro rec i x r hI h0 h1 hx hll hr
    obtain ⟨y, hy, hd⟩ := drop_cons' h0 (by omega : i < a2.length)
    simp only [laws_equalPairs.b0]
    refine ln_ok fun hB => ?_
    simp (disch := first | assumption | omega | (simp; done) | (simp; omega)) only [if_true, if_false, reduceIte, lv, lj, ln_at, cn_t, cn_f, cn_tf, cn_ft, cn_xx, gd_ok, arr_ok, arr_ok8, arr_ok32, arr_oku, ia_ok, bt_ok, EI_ok, LI_ok, h1, ixPair, hx, h0, hy, hr (i + 1) hI rfl, cn_ite, eta_Pair]
    rw [hd]
    by_cases h : x = y <;> simp [h]
end
noncomputable def laws_equalCall.b0 (a1 : List Arg) (a2 : List Arg)  (h0 : (Int) → Option (Bool)) (z_ : Bool) (x142 : Int) : Option (Bool) := (ln' z_ (a1.length) fun v177 => (if x142 < v177 then (ixArg a1 x142 fun v198 v199 v200 v201 => (ixArg a2 x142 fun v206 v207 v208 v209 => (if v198 = v206 then (if v199 = v207 then (cn ((fun (a b : List Int) => decide (a = b)) v200 v208) (cn ((fun (a b : List Pair) => decide (a = b)) v201 v209) (arr .i64 (x142 + 1) fun v210 => (h0 v210)) (some false)) (some false)) else (some false)) else (some false)))) else (some true)))
noncomputable def laws_equalCall.f (a1 : List Arg) (a2 : List Arg) (h0 : (Int) → Option (Bool)) (z_ : Bool) : Option (Bool) := (ln' z_ (a1.length) fun v3 => (ln' z_ (a2.length) fun v4 => (if v3 = v4 then (h0 0) else (some false))))
theorem pin_laws_equalCall {e : ESt} {ns : List (Nat × Nat)} {ps : List (Nat × C)} {os : List (Nat × EObj)} (hs : pinPZ (pinZ e.o (os.map Prod.fst) ns) e.s ps := by first | (cbv <;> (repeat' (first | trivial | refine And.intro ?_ ?_)) <;> (first | rfl | assumption | omega | exact clI hV _ | exact clPair hV _ | exact clArg hV _ | with_unfolding_all exact hV.nI [] | with_unfolding_all exact (hV.nI []).symm | with_unfolding_all exact hV.nPair [] | with_unfolding_all exact (hV.nPair []).symm | with_unfolding_all exact hV.nArg [] | with_unfolding_all exact (hV.nArg []).symm | with_unfolding_all exact hV.rI _ | with_unfolding_all exact hV.rPair _ | with_unfolding_all exact hV.rArg _ | with_unfolding_all exact (hV.nI _).trans (Eq.trans (by simp only [hV.nI] at *; omega) (hV.nI _).symm) | with_unfolding_all exact (hV.nPair _).trans (Eq.trans (by simp only [hV.nPair] at *; omega) (hV.nPair _).symm) | with_unfolding_all exact (hV.nArg _).trans (Eq.trans (by simp only [hV.nArg] at *; omega) (hV.nArg _).symm) | simp [closedCell])) | fail) (ho : ∀ B : (Nat → EObj) → List (List C) → List (List C) → Prop, (∀ o rows rows', rowsZ (pinZ o (os.map Prod.fst) ns) rows rows' → B o rows rows') → pinOZ (pinZ e.o (os.map Prod.fst) ns) B e.o ns os := by intro B hB; first | (cbv <;> (repeat' (first | trivial | refine And.intro ?_ ?_ | refine pin_same hB ?_ | refine pin_nil hB ?_ | refine pin_dirty hB (by assumption) (by assumption) ?_ ?_ | exact pinL_n | refine pinL_c ?_ ?_ | exact pzr rfl rfl rfl (nrI hV _) (clI hV _) | exact pzr rfl rfl rfl (nrPair hV _) (clPair hV _) | exact pzr rfl rfl rfl (nrArg hV _) (clArg hV _) | (refine pz_go ?_; cbv) | (refine pinL_go ?_; cbv))) <;> (first | exact clI hV _ | exact clPair hV _ | exact clArg hV _ | with_unfolding_all exact hV.rI _ | with_unfolding_all exact hV.rPair _ | with_unfolding_all exact hV.rArg _ | with_unfolding_all exact hV.nI [] | with_unfolding_all exact (hV.nI []).symm | with_unfolding_all exact hV.nPair [] | with_unfolding_all exact (hV.nPair []).symm | with_unfolding_all exact hV.nArg [] | with_unfolding_all exact (hV.nArg []).symm | assumption | omega | rfl | with_unfolding_all exact (hV.nI _).trans (Eq.trans (by simp only [hV.nI] at *; omega) (hV.nI _).symm) | with_unfolding_all exact (hV.nPair _).trans (Eq.trans (by simp only [hV.nPair] at *; omega) (hV.nPair _).symm) | with_unfolding_all exact (hV.nArg _).trans (Eq.trans (by simp only [hV.nArg] at *; omega) (hV.nArg _).symm) | simp [closedCell])) | fail) : PinnedZ e ns ps os := ⟨hs, ho⟩
section
variable {G : Glob} (hm : pg.follows .mixedOrders = true) (hz : ∀ T, ∀ c ∈ (ttOf pg T).zero, Bd c) (hG : GF G)
include hm hz hG
set_option maxHeartbeats 8000000 in
theorem laws_equalCall.w {a1 : List Arg} {a2 : List Arg} (inv0 : (Int) → Prop) (mu0 : (Int) → Nat) (res0 : (Int) → Bool) (hb0 : ∀ (s_ : Int), inv0  s_ → laws_equalCall.b0 a1 a2  (LI (inv0 ) (mu0 ) (res0 ) (mu0  s_)) (res0  s_) s_ = some (res0  s_)) {r : Bool} (H : laws_equalCall.f a1 a2 (EI (inv0 ) (mu0 ) (res0 )) r = some r) : FnOK pg G 17 [.agg [.sl (a1.map eArg)], .agg [.sl (a2.map eArg)]] [] (.bool r) [] false := by
  obtain ⟨V, hV⟩ := exV
  simp only [← hV.rI, ← hV.rPair, ← hV.rArg]
  refine fn_ok (tt0 := tyG [ty3, ty4, ty9, ty22, ty24, ty36, ty37, ty74, ty80]) (fn := Tryz.f17) (body := bodyOf Tryz.f17) (ext := []) hm (tyG_sub ⟨tt3, tt4, tt9, tt22, tt24, tt36, tt37, tt74, tt80, trivial⟩) hz 0 true [] (by unfold pg; exact Tryz.func17) rfl rfl (by simp [Tryz.f17]) (by simp [EObj.toObj]) (by cbv) ?_
  intro A F hA hF
  unfold laws_equalCall.f at H
  cbv
  repeat' (first
    | (cases H; exact fin_plain hF rfl rfl rfl rfl)
    | (with_reducible refine s_lt H (fun H => ?_) (fun H => ?_) <;> cbv)
    | (with_reducible refine s_le H (fun H => ?_) (fun H => ?_) <;> cbv)
    | (with_reducible refine s_eq H (fun H => ?_) (fun H => ?_) <;> cbv)
    | (with_reducible refine s_ne H (fun H => ?_) (fun H => ?_) <;> cbv)
    | (with_reducible refine s_ln H lnOf (fun _ H => ?_); cbv)
    | (with_reducible refine s_ixArg hV H (fun _ _ _ _ H => ?_); cbv)
    | (with_reducible refine s_ar H (fun _ H => ?_); cbv)
    | (with_reducible refine s_lv H (fun _ H => ?_); cbv)
    | (with_reducible refine s_loop hA H (fun s h => hb0  s h) [2, 3] [128, 192] (fun e s => [(5, .int .i64 s)]) (fun e s => []) [] pin_laws_equalCall nbOf ?_; rintro x142 H; unfold laws_equalCall.b0 at H; (try dsimp only at H); cbv)
    | (with_reducible refine s_next H pin_laws_equalCall nbOf)
    | (with_reducible refine s_cb hA H (by (try simp only [hV.rI, hV.rPair, hV.rArg]); with_unfolding_all exact laws_equalInts.ok hm hz hG) rfl (fun H => ?_) (fun H => ?_) <;> cbv)
    | (with_reducible refine s_cb hA H (by (try simp only [hV.rI, hV.rPair, hV.rArg]); with_unfolding_all exact laws_equalPairs.ok hm hz hG) rfl (fun H => ?_) (fun H => ?_) <;> cbv)
    | (with_reducible refine indep_of hA ?_; cbv)
    | ((with_reducible refine side ?_); exact sideOf)
    | (with_reducible refine s_tkG hV.rI hV.nI ?_; cbv)
    | (with_reducible refine s_tkG hV.rPair hV.nPair ?_; cbv)
    | (with_reducible refine s_tkG hV.rArg hV.nArg ?_; cbv)
    | (with_reducible refine s_tk1 ?_; cbv)
    | (with_reducible refine And.intro ?_ ?_)
    | ((with_reducible refine s_cn H (fun hb H => ?_) (fun hb H => ?_)) <;> (revert H; subst hb; intro H; cbv))
    | (intro ys hys; subst hys; rfl)
    | rfl)
end
section
variable {G : Glob} (hm : pg.follows .mixedOrders = true) (hz : ∀ T, ∀ c ∈ (ttOf pg T).zero, Bd c) (hG : GF G)
include hm hz hG
theorem laws_equalCall.ok {a1 : List Arg} {a2 : List Arg}  : FnOK pg G 17 [.agg [.sl (a1.map eArg)], .agg [.sl (a2.map eArg)]] [] (.bool (((fun (a b : Cal) => decide (a = b)) ⟨a1⟩ ⟨a2⟩))) [] false := by
  have A := @laws_equalCall.w G hm hz hG a1 a2 (rgI (a1) (fun i => i) (fun _ => a1.length = a2.length)) (rgM (a1) (fun i => i)) (rgR (a1) (fun i => i) (fun r i => decide (r = a2.drop i.toNat))) (rangeS (a1) (fun i => i) (fun _ => a1.length = a2.length) (fun r i => decide (r = a2.drop i.toNat)) (fun rec z s => laws_equalCall.b0 a1 a2  rec z s) ?_ ?_)
  · refine A ?_
    simp only [laws_equalCall.f]
    refine ln_ok fun hB => ?_
    refine ln_ok fun hB2 => ?_
    refine ite_ok (fun h => EI_fin (rg0 (by omega) rfl) (by simp [rgR])) (fun h => ?_)
    rw [decide_eq_false (fun e => h (by cases e; rfl))]
  · rintro rec i hI h0 h1
    simp only [laws_equalCall.b0]
    refine ln_ok fun hB => ?_
    rw [if_neg (by omega), List.drop_eq_nil_of_le (by omega)]; rfl
  · rintro rec i ⟨x1, x2, x3, x4⟩ r hI h0 h1 hx hll hr
    obtain ⟨⟨y1, y2, y3, y4⟩, hy, hd⟩ := drop_cons' h0 (by omega : i < a2.length)
    simp only [laws_equalCall.b0]
    refine ln_ok fun hB => ?_
    simp (disch := first | assumption | omega | (simp; done) | (simp; omega)) only [if_true, if_false, reduceIte, lv, lj, ln_at, cn_t, cn_f, cn_tf, cn_ft, cn_xx, gd_ok, arr_ok, arr_ok8, arr_ok32, arr_oku, ia_ok, bt_ok, EI_ok, LI_ok, h1, ixArg, hx, h0, hy, hr (i + 1) hI rfl, cn_ite]
    rw [hd]
    by_cases h1 : x1 = y1 <;> by_cases h2 : x2 = y2 <;> by_cases h3 : x3 = y3 <;> by_cases h4 : x4 = y4 <;> simp [h1, h2, h3, h4]
end
noncomputable def laws_FnTopCall.f (a1 : Str)  (z_ : Bool) : Option (Bool) := (gd (a1.length ≤ 1048576) (on_Cal_B (parseCallI a1) fun v4 v5 => (gd (a1.length ≤ 1048576) (on_Cal_B (ParseCallS a1) fun v8 v9 => (cn ((fun (a b : Cal) => decide (a = b)) (⟨v4⟩) (⟨v8⟩)) (cn v5 (cn v9 (lv (callText (⟨v4⟩)) fun v10 => (if v10 = a1 then (cn (validCall (⟨v4⟩)) (some true) (some false)) else (some false))) (cn ((fun (a b : Cal) => decide (a = b)) (⟨v4⟩) (⟨v8⟩)) (some false) (some false))) (cn v9 (cn ((fun (a b : Cal) => decide (a = b)) (⟨v4⟩) (⟨v8⟩)) (some false) (some false)) (cn ((fun (a b : Cal) => decide (a = b)) (⟨v4⟩) (⟨v8⟩)) (some true) (some false)))) (cn ((fun (a b : Cal) => decide (a = b)) (⟨v4⟩) (⟨v8⟩)) (cn v5 (cn v9 (some true) (some false)) (cn v9 (some false) (some true))) (some false)))))))
section
variable {G : Glob} (hm : pg.follows .mixedOrders = true) (hz : ∀ T, ∀ c ∈ (ttOf pg T).zero, Bd c) (hG : GF G)
include hm hz hG
theorem laws_FnTopCall.w {a1 : Str}  {r : Bool} (H : laws_FnTopCall.f a1  r = some r) : FnOK pg G 3 [.str ⟨⟨a1⟩⟩] [] (.bool r) [] false := by
  obtain ⟨V, hV⟩ := exV
  refine fn_ok (tt0 := tyG [ty3, ty4, ty9, ty22, ty24, ty36, ty37, ty74, ty80]) (fn := Tryz.f3) (body := bodyOf Tryz.f3) (ext := []) hm (tyG_sub ⟨tt3, tt4, tt9, tt22, tt24, tt36, tt37, tt74, tt80, trivial⟩) hz 0 true [] (by unfold pg; exact Tryz.func3) rfl rfl (by simp [Tryz.f3]) (by simp [EObj.toObj]) (by cbv) ?_
  intro A F hA hF
  unfold laws_FnTopCall.f at H
  cbv
  repeat' (first
    | (with_reducible refine s_gd H (fun hg H => ?_))
    | (cases H; exact fin_plain hF rfl rfl rfl rfl)
    | (with_reducible refine s_lt H (fun H => ?_) (fun H => ?_) <;> cbv)
    | (with_reducible refine s_le H (fun H => ?_) (fun H => ?_) <;> cbv)
    | (with_reducible refine s_eq H (fun H => ?_) (fun H => ?_) <;> cbv)
    | (with_reducible refine s_ne H (fun H => ?_) (fun H => ?_) <;> cbv)
    | (with_reducible refine s_apZArg hV H (fun _ _ H hk_ zs_ hd_ => ?_); cbv)
    | (with_reducible refine s_bnZArg hV H (fun _ _ H hk_ zs_ hd_ => ?_); cbv)
    | (with_reducible refine s_a0ZArg hV H (fun _ _ H hk_ zs_ hd_ => ?_); cbv)
    | (with_reducible refine s_lv H (fun _ H => ?_); cbv)
    | (with_reducible refine s_cCal_B hV hA H (by (try simp only [hV.rI, hV.rPair, hV.rArg]); (first | (have hk_ := impl_ParseCall.ok hm hz hG hg; with_unfolding_all exact hk_) | (with_unfolding_all exact impl_ParseCall.ok hm hz hG (by first | assumption | omega)))) rfl (fun _ _ H => ?_); cbv)
    | (with_reducible refine s_cCal_B hV hA H (by (try simp only [hV.rI, hV.rPair, hV.rArg]); (first | (have hk_ := spec_ParseCall.ok hm hz hG hg; with_unfolding_all exact hk_) | (with_unfolding_all exact spec_ParseCall.ok hm hz hG (by first | assumption | omega)))) rfl (fun _ _ H => ?_); cbv)
    | (with_reducible refine s_cb hA H (by (try simp only [hV.rI, hV.rPair, hV.rArg]); with_unfolding_all exact laws_equalCall.ok hm hz hG) rfl (fun H => ?_) (fun H => ?_) <;> cbv)
    | (with_reducible refine s_cs hA H (by (try simp only [hV.rI, hV.rPair, hV.rArg]); with_unfolding_all exact impl_CallText.ok hm hz hG) rfl (fun _ H => ?_); cbv)
    | (with_reducible refine s_cb hA H (by (try simp only [hV.rI, hV.rPair, hV.rArg]); with_unfolding_all exact impl_ValidCall.ok hm hz hG) rfl (fun H => ?_) (fun H => ?_) <;> cbv)
    | (with_reducible refine indep_of hA ?_; cbv)
    | ((with_reducible refine side ?_); exact sideOf)
    | (with_reducible refine s_tkG hV.rI hV.nI ?_; cbv)
    | (with_reducible refine s_tkG hV.rPair hV.nPair ?_; cbv)
    | (with_reducible refine s_tkG hV.rArg hV.nArg ?_; cbv)
    | (with_reducible refine s_tk1 ?_; cbv)
    | (with_reducible refine And.intro ?_ ?_)
    | ((with_reducible refine s_cn H (fun hb H => ?_) (fun hb H => ?_)) <;> (revert H; subst hb; intro H; cbv))
    | (intro ys hys; subst hys; rfl)
    | rfl)
end
end Go.Proofs.YtoofegkjdjlpkaaGreatDoor.M
