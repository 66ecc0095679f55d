/- Validity of calls. -/
import Derived.Test.YtoofegkjdjlpkaaGreatDoorPH
set_option linter.unusedVariables false
set_option linter.unusedSimpArgs false
set_option linter.unusedSectionVars false
namespace Go.Proofs.YtoofegkjdjlpkaaGreatDoor.M
open Go Go.Proofs
set_option maxRecDepth 100000
noncomputable def spec_validNumbers.b0 (a1 : List Int)  (h0 : (Int) → Option (Bool)) (z_ : Bool) (x5 : Int) : Option (Bool) := (ln' z_ (a1.length) fun v9 => (if x5 < v9 then (ixI a1 x5 fun v10 => (cn (isValue v10) (arr .i64 (x5 + 1) fun v11 => (h0 v11)) (some false))) else (some true)))
noncomputable def spec_validNumbers.f (a1 : List Int) (h0 : (Int) → Option (Bool)) (z_ : Bool) : Option (Bool) := (h0 0)
theorem pin_spec_validNumbers {e : ESt} {ns : List (Nat × Nat)} {ps : List (Nat × C)} {os : List (Nat × EObj)} (hs : pinPZ (pinZ e.o (os.map Prod.fst) ns) e.s ps := by first | (cbv <;> (repeat' (first | trivial | refine And.intro ?_ ?_)) <;> (first | rfl | assumption | omega | exact clI hV _ | with_unfolding_all exact hV.nI [] | with_unfolding_all exact (hV.nI []).symm | with_unfolding_all exact hV.rI _ | with_unfolding_all exact (hV.nI _).trans (Eq.trans (by simp only [hV.nI] at *; omega) (hV.nI _).symm) | simp [closedCell])) | fail) (ho : ∀ B : (Nat → EObj) → List (List C) → List (List C) → Prop, (∀ o rows rows', rowsZ (pinZ o (os.map Prod.fst) ns) rows rows' → B o rows rows') → pinOZ (pinZ e.o (os.map Prod.fst) ns) B e.o ns os := by intro B hB; first | (cbv <;> (repeat' (first | trivial | refine And.intro ?_ ?_ | refine pin_same hB ?_ | refine pin_nil hB ?_ | refine pin_dirty hB (by assumption) (by assumption) ?_ ?_ | exact pinL_n | refine pinL_c ?_ ?_ | exact pzr rfl rfl rfl (nrI hV _) (clI hV _) | (refine pz_go ?_; cbv) | (refine pinL_go ?_; cbv))) <;> (first | exact clI hV _ | with_unfolding_all exact hV.rI _ | with_unfolding_all exact hV.nI [] | with_unfolding_all exact (hV.nI []).symm | assumption | omega | rfl | with_unfolding_all exact (hV.nI _).trans (Eq.trans (by simp only [hV.nI] at *; omega) (hV.nI _).symm) | simp [closedCell])) | fail) : PinnedZ e ns ps os := ⟨hs, ho⟩
section
variable {G : Glob} (hm : pg.follows .mixedOrders = true) (hz : ∀ T, ∀ c ∈ (ttOf pg T).zero, Bd c) (hG : GF G)
include hm hz hG
set_option maxHeartbeats 8000000 in
theorem spec_validNumbers.w {a1 : List Int} (inv0 : (Int) → Prop) (mu0 : (Int) → Nat) (res0 : (Int) → Bool) (hb0 : ∀ (s_ : Int), inv0  s_ → spec_validNumbers.b0 a1  (LI (inv0 ) (mu0 ) (res0 ) (mu0  s_)) (res0  s_) s_ = some (res0  s_)) {r : Bool} (H : spec_validNumbers.f a1 (EI (inv0 ) (mu0 ) (res0 )) r = some r) : FnOK pg G 153 [.sl (a1.map eI)] [] (.bool r) [] false := by
  obtain ⟨V, hV⟩ := exV
  simp only [← hV.rI]
  refine fn_ok (tt0 := tyG [ty3, ty4, ty36]) (fn := Tryz.f153) (body := bodyOf Tryz.f153) (ext := []) hm (tyG_sub ⟨tt3, tt4, tt36, trivial⟩) hz 0 true [] (by unfold pg; exact Tryz.func153) rfl rfl (by simp [Tryz.f153]) (by simp [EObj.toObj]) (by cbv) ?_
  intro A F hA hF
  unfold spec_validNumbers.f at H
  cbv
  repeat' (first
    | (cases H; exact fin_plain hF rfl rfl rfl rfl)
    | (with_reducible refine s_lt H (fun H => ?_) (fun H => ?_) <;> cbv)
    | (with_reducible refine s_le H (fun H => ?_) (fun H => ?_) <;> cbv)
    | (with_reducible refine s_eq H (fun H => ?_) (fun H => ?_) <;> cbv)
    | (with_reducible refine s_ne H (fun H => ?_) (fun H => ?_) <;> cbv)
    | (with_reducible refine s_ln H lnOf (fun _ H => ?_); cbv)
    | (with_reducible refine s_ixI hV H (fun _ H => ?_); cbv)
    | (with_reducible refine s_ar H (fun _ H => ?_); cbv)
    | (with_reducible refine s_lv H (fun _ H => ?_); cbv)
    | (with_reducible refine s_loop hA H (fun s h => hb0  s h) [0] [] (fun e s => [(3, .int .i64 s)]) (fun e s => []) [] pin_spec_validNumbers nbOf ?_; rintro x5 H; unfold spec_validNumbers.b0 at H; (try dsimp only at H); cbv)
    | (with_reducible refine s_next H pin_spec_validNumbers nbOf)
    | (with_reducible refine s_cb hA H (by (try simp only [hV.rI]); with_unfolding_all exact spec_validNumber.ok hm hz hG) rfl (fun H => ?_) (fun H => ?_) <;> cbv)
    | (with_reducible refine indep_of hA ?_; cbv)
    | ((with_reducible refine side ?_); exact sideOf)
    | (with_reducible refine s_tkG hV.rI hV.nI ?_; cbv)
    | (with_reducible refine s_tk1 ?_; cbv)
    | (with_reducible refine And.intro ?_ ?_)
    | ((with_reducible refine s_cn H (fun hb H => ?_) (fun hb H => ?_)) <;> (revert H; subst hb; intro H; cbv))
    | (intro ys hys; subst hys; rfl)
    | rfl)
end
section
variable {G : Glob} (hm : pg.follows .mixedOrders = true) (hz : ∀ T, ∀ c ∈ (ttOf pg T).zero, Bd c) (hG : GF G)
include hm hz hG
theorem spec_validNumbers.ok {a1 : List Int}  : FnOK pg G 153 [.sl (a1.map eI)] [] (.bool ((areValues a1))) [] false := by
  have A := @spec_validNumbers.w G hm hz hG a1 (rgI (a1) (fun i => i) (fun _ => True)) (rgM (a1) (fun i => i)) (rgR (a1) (fun i => i) (fun r _ => r.all isValue)) (rangeS (a1) (fun i => i) (fun _ => True) (fun r _ => r.all isValue) (fun rec z s => spec_validNumbers.b0 a1  rec z s) ?_ ?_)
  · exact A (EI_fin (rg0 trivial rfl) rfl)
  · intro rec s _ h0 h1
    simp only [spec_validNumbers.b0]
    refine ln_ok fun hB => ?_
    simp (disch := first | assumption | omega | (simp; done) | (simp; omega)) only [if_true, if_false, reduceIte, lv, lj, ln_at, cn_t, cn_f, cn_tf, cn_ft, cn_xx, gd_ok, arr_ok, arr_ok8, arr_ok32, arr_oku, ia_ok, bt_ok, EI_ok, LI_ok, h1, Int.lt_irrefl]
    rfl
  · intro rec s x r _ h0 h1 hx hl hr
    simp only [spec_validNumbers.b0]
    refine ln_ok fun hB => ?_
    simp (disch := first | assumption | omega | (simp; done) | (simp; omega)) only [if_true, if_false, reduceIte, lv, lj, ln_at, cn_t, cn_f, cn_tf, cn_ft, cn_xx, gd_ok, arr_ok, arr_ok8, arr_ok32, arr_oku, ia_ok, bt_ok, EI_ok, LI_ok, h1, ixI, hx, h0, hr _ trivial rfl, List.all_cons]
    cases isValue x <;> rfl
end
def validPair (p : Pair) : Bool := isName p.name && isValue p.value
def validPairs (l : List Pair) : Bool := l.all validPair
noncomputable def impl_Pair_valid.f (a1 : Str) (a2 : Int)  (z_ : Bool) : Option (Bool) := (cn (isName a1) (cn (isValue a2) (some true) (some false)) (some false))
section
variable {G : Glob} (hm : pg.follows .mixedOrders = true) (hz : ∀ T, ∀ c ∈ (ttOf pg T).zero, Bd c) (hG : GF G)
include hm hz hG
theorem impl_Pair_valid.w {a1 : Str} {a2 : Int}  {r : Bool} (H : impl_Pair_valid.f a1 a2  r = some r) : FnOK pg G 86 [.agg [.str ⟨⟨a1⟩⟩, .int .i64 a2]] [] (.bool r) [] false := by
  obtain ⟨V, hV⟩ := exV
  refine fn_ok (tt0 := tyG [ty3, ty4, ty9, ty80]) (fn := Tryz.f86) (body := bodyOf Tryz.f86) (ext := []) hm (tyG_sub ⟨tt3, tt4, tt9, tt80, trivial⟩) hz 0 true [] (by unfold pg; exact Tryz.func86) rfl rfl (by simp [Tryz.f86]) (by simp [EObj.toObj]) (by cbv) ?_
  intro A F hA hF
  unfold impl_Pair_valid.f at H
  cbv
  repeat' (first
    | (cases H; exact fin_plain hF rfl rfl rfl rfl)
    | (with_reducible refine s_lv H (fun _ H => ?_); cbv)
    | (with_reducible refine s_cb hA H (by with_unfolding_all exact impl_isName.ok hm hz hG) rfl (fun H => ?_) (fun H => ?_) <;> cbv)
    | (with_reducible refine s_cb hA H (by with_unfolding_all exact impl_isValue.ok hm hz hG) rfl (fun H => ?_) (fun H => ?_) <;> cbv)
    | (with_reducible refine indep_of hA ?_; cbv)
    | ((with_reducible refine side ?_); exact sideOf)
    | (with_reducible refine s_tk1 ?_; cbv)
    | (with_reducible refine And.intro ?_ ?_)
    | ((with_reducible refine s_cn H (fun hb H => ?_) (fun hb H => ?_)) <;> (revert H; subst hb; intro H; cbv))
    | (intro ys hys; subst hys; rfl)
    | rfl)
end
section
variable {G : Glob} (hm : pg.follows .mixedOrders = true) (hz : ∀ T, ∀ c ∈ (ttOf pg T).zero, Bd c) (hG : GF G)
include hm hz hG
theorem impl_Pair_valid.ok {a1 : Str} {a2 : Int}  : FnOK pg G 86 [.agg [.str ⟨⟨a1⟩⟩, .int .i64 a2]] [] (.bool ((validPair ⟨a1, a2⟩))) [] false := by
  refine impl_Pair_valid.w hm hz hG ?_
  simp only [impl_Pair_valid.f, validPair]; cases isName a1 <;> cases isValue a2 <;> rfl
end
noncomputable def spec_validPairs.b0 (a1 : List Pair)  (h0 : (Int) → Option (Bool)) (z_ : Bool) (x8 : Int) : Option (Bool) := (ln' z_ (a1.length) fun v15 => (if x8 < v15 then (ixPair a1 x8 fun v16 v17 => (cn (isName v16) (ixPair a1 x8 fun v18 v19 => (cn (isValue v19) (arr .i64 (x8 + 1) fun v20 => (h0 v20)) (some false))) (some false))) else (some true)))
noncomputable def spec_validPairs.f (a1 : List Pair) (h0 : (Int) → Option (Bool)) (z_ : Bool) : Option (Bool) := (h0 0)
theorem pin_spec_validPairs {e : ESt} {ns : List (Nat × Nat)} {ps : List (Nat × C)} {os : List (Nat × EObj)} (hs : pinPZ (pinZ e.o (os.map Prod.fst) ns) e.s ps := by first | (cbv <;> (repeat' (first | trivial | refine And.intro ?_ ?_)) <;> (first | rfl | assumption | omega | exact clPair hV _ | with_unfolding_all exact hV.nPair [] | with_unfolding_all exact (hV.nPair []).symm | with_unfolding_all exact hV.rPair _ | with_unfolding_all exact (hV.nPair _).trans (Eq.trans (by simp only [hV.nPair] at *; omega) (hV.nPair _).symm) | simp [closedCell])) | fail) (ho : ∀ B : (Nat → EObj) → List (List C) → List (List C) → Prop, (∀ o rows rows', rowsZ (pinZ o (os.map Prod.fst) ns) rows rows' → B o rows rows') → pinOZ (pinZ e.o (os.map Prod.fst) ns) B e.o ns os := by intro B hB; first | (cbv <;> (repeat' (first | trivial | refine And.intro ?_ ?_ | refine pin_same hB ?_ | refine pin_nil hB ?_ | refine pin_dirty hB (by assumption) (by assumption) ?_ ?_ | exact pinL_n | refine pinL_c ?_ ?_ | exact pzr rfl rfl rfl (nrPair hV _) (clPair hV _) | (refine pz_go ?_; cbv) | (refine pinL_go ?_; cbv))) <;> (first | exact clPair hV _ | with_unfolding_all exact hV.rPair _ | with_unfolding_all exact hV.nPair [] | with_unfolding_all exact (hV.nPair []).symm | assumption | omega | rfl | with_unfolding_all exact (hV.nPair _).trans (Eq.trans (by simp only [hV.nPair] at *; omega) (hV.nPair _).symm) | simp [closedCell])) | fail) : PinnedZ e ns ps os := ⟨hs, ho⟩
section
variable {G : Glob} (hm : pg.follows .mixedOrders = true) (hz : ∀ T, ∀ c ∈ (ttOf pg T).zero, Bd c) (hG : GF G)
include hm hz hG
set_option maxHeartbeats 8000000 in
theorem spec_validPairs.w {a1 : List Pair} (inv0 : (Int) → Prop) (mu0 : (Int) → Nat) (res0 : (Int) → Bool) (hb0 : ∀ (s_ : Int), inv0  s_ → spec_validPairs.b0 a1  (LI (inv0 ) (mu0 ) (res0 ) (mu0  s_)) (res0  s_) s_ = some (res0  s_)) {r : Bool} (H : spec_validPairs.f a1 (EI (inv0 ) (mu0 ) (res0 )) r = some r) : FnOK pg G 154 [.sl (a1.map ePair)] [] (.bool r) [] false := by
  obtain ⟨V, hV⟩ := exV
  simp only [← hV.rPair]
  refine fn_ok (tt0 := tyG [ty3, ty4, ty9, ty37, ty80]) (fn := Tryz.f154) (body := bodyOf Tryz.f154) (ext := []) hm (tyG_sub ⟨tt3, tt4, tt9, tt37, tt80, trivial⟩) hz 0 true [] (by unfold pg; exact Tryz.func154) rfl rfl (by simp [Tryz.f154]) (by simp [EObj.toObj]) (by cbv) ?_
  intro A F hA hF
  unfold spec_validPairs.f at H
  cbv
  repeat' (first
    | (cases H; exact fin_plain hF rfl rfl rfl rfl)
    | (with_reducible refine s_lt H (fun H => ?_) (fun H => ?_) <;> cbv)
    | (with_reducible refine s_le H (fun H => ?_) (fun H => ?_) <;> cbv)
    | (with_reducible refine s_eq H (fun H => ?_) (fun H => ?_) <;> cbv)
    | (with_reducible refine s_ne H (fun H => ?_) (fun H => ?_) <;> cbv)
    | (with_reducible refine s_ln H lnOf (fun _ H => ?_); cbv)
    | (with_reducible refine s_ixPair hV H (fun _ _ H => ?_); cbv)
    | (with_reducible refine s_ar H (fun _ H => ?_); cbv)
    | (with_reducible refine s_lv H (fun _ H => ?_); cbv)
    | (with_reducible refine s_loop hA H (fun s h => hb0  s h) [0] [] (fun e s => [(3, .int .i64 s)]) (fun e s => []) [] pin_spec_validPairs nbOf ?_; rintro x8 H; unfold spec_validPairs.b0 at H; (try dsimp only at H); cbv)
    | (with_reducible refine s_next H pin_spec_validPairs nbOf)
    | (with_reducible refine s_cb hA H (by (try simp only [hV.rPair]); with_unfolding_all exact spec_validName.ok hm hz hG) rfl (fun H => ?_) (fun H => ?_) <;> cbv)
    | (with_reducible refine s_cb hA H (by (try simp only [hV.rPair]); with_unfolding_all exact spec_validNumber.ok hm hz hG) rfl (fun H => ?_) (fun H => ?_) <;> cbv)
    | (with_reducible refine indep_of hA ?_; cbv)
    | ((with_reducible refine side ?_); exact sideOf)
    | (with_reducible refine s_tkG hV.rPair hV.nPair ?_; cbv)
    | (with_reducible refine s_tk1 ?_; cbv)
    | (with_reducible refine And.intro ?_ ?_)
    | ((with_reducible refine s_cn H (fun hb H => ?_) (fun hb H => ?_)) <;> (revert H; subst hb; intro H; cbv))
    | (intro ys hys; subst hys; rfl)
    | rfl)
end
section
variable {G : Glob} (hm : pg.follows .mixedOrders = true) (hz : ∀ T, ∀ c ∈ (ttOf pg T).zero, Bd c) (hG : GF G)
include hm hz hG
theorem spec_validPairs.ok {a1 : List Pair}  : FnOK pg G 154 [.sl (a1.map ePair)] [] (.bool ((validPairs a1))) [] false := by
  have A := @spec_validPairs.w G hm hz hG a1 (rgI (a1) (fun i => i) (fun _ => True)) (rgM (a1) (fun i => i)) (rgR (a1) (fun i => i) (fun r _ => r.all validPair)) (rangeS (a1) (fun i => i) (fun _ => True) (fun r _ => r.all validPair) (fun rec z s => spec_validPairs.b0 a1  rec z s) ?_ ?_)
  · exact A (EI_fin (rg0 trivial rfl) rfl)
  · intro rec s _ h0 h1
    simp only [spec_validPairs.b0]
    refine ln_ok fun hB => ?_
    simp (disch := first | assumption | omega | (simp; done) | (simp; omega)) only [if_true, if_false, reduceIte, lv, lj, ln_at, cn_t, cn_f, cn_tf, cn_ft, cn_xx, gd_ok, arr_ok, arr_ok8, arr_ok32, arr_oku, ia_ok, bt_ok, EI_ok, LI_ok, h1, Int.lt_irrefl]
    rfl
  · intro rec s x r _ h0 h1 hx hl hr
    simp only [spec_validPairs.b0]
    refine ln_ok fun hB => ?_
    simp (disch := first | assumption | omega | (simp; done) | (simp; omega)) only [if_true, if_false, reduceIte, lv, lj, ln_at, cn_t, cn_f, cn_tf, cn_ft, cn_xx, gd_ok, arr_ok, arr_ok8, arr_ok32, arr_oku, ia_ok, bt_ok, EI_ok, LI_ok, h1, ixPair, hx, h0, hr _ trivial rfl, List.all_cons, validPair]
    cases isName x.name <;> cases isValue x.value <;> rfl
end
def validArg (a : Arg) : Bool :=
  if a.kind = 0 then decide (a.name = []) && decide ((a.list.length : Int) = 1) && decide ((a.pairs.length : Int) = 0) && areValues a.list
  else if a.kind = 1 then decide (a.name = []) && decide ((a.list.length : Int) ≤ 8) && decide ((a.pairs.length : Int) = 0) && areValues a.list
  else if a.kind = 2 then isName a.name && decide ((a.list.length : Int) = 1) && decide ((a.pairs.length : Int) = 0) && areValues a.list
  else if a.kind = 3 then decide (a.name = []) && decide ((a.list.length : Int) = 0) && decide ((a.pairs.length : Int) ≤ 8) && validPairs a.pairs
  else false
noncomputable def impl_Arg_valid_1.f (a1 : Str) (a2 : Int)  (z_ : Bool) : Option (Bool) := (cn (validPair (⟨a1, a2⟩)) (some false) (some true))
section
variable {G : Glob} (hm : pg.follows .mixedOrders = true) (hz : ∀ T, ∀ c ∈ (ttOf pg T).zero, Bd c) (hG : GF G)
include hm hz hG
theorem impl_Arg_valid_1.w {a1 : Str} {a2 : Int}  {r : Bool} (H : impl_Arg_valid_1.f a1 a2  r = some r) : FnOK pg G 137 [.agg [.str ⟨⟨a1⟩⟩, .int .i64 a2]] [] (.bool r) [] false := by
  obtain ⟨V, hV⟩ := exV
  refine fn_ok (tt0 := tyG [ty3, ty4, ty9, ty80]) (fn := Tryz.f137) (body := bodyOf Tryz.f137) (ext := []) hm (tyG_sub ⟨tt3, tt4, tt9, tt80, trivial⟩) hz 0 true [] (by unfold pg; exact Tryz.func137) rfl rfl (by simp [Tryz.f137]) (by simp [EObj.toObj]) (by cbv) ?_
  intro A F hA hF
  unfold impl_Arg_valid_1.f at H
  cbv
  repeat' (first
    | (cases H; exact fin_plain hF rfl rfl rfl rfl)
    | (with_reducible refine s_lv H (fun _ H => ?_); cbv)
    | (with_reducible refine s_cb hA H (by with_unfolding_all exact impl_Pair_valid.ok hm hz hG) rfl (fun H => ?_) (fun H => ?_) <;> cbv)
    | (with_reducible refine indep_of hA ?_; cbv)
    | ((with_reducible refine side ?_); exact sideOf)
    | (with_reducible refine s_tk1 ?_; cbv)
    | (with_reducible refine And.intro ?_ ?_)
    | ((with_reducible refine s_cn H (fun hb H => ?_) (fun hb H => ?_)) <;> (revert H; subst hb; intro H; cbv))
    | (intro ys hys; subst hys; rfl)
    | rfl)
end
section
variable {G : Glob} (hm : pg.follows .mixedOrders = true) (hz : ∀ T, ∀ c ∈ (ttOf pg T).zero, Bd c) (hG : GF G)
include hm hz hG
theorem impl_Arg_valid_1.ok {a1 : Str} {a2 : Int}  : FnOK pg G 137 [.agg [.str ⟨⟨a1⟩⟩, .int .i64 a2]] [] (.bool (((fun (p : Pair) => !validPair p) ⟨a1, a2⟩))) [] false := by
  refine impl_Arg_valid_1.w hm hz hG ?_
  simp only [impl_Arg_valid_1.f]; cases validPair ⟨a1, a2⟩ <;> rfl
end
noncomputable def slices_IndexFunc_Pair_at_impl_Arg_valid_1.b0 (a1 : List Pair) (v2 : Int) (h0 : (Int) → Option (Int)) (z_ : Int) (x6 : Int) : Option (Int) := (if x6 < v2 then (ixPair a1 x6 fun v10 v11 => (cn ((fun (p : Pair) => !validPair p) (⟨v10, v11⟩)) (some x6) (arr .i64 (x6 + 1) fun v12 => (h0 v12)))) else (some ((-1))))
noncomputable def slices_IndexFunc_Pair_at_impl_Arg_valid_1.f (a1 : List Pair) (h0 : Int → (Int) → Option (Int)) (z_ : Int) : Option (Int) := (ln' z_ (a1.length) fun v2 => (h0 v2 0))
section
variable {G : Glob} (hm : pg.follows .mixedOrders = true) (hz : ∀ T, ∀ c ∈ (ttOf pg T).zero, Bd c) (hG : GF G)
include hm hz hG
set_option maxHeartbeats 8000000 in
theorem slices_IndexFunc_Pair_at_impl_Arg_valid_1.w {a1 : List Pair} (inv0 : Int → (Int) → Prop) (mu0 : Int → (Int) → Nat) (res0 : Int → (Int) → Int) (hb0 : ∀ (v2 : Int), ∀ (s_ : Int), inv0 v2 s_ → slices_IndexFunc_Pair_at_impl_Arg_valid_1.b0 a1 v2 (LI (inv0 v2) (mu0 v2) (res0 v2) (mu0 v2 s_)) (res0 v2 s_) s_ = some (res0 v2 s_)) {r : Int} (H : slices_IndexFunc_Pair_at_impl_Arg_valid_1.f a1 (fun v2 => EI (inv0 v2) (mu0 v2) (res0 v2)) r = some r) : FnOK pg G 155 [.sl (a1.map ePair), .fn 137 []] [] (.int .i64 r) [] false := by
  obtain ⟨V, hV⟩ := exV
  simp only [← hV.rPair]
  refine fn_ok (tt0 := tyG [ty3, ty4, ty9, ty37, ty80]) (fn := Tryz.f155) (body := bodyOf Tryz.f155) (ext := []) hm (tyG_sub ⟨tt3, tt4, tt9, tt37, tt80, trivial⟩) hz 0 true [] (by unfold pg; exact Tryz.func155) rfl rfl (by simp [Tryz.f155]) (by simp [EObj.toObj]) (by cbv) ?_
  intro A F hA hF
  unfold slices_IndexFunc_Pair_at_impl_Arg_valid_1.f at H
  cbv
  repeat' (first
    | (cases H; exact fin_plain hF rfl rfl rfl rfl)
    | (with_reducible refine s_lt H (fun H => ?_) (fun H => ?_) <;> cbv)
    | (with_reducible refine s_le H (fun H => ?_) (fun H => ?_) <;> cbv)
    | (with_reducible refine s_eq H (fun H => ?_) (fun H => ?_) <;> cbv)
    | (with_reducible refine s_ne H (fun H => ?_) (fun H => ?_) <;> cbv)
    | (with_reducible refine s_ln H lnOf (fun _ H => ?_); cbv)
    | (with_reducible refine s_ixPair hV H (fun _ _ H => ?_); cbv)
    | (with_reducible refine s_ar H (fun _ H => ?_); cbv)
    | (with_reducible refine s_lv H (fun _ H => ?_); cbv)
    | (with_reducible refine s_loop hA H (fun s h => hb0 _ s h) [0, 1, 7] [] (fun e s => [(8, .int .i64 s)]) (fun e s => []) [] pin_spec_validPairs nbOf ?_; rintro x6 H; unfold slices_IndexFunc_Pair_at_impl_Arg_valid_1.b0 at H; (try dsimp only at H); cbv)
    | (with_reducible refine s_next H pin_spec_validPairs nbOf)
    | (with_reducible refine s_cb hA H (by (try simp only [hV.rPair]); with_unfolding_all exact impl_Arg_valid_1.ok hm hz hG) rfl (fun H => ?_) (fun H => ?_) <;> cbv)
    | (with_reducible refine indep_of hA ?_; cbv)
    | ((with_reducible refine side ?_); exact sideOf)
    | (with_reducible refine s_tkG hV.rPair hV.nPair ?_; cbv)
    | (with_reducible refine s_tk1 ?_; cbv)
    | (with_reducible refine And.intro ?_ ?_)
    | ((with_reducible refine s_cn H (fun hb H => ?_) (fun hb H => ?_)) <;> (revert H; subst hb; intro H; cbv))
    | (intro ys hys; subst hys; rfl)
    | rfl)
end
section
variable {G : Glob} (hm : pg.follows .mixedOrders = true) (hz : ∀ T, ∀ c ∈ (ttOf pg T).zero, Bd c) (hG : GF G)
include hm hz hG
theorem slices_IndexFunc_Pair_at_impl_Arg_valid_1.ok {a1 : List Pair}  : FnOK pg G 155 [.sl (a1.map ePair), .fn 137 []] [] (.int .i64 (((findI (fun x => !validPair x)) a1))) [] false := by
  have A := @slices_IndexFunc_Pair_at_impl_Arg_valid_1.w G hm hz hG a1  (fun v => rgI (a1) (fun i => i) (fun _ => v = a1.length ∧ a1.length ≤ 9223372036854775807)) (fun v => rgM (a1) (fun i => i)) (fun v => rgR (a1) (fun i => i) (fun r i => idxOr i (r.findIdx? (fun x => !validPair x)))) (fun v => rangeS (a1) (fun i => i) (fun _ => v = a1.length ∧ a1.length ≤ 9223372036854775807) (fun r i => idxOr i (r.findIdx? (fun x => !validPair x))) (fun rec z s => slices_IndexFunc_Pair_at_impl_Arg_valid_1.b0 a1 v rec z s) ?_ ?_)
  · exact A (ln_ok fun hB => EI_fin (rg0 ⟨rfl, hB⟩ rfl) rfl)
  · rintro rec s ⟨rfl, hB⟩ h0 h1
    simp only [slices_IndexFunc_Pair_at_impl_Arg_valid_1.b0]
    simp (disch := first | assumption | omega | (simp; done) | (simp; omega)) only [if_true, if_false, reduceIte, lv, lj, ln_at, cn_t, cn_f, cn_tf, cn_ft, cn_xx, gd_ok, arr_ok, arr_ok8, arr_ok32, arr_oku, ia_ok, bt_ok, EI_ok, LI_ok, h1, Int.lt_irrefl]
    rfl
  · rintro rec s x r ⟨rfl, hB⟩ h0 h1 hx hl hr
    simp only [slices_IndexFunc_Pair_at_impl_Arg_valid_1.b0]
    simp (disch := first | assumption | omega | (simp; done) | (simp; omega)) only [if_true, if_false, reduceIte, lv, lj, ln_at, cn_t, cn_f, cn_tf, cn_ft, cn_xx, gd_ok, arr_ok, arr_ok8, arr_ok32, arr_oku, ia_ok, bt_ok, EI_ok, LI_ok, h1, ixPair, hx, h0, idxOr_cons, hr _ ⟨rfl, hB⟩ rfl, cn_ite, eta_Pair]
    split <;> rfl
end
noncomputable def slices_ContainsFunc_Pair_at_impl_Arg_valid_1.f (a1 : List Pair)  (z_ : Bool) : Option (Bool) := (lv ((findI (fun x => !validPair x)) a1) fun v2 => (if 0 ≤ v2 then (some true) else (some false)))
section
variable {G : Glob} (hm : pg.follows .mixedOrders = true) (hz : ∀ T, ∀ c ∈ (ttOf pg T).zero, Bd c) (hG : GF G)
include hm hz hG
theorem slices_ContainsFunc_Pair_at_impl_Arg_valid_1.w {a1 : List Pair}  {r : Bool} (H : slices_ContainsFunc_Pair_at_impl_Arg_valid_1.f a1  r = some r) : FnOK pg G 136 [.sl (a1.map ePair), .fn 137 []] [] (.bool r) [] false := by
  obtain ⟨V, hV⟩ := exV
  simp only [← hV.rPair]
  refine fn_ok (tt0 := tyG [ty3, ty4, ty9, ty37, ty80]) (fn := Tryz.f136) (body := bodyOf Tryz.f136) (ext := []) hm (tyG_sub ⟨tt3, tt4, tt9, tt37, tt80, trivial⟩) hz 0 true [] (by unfold pg; exact Tryz.func136) rfl rfl (by simp [Tryz.f136]) (by simp [EObj.toObj]) (by cbv) ?_
  intro A F hA hF
  unfold slices_ContainsFunc_Pair_at_impl_Arg_valid_1.f at H
  cbv
  repeat' (first
    | (cases H; exact fin_plain hF rfl rfl rfl rfl)
    | (with_reducible refine s_lt H (fun H => ?_) (fun H => ?_) <;> cbv)
    | (with_reducible refine s_le H (fun H => ?_) (fun H => ?_) <;> cbv)
    | (with_reducible refine s_eq H (fun H => ?_) (fun H => ?_) <;> cbv)
    | (with_reducible refine s_ne H (fun H => ?_) (fun H => ?_) <;> cbv)
    | (with_reducible refine s_lv H (fun _ H => ?_); cbv)
    | (with_reducible refine s_ci hA H (by (try simp only [hV.rPair]); with_unfolding_all exact slices_IndexFunc_Pair_at_impl_Arg_valid_1.ok hm hz hG) rfl (fun _ H => ?_); cbv)
    | (with_reducible refine indep_of hA ?_; cbv)
    | ((with_reducible refine side ?_); exact sideOf)
    | (with_reducible refine s_tkG hV.rPair hV.nPair ?_; cbv)
    | (with_reducible refine s_tk1 ?_; cbv)
    | (with_reducible refine And.intro ?_ ?_)
    | (intro ys hys; subst hys; rfl)
    | rfl)
end
section
variable {G : Glob} (hm : pg.follows .mixedOrders = true) (hz : ∀ T, ∀ c ∈ (ttOf pg T).zero, Bd c) (hG : GF G)
include hm hz hG
theorem slices_ContainsFunc_Pair_at_impl_Arg_valid_1.ok {a1 : List Pair}  : FnOK pg G 136 [.sl (a1.map ePair), .fn 137 []] [] (.bool (((fun (l : List Pair) => l.any (fun n => !validPair n)) a1))) [] false := by
  refine slices_ContainsFunc_Pair_at_impl_Arg_valid_1.w hm hz hG ?_
  simp only [slices_ContainsFunc_Pair_at_impl_Arg_valid_1.f, lv, findI_nn]
  split <;> simp_all
end
noncomputable def impl_Arg_valid.f (a1 : Int) (a2 : Str) (a3 : List Int) (a4 : List Pair)  (z_ : Bool) : Option (Bool) := (if a1 = 0 then (if a2 = ([] : Str) then (ln' z_ (a3.length) fun v5 => (if v5 = 1 then (ln' z_ (a4.length) fun v6 => (if v6 = 0 then (cn (areValues a3) (some true) (some false)) else (some false))) else (some false))) else (some false)) else (if a1 = 1 then (if a2 = ([] : Str) then (ln' z_ (a3.length) fun v7 => (if v7 ≤ 8 then (ln' z_ (a4.length) fun v8 => (if v8 = 0 then (cn (areValues a3) (some true) (some false)) else (some false))) else (some false))) else (some false)) else (if a1 = 2 then (cn (isName a2) (ln' z_ (a3.length) fun v9 => (if v9 = 1 then (ln' z_ (a4.length) fun v10 => (if v10 = 0 then (cn (areValues a3) (some true) (some false)) else (some false))) else (some false))) (some false)) else (if a1 = 3 then (if a2 = ([] : Str) then (ln' z_ (a3.length) fun v11 => (if v11 = 0 then (ln' z_ (a4.length) fun v12 => (if v12 ≤ 8 then (cn ((fun (l : List Pair) => l.any (fun n => !validPair n)) a4) (some false) (some true)) else (some false))) else (some false))) else (some false)) else (some false)))))
section
variable {G : Glob} (hm : pg.follows .mixedOrders = true) (hz : ∀ T, ∀ c ∈ (ttOf pg T).zero, Bd c) (hG : GF G)
include hm hz hG
theorem impl_Arg_valid.w {a1 : Int} {a2 : Str} {a3 : List Int} {a4 : List Pair}  {r : Bool} (H : impl_Arg_valid.f a1 a2 a3 a4  r = some r) : FnOK pg G 72 [.agg [.int .i64 a1, .str ⟨⟨a2⟩⟩, .sl (a3.map eI), .sl (a4.map ePair)]] [] (.bool r) [] false := by
  obtain ⟨V, hV⟩ := exV
  simp only [← hV.rI, ← hV.rPair]
  refine fn_ok (tt0 := tyG [ty3, ty4, ty9, ty36, ty37, ty74, ty80]) (fn := Tryz.f72) (body := bodyOf Tryz.f72) (ext := []) hm (tyG_sub ⟨tt3, tt4, tt9, tt36, tt37, tt74, tt80, trivial⟩) hz 0 true [] (by unfold pg; exact Tryz.func72) rfl rfl (by simp [Tryz.f72]) (by simp [EObj.toObj]) (by cbv) ?_
  intro A F hA hF
  unfold impl_Arg_valid.f at H
  cbv
  repeat' (first
    | (cases H; exact fin_plain hF rfl rfl rfl rfl)
    | (with_reducible refine s_lt H (fun H => ?_) (fun H => ?_) <;> cbv)
    | (with_reducible refine s_le H (fun H => ?_) (fun H => ?_) <;> cbv)
    | (with_reducible refine s_eq H (fun H => ?_) (fun H => ?_) <;> cbv)
    | (with_reducible refine s_ne H (fun H => ?_) (fun H => ?_) <;> cbv)
    | (with_reducible refine s_ln H lnOf (fun _ H => ?_); cbv)
    | (with_reducible refine s_lv H (fun _ H => ?_); cbv)
    | (with_reducible refine s_cb hA H (by (try simp only [hV.rI, hV.rPair]); with_unfolding_all exact impl_areValues.ok hm hz hG) rfl (fun H => ?_) (fun H => ?_) <;> cbv)
    | (with_reducible refine s_cb hA H (by (try simp only [hV.rI, hV.rPair]); with_unfolding_all exact impl_isName.ok hm hz hG) rfl (fun H => ?_) (fun H => ?_) <;> cbv)
    | (with_reducible refine s_cb hA H (by (try simp only [hV.rI, hV.rPair]); with_unfolding_all exact slices_ContainsFunc_Pair_at_impl_Arg_valid_1.ok hm hz hG) rfl (fun H => ?_) (fun H => ?_) <;> cbv)
    | (with_reducible refine indep_of hA ?_; cbv)
    | ((with_reducible refine side ?_); exact sideOf)
    | (with_reducible refine s_tkG hV.rI hV.nI ?_; cbv)
    | (with_reducible refine s_tkG hV.rPair hV.nPair ?_; cbv)
    | (with_reducible refine s_tk1 ?_; cbv)
    | (with_reducible refine And.intro ?_ ?_)
    | ((with_reducible refine s_cn H (fun hb H => ?_) (fun hb H => ?_)) <;> (revert H; subst hb; intro H; cbv))
    | (intro ys hys; subst hys; rfl)
    | rfl)
end
section
variable {G : Glob} (hm : pg.follows .mixedOrders = true) (hz : ∀ T, ∀ c ∈ (ttOf pg T).zero, Bd c) (hG : GF G)
include hm hz hG
theorem impl_Arg_valid.ok {a1 : Int} {a2 : Str} {a3 : List Int} {a4 : List Pair}  : FnOK pg G 72 [.agg [.int .i64 a1, .str ⟨⟨a2⟩⟩, .sl (a3.map eI), .sl (a4.map ePair)]] [] (.bool ((validArg ⟨a1, a2, a3, a4⟩))) [] false := by
  refine impl_Arg_valid.w hm hz hG ?_
  simp only [impl_Arg_valid.f, validArg, validPairs, ← any_not validPair, cn_ite]
  (repeat' (first | rfl | (refine ln_ok fun _ => ?_) | ((refine ite_ok (fun h => ?_) (fun h => ?_)) <;> (try simp only [h, reduceIte, if_true, if_false, decide_true, decide_false, Bool.true_and, Bool.false_and, Bool.and_true, Bool.and_false, Bool.not_true, Bool.not_false, Bool.false_eq_true]))))
end
noncomputable def spec_validArg.f (a1 : Int) (a2 : Str) (a3 : List Int) (a4 : List Pair)  (z_ : Bool) : Option (Bool) := (if a1 = 0 then (if a2 = ([] : Str) then (ln' z_ (a3.length) fun v5 => (if v5 = 1 then (cn (areValues a3) (ln' z_ (a4.length) fun v6 => (if v6 = 0 then (some true) else (some false))) (some false)) else (some false))) else (some false)) else (if a1 = 1 then (if a2 = ([] : Str) then (ln' z_ (a3.length) fun v7 => (if v7 ≤ 8 then (cn (areValues a3) (ln' z_ (a4.length) fun v8 => (if v8 = 0 then (some true) else (some false))) (some false)) else (some false))) else (some false)) else (if a1 = 2 then (cn (isName a2) (ln' z_ (a3.length) fun v9 => (if v9 = 1 then (cn (areValues a3) (ln' z_ (a4.length) fun v10 => (if v10 = 0 then (some true) else (some false))) (some false)) else (some false))) (some false)) else (if a1 = 3 then (if a2 = ([] : Str) then (ln' z_ (a3.length) fun v11 => (if v11 = 0 then (ln' z_ (a4.length) fun v12 => (if v12 ≤ 8 then (cn (validPairs a4) (some true) (some false)) else (some false))) else (some false))) else (some false)) else (some false)))))
section
variable {G : Glob} (hm : pg.follows .mixedOrders = true) (hz : ∀ T, ∀ c ∈ (ttOf pg T).zero, Bd c) (hG : GF G)
include hm hz hG
theorem spec_validArg.w {a1 : Int} {a2 : Str} {a3 : List Int} {a4 : List Pair}  {r : Bool} (H : spec_validArg.f a1 a2 a3 a4  r = some r) : FnOK pg G 146 [.agg [.int .i64 a1, .str ⟨⟨a2⟩⟩, .sl (a3.map eI), .sl (a4.map ePair)]] [] (.bool r) [] false := by
  obtain ⟨V, hV⟩ := exV
  simp only [← hV.rI, ← hV.rPair]
  refine fn_ok (tt0 := tyG [ty3, ty4, ty9, ty36, ty37, ty74, ty80]) (fn := Tryz.f146) (body := bodyOf Tryz.f146) (ext := []) hm (tyG_sub ⟨tt3, tt4, tt9, tt36, tt37, tt74, tt80, trivial⟩) hz 0 true [] (by unfold pg; exact Tryz.func146) rfl rfl (by simp [Tryz.f146]) (by simp [EObj.toObj]) (by cbv) ?_
  intro A F hA hF
  unfold spec_validArg.f at H
  cbv
  repeat' (first
    | (cases H; exact fin_plain hF rfl rfl rfl rfl)
    | (with_reducible refine s_lt H (fun H => ?_) (fun H => ?_) <;> cbv)
    | (with_reducible refine s_le H (fun H => ?_) (fun H => ?_) <;> cbv)
    | (with_reducible refine s_eq H (fun H => ?_) (fun H => ?_) <;> cbv)
    | (with_reducible refine s_ne H (fun H => ?_) (fun H => ?_) <;> cbv)
    | (with_reducible refine s_ln H lnOf (fun _ H => ?_); cbv)
    | (with_reducible refine s_lv H (fun _ H => ?_); cbv)
    | (with_reducible refine s_cb hA H (by (try simp only [hV.rI, hV.rPair]); with_unfolding_all exact spec_validNumbers.ok hm hz hG) rfl (fun H => ?_) (fun H => ?_) <;> cbv)
    | (with_reducible refine s_cb hA H (by (try simp only [hV.rI, hV.rPair]); with_unfolding_all exact spec_validName.ok hm hz hG) rfl (fun H => ?_) (fun H => ?_) <;> cbv)
    | (with_reducible refine s_cb hA H (by (try simp only [hV.rI, hV.rPair]); with_unfolding_all exact spec_validPairs.ok hm hz hG) rfl (fun H => ?_) (fun H => ?_) <;> cbv)
    | (with_reducible refine indep_of hA ?_; cbv)
    | ((with_reducible refine side ?_); exact sideOf)
    | (with_reducible refine s_tkG hV.rI hV.nI ?_; cbv)
    | (with_reducible refine s_tkG hV.rPair hV.nPair ?_; cbv)
    | (with_reducible refine s_tk1 ?_; cbv)
    | (with_reducible refine And.intro ?_ ?_)
    | ((with_reducible refine s_cn H (fun hb H => ?_) (fun hb H => ?_)) <;> (revert H; subst hb; intro H; cbv))
    | (intro ys hys; subst hys; rfl)
    | rfl)
end
section
variable {G : Glob} (hm : pg.follows .mixedOrders = true) (hz : ∀ T, ∀ c ∈ (ttOf pg T).zero, Bd c) (hG : GF G)
include hm hz hG
theorem spec_validArg.ok {a1 : Int} {a2 : Str} {a3 : List Int} {a4 : List Pair}  : FnOK pg G 146 [.agg [.int .i64 a1, .str ⟨⟨a2⟩⟩, .sl (a3.map eI), .sl (a4.map ePair)]] [] (.bool ((validArg ⟨a1, a2, a3, a4⟩))) [] false := by
  refine spec_validArg.w hm hz hG ?_
  simp only [spec_validArg.f, validArg, cn_ite]
  (repeat' (first | rfl | (refine ln_ok fun _ => ?_) | ((refine ite_ok (fun h => ?_) (fun h => ?_)) <;> (try simp only [h, reduceIte, if_true, if_false, decide_true, decide_false, Bool.true_and, Bool.false_and, Bool.and_true, Bool.and_false, Bool.not_true, Bool.not_false, Bool.false_eq_true]))))
end
end Go.Proofs.YtoofegkjdjlpkaaGreatDoor.M
