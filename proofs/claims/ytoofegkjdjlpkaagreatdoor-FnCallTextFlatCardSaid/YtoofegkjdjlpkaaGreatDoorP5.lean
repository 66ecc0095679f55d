/- Valid calls; texts of calls. -/
import Derived.Test.YtoofegkjdjlpkaaGreatDoorP4
set_option linter.unusedVariables false
set_option linter.unusedSimpArgs false
set_option linter.unusedSectionVars false
namespace Go.Proofs.YtoofegkjdjlpkaaGreatDoor.M
open Go Go.Proofs
set_option maxRecDepth 100000
def byN (a : Arg) : Bool := decide (a.kind = 2) || decide (a.kind = 3)
def callGo : Bool → List Arg → Bool
  | _, [] => true
  | p, a :: r => validArg a && (!p || byN a) && callGo (byN a) r
def validCall (c : Cal) : Bool := callGo false c.args && decide ((c.args.length : Int) ≤ 16)
theorem valid_kind {a : Arg} (h : validArg a = true) : a.kind = 0 ∨ a.kind = 1 ∨ a.kind = 2 ∨ a.kind = 3 := by
  unfold validArg at h
  by_cases h0 : a.kind = 0; · exact .inl h0
  by_cases h1 : a.kind = 1; · exact .inr (.inl h1)
  by_cases h2 : a.kind = 2; · exact .inr (.inr (.inl h2))
  by_cases h3 : a.kind = 3; · exact .inr (.inr (.inr h3))
  simp [h0, h1, h2, h3] at h
noncomputable def impl_ValidCall.b0 (a1 : List Arg) (v66 : Int) (h0 : (Bool × Int) → Option (Bool)) (z_ : Bool) (x86 : Bool) (x87 : Int) : Option (Bool) := (if x87 < v66 then (ixArg a1 x87 fun v121 v122 v123 v124 => (if v121 = 2 then (cn (validArg (⟨v121, v122, v123, v124⟩)) (cn x86 (arr .i64 (x87 + 1) fun v125 => (h0 (true, v125))) (arr .i64 (x87 + 1) fun v126 => (h0 (true, v126)))) (some false)) else (if v121 = 3 then (cn (validArg (⟨v121, v122, v123, v124⟩)) (cn x86 (arr .i64 (x87 + 1) fun v127 => (h0 (true, v127))) (arr .i64 (x87 + 1) fun v128 => (h0 (true, v128)))) (some false)) else (cn (validArg (⟨v121, v122, v123, v124⟩)) (cn x86 (some false) (arr .i64 (x87 + 1) fun v129 => (h0 (false, v129)))) (some false))))) else (ln' z_ (a1.length) fun v130 => (if v130 ≤ 16 then (some true) else (some false))))
noncomputable def impl_ValidCall.f (a1 : List Arg) (h0 : Int → (Bool × Int) → Option (Bool)) (z_ : Bool) : Option (Bool) := (ln' z_ (a1.length) fun v66 => (h0 v66 (false, 0)))
theorem pin_impl_ValidCall {e : ESt} {ns : List (Nat × Nat)} {ps : List (Nat × C)} {os : List (Nat × EObj)} (hs : pinPZ (pinZ e.o (os.map Prod.fst) ns) e.s ps := by first | (cbv <;> (repeat' (first | trivial | refine And.intro ?_ ?_)) <;> (first | rfl | assumption | omega | exact clI hV _ | exact clPair hV _ | exact clArg hV _ | with_unfolding_all exact hV.nI [] | with_unfolding_all exact (hV.nI []).symm | with_unfolding_all exact hV.nPair [] | with_unfolding_all exact (hV.nPair []).symm | with_unfolding_all exact hV.nArg [] | with_unfolding_all exact (hV.nArg []).symm | with_unfolding_all exact hV.rI _ | with_unfolding_all exact hV.rPair _ | with_unfolding_all exact hV.rArg _ | with_unfolding_all exact (hV.nI _).trans (Eq.trans (by simp only [hV.nI] at *; omega) (hV.nI _).symm) | with_unfolding_all exact (hV.nPair _).trans (Eq.trans (by simp only [hV.nPair] at *; omega) (hV.nPair _).symm) | with_unfolding_all exact (hV.nArg _).trans (Eq.trans (by simp only [hV.nArg] at *; omega) (hV.nArg _).symm) | simp [closedCell])) | fail) (ho : ∀ B : (Nat → EObj) → List (List C) → List (List C) → Prop, (∀ o rows rows', rowsZ (pinZ o (os.map Prod.fst) ns) rows rows' → B o rows rows') → pinOZ (pinZ e.o (os.map Prod.fst) ns) B e.o ns os := by intro B hB; first | (cbv <;> (repeat' (first | trivial | refine And.intro ?_ ?_ | refine pin_same hB ?_ | refine pin_nil hB ?_ | refine pin_dirty hB (by assumption) (by assumption) ?_ ?_ | exact pinL_n | refine pinL_c ?_ ?_ | exact pzr rfl rfl rfl (nrI hV _) (clI hV _) | exact pzr rfl rfl rfl (nrPair hV _) (clPair hV _) | exact pzr rfl rfl rfl (nrArg hV _) (clArg hV _) | (refine pz_go ?_; cbv) | (refine pinL_go ?_; cbv))) <;> (first | exact clI hV _ | exact clPair hV _ | exact clArg hV _ | with_unfolding_all exact hV.rI _ | with_unfolding_all exact hV.rPair _ | with_unfolding_all exact hV.rArg _ | with_unfolding_all exact hV.nI [] | with_unfolding_all exact (hV.nI []).symm | with_unfolding_all exact hV.nPair [] | with_unfolding_all exact (hV.nPair []).symm | with_unfolding_all exact hV.nArg [] | with_unfolding_all exact (hV.nArg []).symm | assumption | omega | rfl | with_unfolding_all exact (hV.nI _).trans (Eq.trans (by simp only [hV.nI] at *; omega) (hV.nI _).symm) | with_unfolding_all exact (hV.nPair _).trans (Eq.trans (by simp only [hV.nPair] at *; omega) (hV.nPair _).symm) | with_unfolding_all exact (hV.nArg _).trans (Eq.trans (by simp only [hV.nArg] at *; omega) (hV.nArg _).symm) | simp [closedCell])) | fail) : PinnedZ e ns ps os := ⟨hs, ho⟩
section
variable {G : Glob} (hm : pg.follows .mixedOrders = true) (hz : ∀ T, ∀ c ∈ (ttOf pg T).zero, Bd c) (hG : GF G)
include hm hz hG
set_option maxHeartbeats 8000000 in
theorem impl_ValidCall.w {a1 : List Arg} (inv0 : Int → (Bool × Int) → Prop) (mu0 : Int → (Bool × Int) → Nat) (res0 : Int → (Bool × Int) → Bool) (hb0 : ∀ (v66 : Int), ∀ (s_ : Bool × Int), inv0 v66 s_ → impl_ValidCall.b0 a1 v66 (LI (inv0 v66) (mu0 v66) (res0 v66) (mu0 v66 s_)) (res0 v66 s_) s_.1 s_.2 = some (res0 v66 s_)) {r : Bool} (H : impl_ValidCall.f a1 (fun v66 => EI (inv0 v66) (mu0 v66) (res0 v66)) r = some r) : FnOK pg G 19 [.agg [.sl (a1.map eArg)]] [] (.bool r) [] false := by
  obtain ⟨V, hV⟩ := exV
  simp only [← hV.rI, ← hV.rPair, ← hV.rArg]
  refine fn_ok (tt0 := tyG [ty3, ty4, ty9, ty22, ty24, ty36, ty37, ty74, ty80]) (fn := Tryz.f19) (body := bodyOf Tryz.f19) (ext := []) hm (tyG_sub ⟨tt3, tt4, tt9, tt22, tt24, tt36, tt37, tt74, tt80, trivial⟩) hz 0 true [] (by unfold pg; exact Tryz.func19) rfl rfl (by simp [Tryz.f19]) (by simp [EObj.toObj]) (by cbv) ?_
  intro A F hA hF
  unfold impl_ValidCall.f at H
  cbv
  repeat' (first
    | (cases H; exact fin_plain hF rfl rfl rfl rfl)
    | (with_reducible refine s_lt H (fun H => ?_) (fun H => ?_) <;> cbv)
    | (with_reducible refine s_le H (fun H => ?_) (fun H => ?_) <;> cbv)
    | (with_reducible refine s_eq H (fun H => ?_) (fun H => ?_) <;> cbv)
    | (with_reducible refine s_ne H (fun H => ?_) (fun H => ?_) <;> cbv)
    | (with_reducible refine s_ln H lnOf (fun _ H => ?_); cbv)
    | (with_reducible refine s_ixArg hV H (fun _ _ _ _ H => ?_); cbv)
    | (with_reducible refine s_ar H (fun _ H => ?_); cbv)
    | (with_reducible refine s_lv H (fun _ H => ?_); cbv)
    | (with_reducible refine s_loop hA H (fun s h => hb0 _ s h) [1, 8, 9] [64] (fun e s => [(3, .bool (s.1)), (10, .int .i64 (s.2))]) (fun e s => []) [] pin_impl_ValidCall nbOf ?_; rintro ⟨x86, x87⟩ H; unfold impl_ValidCall.b0 at H; (try dsimp only at H); cbv)
    | (with_reducible refine s_next H pin_impl_ValidCall nbOf)
    | (with_reducible refine s_cb hA H (by (try simp only [hV.rI, hV.rPair, hV.rArg]); with_unfolding_all exact impl_Arg_valid.ok hm hz hG) rfl (fun H => ?_) (fun H => ?_) <;> cbv)
    | (with_reducible refine indep_of hA ?_; cbv)
    | ((with_reducible refine side ?_); exact sideOf)
    | (with_reducible refine s_tkG hV.rI hV.nI ?_; cbv)
    | (with_reducible refine s_tkG hV.rPair hV.nPair ?_; cbv)
    | (with_reducible refine s_tkG hV.rArg hV.nArg ?_; cbv)
    | (with_reducible refine s_tk1 ?_; cbv)
    | (with_reducible refine And.intro ?_ ?_)
    | ((with_reducible refine s_cn H (fun hb H => ?_) (fun hb H => ?_)) <;> (revert H; subst hb; intro H; cbv))
    | (intro ys hys; subst hys; rfl)
    | rfl)
end
section
variable {G : Glob} (hm : pg.follows .mixedOrders = true) (hz : ∀ T, ∀ c ∈ (ttOf pg T).zero, Bd c) (hG : GF G)
include hm hz hG
theorem impl_ValidCall.ok {a1 : List Arg}  : FnOK pg G 19 [.agg [.sl (a1.map eArg)]] [] (.bool ((validCall ⟨a1⟩))) [] false := by
  have A := @impl_ValidCall.w G hm hz hG a1 (fun v => rgI (a1) (fun s : Bool × Int => s.2) (fun _ => v = a1.length ∧ a1.length ≤ 9223372036854775807)) (fun v => rgM (a1) (fun s : Bool × Int => s.2)) (fun v => rgR (a1) (fun s : Bool × Int => s.2) (fun r (s : Bool × Int) => callGo s.1 r && decide ((a1.length : Int) ≤ 16))) (fun v => rangeS (a1) (fun s : Bool × Int => s.2) (fun _ => v = a1.length ∧ a1.length ≤ 9223372036854775807) (fun r (s : Bool × Int) => callGo s.1 r && decide ((a1.length : Int) ≤ 16)) (fun rec z s => impl_ValidCall.b0 a1 v rec z s.1 s.2) ?_ ?_)
  · exact A (ln_ok fun hB => EI_fin (rg0 ⟨rfl, hB⟩ rfl) rfl)
  · rintro rec ⟨p, s⟩ ⟨rfl, hB⟩ h0 h1
    simp only at h0 h1
    simp only [impl_ValidCall.b0]
    simp (disch := first | assumption | omega | (simp; done) | (simp; omega)) only [if_true, if_false, reduceIte, lv, lj, ln_at, cn_t, cn_f, cn_tf, cn_ft, cn_xx, gd_ok, arr_ok, arr_ok8, arr_ok32, arr_oku, ia_ok, bt_ok, EI_ok, LI_ok, h1, Int.lt_irrefl, callGo]
    (repeat' (first | rfl | (refine ln_ok fun _ => ?_) | ((refine ite_ok (fun h => ?_) (fun h => ?_)) <;> (try simp only [h, reduceIte, if_true, if_false, decide_true, decide_false, Bool.true_and, Bool.false_and, Bool.and_true, Bool.and_false, Bool.not_true, Bool.not_false, Bool.false_eq_true]))))
  · rintro rec ⟨p, s⟩ x r ⟨rfl, hB⟩ h0 h1 hx hl hr
    simp only at h0 h1 hx hl
    have hr' : ∀ b, rec (b, s + 1) = some (callGo b r && decide ((a1.length : Int) ≤ 16)) := fun b => hr (b, s + 1) ⟨rfl, hB⟩ rfl
    simp only [impl_ValidCall.b0]
    simp (disch := first | assumption | omega | (simp; done) | (simp; omega)) only [if_true, if_false, reduceIte, lv, lj, ln_at, cn_t, cn_f, cn_tf, cn_ft, cn_xx, gd_ok, arr_ok, arr_ok8, arr_ok32, arr_oku, ia_ok, bt_ok, EI_ok, LI_ok, h1, ixArg, hx, h0, cn_ite, eta_Arg, hr', callGo, byN]
    (repeat' (first | rfl | (refine ln_ok fun _ => ?_) | ((refine ite_ok (fun h => ?_) (fun h => ?_)) <;> (try simp only [h, reduceIte, if_true, if_false, decide_true, decide_false, Bool.true_and, Bool.false_and, Bool.and_true, Bool.and_false, Bool.not_true, Bool.not_false, Bool.false_eq_true]))))
    all_goals simp_all
end
noncomputable def spec_validCall.b0 (a1 : List Arg)  (h0 : (Int) → Option (Bool)) (z_ : Bool) (x19 : Int) : Option (Bool) := (ln' z_ (a1.length) fun v37 => (if x19 < v37 then (ixArg a1 x19 fun v38 v39 v40 v41 => (cn (validArg (⟨v38, v39, v40, v41⟩)) (if 0 < x19 then (ixArg a1 x19 fun v42 v43 v44 v45 => (if v42 < 2 then (arr .i64 (x19 - 1) fun v46 => (ixArg a1 v46 fun v47 v48 v49 v50 => (if 2 ≤ v47 then (some false) else (arr .i64 (x19 + 1) fun v51 => (h0 v51))))) else (arr .i64 (x19 + 1) fun v52 => (h0 v52)))) else (arr .i64 (x19 + 1) fun v53 => (h0 v53))) (some false))) else (ln' z_ (a1.length) fun v54 => (if v54 ≤ 16 then (some true) else (some false)))))
noncomputable def spec_validCall.f (a1 : List Arg) (h0 : (Int) → Option (Bool)) (z_ : Bool) : Option (Bool) := (h0 0)
section
variable {G : Glob} (hm : pg.follows .mixedOrders = true) (hz : ∀ T, ∀ c ∈ (ttOf pg T).zero, Bd c) (hG : GF G)
include hm hz hG
set_option maxHeartbeats 8000000 in
theorem spec_validCall.w {a1 : List Arg} (inv0 : (Int) → Prop) (mu0 : (Int) → Nat) (res0 : (Int) → Bool) (hb0 : ∀ (s_ : Int), inv0  s_ → spec_validCall.b0 a1  (LI (inv0 ) (mu0 ) (res0 ) (mu0  s_)) (res0  s_) s_ = some (res0  s_)) {r : Bool} (H : spec_validCall.f a1 (EI (inv0 ) (mu0 ) (res0 )) r = some r) : FnOK pg G 78 [.agg [.sl (a1.map eArg)]] [] (.bool r) [] false := by
  obtain ⟨V, hV⟩ := exV
  simp only [← hV.rI, ← hV.rPair, ← hV.rArg]
  refine fn_ok (tt0 := tyG [ty3, ty4, ty9, ty22, ty24, ty36, ty37, ty74, ty80]) (fn := Tryz.f78) (body := bodyOf Tryz.f78) (ext := []) hm (tyG_sub ⟨tt3, tt4, tt9, tt22, tt24, tt36, tt37, tt74, tt80, trivial⟩) hz 0 true [] (by unfold pg; exact Tryz.func78) rfl rfl (by simp [Tryz.f78]) (by simp [EObj.toObj]) (by cbv) ?_
  intro A F hA hF
  unfold spec_validCall.f at H
  cbv
  repeat' (first
    | (cases H; exact fin_plain hF rfl rfl rfl rfl)
    | (with_reducible refine s_lt H (fun H => ?_) (fun H => ?_) <;> cbv)
    | (with_reducible refine s_le H (fun H => ?_) (fun H => ?_) <;> cbv)
    | (with_reducible refine s_eq H (fun H => ?_) (fun H => ?_) <;> cbv)
    | (with_reducible refine s_ne H (fun H => ?_) (fun H => ?_) <;> cbv)
    | (with_reducible refine s_ln H lnOf (fun _ H => ?_); cbv)
    | (with_reducible refine s_ixArg hV H (fun _ _ _ _ H => ?_); cbv)
    | (with_reducible refine s_ar H (fun _ H => ?_); cbv)
    | (with_reducible refine s_lv H (fun _ H => ?_); cbv)
    | (with_reducible refine s_loop hA H (fun s h => hb0  s h) [1] [64] (fun e s => [(3, .int .i64 s)]) (fun e s => []) [] pin_impl_ValidCall nbOf ?_; rintro x19 H; unfold spec_validCall.b0 at H; (try dsimp only at H); cbv)
    | (with_reducible refine s_next H pin_impl_ValidCall nbOf)
    | (with_reducible refine s_cb hA H (by (try simp only [hV.rI, hV.rPair, hV.rArg]); with_unfolding_all exact spec_validArg.ok hm hz hG) rfl (fun H => ?_) (fun H => ?_) <;> cbv)
    | (with_reducible refine indep_of hA ?_; cbv)
    | ((with_reducible refine side ?_); exact sideOf)
    | (with_reducible refine s_tkG hV.rI hV.nI ?_; cbv)
    | (with_reducible refine s_tkG hV.rPair hV.nPair ?_; cbv)
    | (with_reducible refine s_tkG hV.rArg hV.nArg ?_; cbv)
    | (with_reducible refine s_tk1 ?_; cbv)
    | (with_reducible refine And.intro ?_ ?_)
    | ((with_reducible refine s_cn H (fun hb H => ?_) (fun hb H => ?_)) <;> (revert H; subst hb; intro H; cbv))
    | (intro ys hys; subst hys; rfl)
    | rfl)
end
section
variable {G : Glob} (hm : pg.follows .mixedOrders = true) (hz : ∀ T, ∀ c ∈ (ttOf pg T).zero, Bd c) (hG : GF G)
include hm hz hG
theorem spec_validCall.ok {a1 : List Arg}  : FnOK pg G 78 [.agg [.sl (a1.map eArg)]] [] (.bool ((validCall ⟨a1⟩))) [] false := by
  have A := @spec_validCall.w G hm hz hG a1 (rgI (a1) (fun s => s) (fun i => ∀ a, 0 < i → a1[(i - 1).toNat]? = some a → validArg a = true)) (rgM (a1) (fun s => s)) (rgR (a1) (fun s => s) (fun r i => callGo (if i ≤ 0 then false else match a1[(i - 1).toNat]? with | some a => byN a | none => false) r && decide ((a1.length : Int) ≤ 16))) (rangeS (a1) (fun s => s) (fun i => ∀ a, 0 < i → a1[(i - 1).toNat]? = some a → validArg a = true) (fun r i => callGo (if i ≤ 0 then false else match a1[(i - 1).toNat]? with | some a => byN a | none => false) r && decide ((a1.length : Int) ≤ 16)) (fun rec z s => spec_validCall.b0 a1  rec z s) ?_ ?_)
  · exact A (EI_fin (rg0 (fun a h => by omega) rfl) rfl)
  · rintro rec s hI h0 h1
    simp only [spec_validCall.b0]
    refine ln_ok fun hB => ?_
    simp (disch := first | assumption | omega | (simp; done) | (simp; omega)) only [if_true, if_false, reduceIte, lv, lj, ln_at, cn_t, cn_f, cn_tf, cn_ft, cn_xx, gd_ok, arr_ok, arr_ok8, arr_ok32, arr_oku, ia_ok, bt_ok, EI_ok, LI_ok, h1, Int.lt_irrefl, callGo]
    (repeat' (first | rfl | (refine ln_ok fun _ => ?_) | ((refine ite_ok (fun h => ?_) (fun h => ?_)) <;> (try simp only [h, reduceIte, if_true, if_false, decide_true, decide_false, Bool.true_and, Bool.false_and, Bool.and_true, Bool.and_false, Bool.not_true, Bool.not_false, Bool.false_eq_true]))))
  · rintro rec s x r hI h0 h1 hx hl hr
    simp only [spec_validCall.b0]
    refine ln_ok fun hB => ?_
    have e1 : (s + 1 - 1).toNat = s.toNat := by omega
    have hr' : validArg x = true → rec (s + 1) = some (callGo (byN x) r && decide ((a1.length : Int) ≤ 16)) := fun hv => by
      have := hr (s + 1) (fun a _ ha => by rw [e1, hx] at ha; cases ha; exact hv) rfl
      rw [e1, hx, if_neg (by omega)] at this
      exact this
    by_cases hv : validArg x = true
    · have hk := valid_kind hv
      rcases Int.le_iff_lt_or_eq.1 h0 with hp | hp
      · obtain ⟨y, hy⟩ : ∃ y, a1[(s - 1).toNat]? = some y := ⟨_, List.getElem?_eq_getElem (by omega)⟩
        have hky := valid_kind (hI y hp hy)
        simp (disch := first | assumption | omega | (simp; done) | (simp; omega)) only [if_true, if_false, reduceIte, lv, lj, ln_at, cn_t, cn_f, cn_tf, cn_ft, cn_xx, gd_ok, arr_ok, arr_ok8, arr_ok32, arr_oku, ia_ok, bt_ok, EI_ok, LI_ok, h1, ixArg, hx, h0, hy, cn_ite, eta_Arg, hr' hv, callGo, hv, hp, show 0 ≤ s - 1 by omega, show ¬ s ≤ 0 by omega]
        unfold byN
        rcases hk with hk | hk | hk | hk <;> rcases hky with hky | hky | hky | hky <;> simp [hk, hky]
      · subst hp
        simp (disch := first | assumption | omega | (simp; done) | (simp; omega)) only [if_true, if_false, reduceIte, lv, lj, ln_at, cn_t, cn_f, cn_tf, cn_ft, cn_xx, gd_ok, arr_ok, arr_ok8, arr_ok32, arr_oku, ia_ok, bt_ok, EI_ok, LI_ok, h1, ixArg, hx, h0, cn_ite, eta_Arg, hr' hv, callGo, hv]
        simp
    · simp (disch := first | assumption | omega | (simp; done) | (simp; omega)) only [if_true, if_false, reduceIte, lv, lj, ln_at, cn_t, cn_f, cn_tf, cn_ft, cn_xx, gd_ok, arr_ok, arr_ok8, arr_ok32, arr_oku, ia_ok, bt_ok, EI_ok, LI_ok, h1, ixArg, hx, h0, cn_ite, eta_Arg, callGo, hv]
      simp
end
end Go.Proofs.YtoofegkjdjlpkaaGreatDoor.M
