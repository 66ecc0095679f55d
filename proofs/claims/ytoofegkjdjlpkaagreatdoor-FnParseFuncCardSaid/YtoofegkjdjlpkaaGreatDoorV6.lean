/- The law FnParseSignature. -/
import Derived.Test.YtoofegkjdjlpkaaGreatDoorV4
import Derived.Test.YtoofegkjdjlpkaaGreatDoorV5
set_option linter.unusedVariables false
set_option linter.unusedSimpArgs false
set_option linter.unusedSectionVars false
namespace Go.Proofs.YtoofegkjdjlpkaaGreatDoor.M
open Go Go.Proofs
set_option maxRecDepth 100000
def drawPS (c : List Int) : Str :=
  let x := goodSigV (newRd c)
  if pickI x.2 3 = 0 then (mutV (pickV x.2 3).2 (sigText x.1.params)).1 else sigText x.1.params
theorem drawPS_len {c : List Int} (h : bytesOK c) : (drawPS c).length ≤ 1048576 := by
  obtain ⟨h1, h2⟩ := goodSigV_ok (n := 4) (RO_new h (n := 46) (by omega))
  have h3 := sigText_len h2
  unfold drawPS
  simp only
  split
  · have := mutV_len (s := sigText (goodSigV (newRd c)).1.params) (RO_pick (m := 3) h1); omega
  · omega
def on_Sig_Rd {R : Type} (v : Sig × Rd) (f : (List Param) → (List Int) → Int → Option R) : Option R := f (v.1.params) (v.2.bs) (v.2.at_)
section
variable {A : Bx} {P : Program} {G : Glob} {own : Nat} {o : Nat → EObj} {g : FuncId} {K : C → List (Nat × EObj) → Prop} {R : Type} {r : R} {V : Vx} {v : Sig × Rd} {f : (List Param) → (List Int) → Int → Option R}
variable {U : List C → List EObj → (C → List (Nat × EObj) → Prop) → Prop} {bs : List C} {ext : List EObj} {ids tops : List Nat}
theorem s_vFSig_Rd_1 (hV : IsV V) (hU : U = callW P G own o g ids tops) (H : on_Sig_Rd v f = some r) (hok : FnOK P G g bs (ext.map EObj.toObj) (.agg [.fr 4 ((v.1.params).map eParam)]) (([⟨0, true, 2, .one [.sl ((v.2.bs).map eIu8), .int .i64 (v.2.at_)]⟩] : List EObj).map EObj.toObj) true) (ht : topsF o ids tops) (h : ∀ c0 c1 c2, f c0 c1 c2 = some r → K (.agg [.ref (own + 0) ((o (own + 0)).gen + 1) 4 0 (V.nParam c0)]) (putBackE o ids (([⟨0, true, 2, .one [.sl (V.rIu8 c1), .int .i64 c2]⟩] : List EObj).map EObj.toObj) ++ freezeE o tops ++ [(own + 0, ⟨(o (own + 0)).gen + 1, true, 4, .many (V.rParam c0)⟩)])) : U bs ext K := by
  rw [hU]
  refine ⟨_, _, hok, fun x hx r hr => ?_, topsF_sound ht, ?_⟩
  · simp only [List.mem_singleton] at hx; subst hx; simp [ED.rows] at hr; subst hr; rfl
  · have := h (v.1.params) (v.2.bs) (v.2.at_) H
    rw [show V.nParam (v.1.params) = ((v.1.params).map eParam).length by rw [hV.nParam, List.length_map]] at this
    simp only [hV.rIu8, hV.rParam] at this
    exact this
end
noncomputable def spec_DrawParseSignature.f (a1 : List Int)  (z_ : Str) : Option (Str) := (on_Rd (newRd a1) fun v2 v3 => (gd (RO 42 ⟨v2, v3⟩) (on_Sig_Rd (goodSigV (⟨v2, v3⟩)) fun v4 v5 v6 => (gd (validParams v4 = true) (lv ((fun (s : Sig) => sigText s.params) (⟨v4⟩)) fun v7 => (gd (RO 1 ⟨v5, v6⟩) (on_I_Rd (pickV (⟨v5, v6⟩) 3) fun v8 v9 v10 => (if v8 = 0 then (gd (RO 3 ⟨v9, v10⟩ ∧ v7.length ≤ 1048576) (on_S_Rd (mutV (⟨v9, v10⟩) v7) fun v11 v12 v13 => (some v11))) else (some v7)))))))))
section
variable {G : Glob} (hm : pg.follows .mixedOrders = true) (hz : ∀ T, ∀ c ∈ (ttOf pg T).zero, Bd c) (hG : GF G)
include hm hz hG
theorem spec_DrawParseSignature.w {a1 : List Int}  {r : Str} (H : spec_DrawParseSignature.f a1  r = some r) : FnOK pg G 38 [.sl (a1.map eIu8)] [] (.str ⟨⟨r⟩⟩) [] false := by
  obtain ⟨V, hV⟩ := exV
  simp only [← hV.rIu8, ← hV.rParam]
  refine fn_ok (tt0 := tyG [ty3, ty4, ty5, ty9, ty32, ty46, ty48, ty90, ty99]) (fn := Tryz.f38) (body := bodyOf Tryz.f38) (ext := []) hm (tyG_sub ⟨tt3, tt4, tt5, tt9, tt32, tt46, tt48, tt90, tt99, trivial⟩) hz 0 true [] (by unfold pg; exact Tryz.func38) rfl rfl (by simp [Tryz.f38]) (by simp [EObj.toObj]) (by cbv) ?_
  intro A F hA hF
  unfold spec_DrawParseSignature.f at H
  cbv
  repeat' (first
    | (with_reducible refine s_gd H (fun hg H => ?_))
    | (cases H; exact fin_plain hF rfl rfl rfl rfl)
    | (with_reducible refine s_lt H (fun H => ?_) (fun H => ?_) <;> cbv)
    | (with_reducible refine s_le H (fun H => ?_) (fun H => ?_) <;> cbv)
    | (with_reducible refine s_eq H (fun H => ?_) (fun H => ?_) <;> cbv)
    | (with_reducible refine s_ne H (fun H => ?_) (fun H => ?_) <;> cbv)
    | (with_reducible refine s_lv H (fun _ H => ?_); cbv)
    | (with_reducible refine s_cPRd hV hA H (by (try simp only [hV.rIu8, hV.rParam]); with_unfolding_all exact spec_newReader.ok hm hz hG) rfl (fun _ _ H => ?_); cbv)
    | (with_reducible refine s_vFSig_Rd_1 hV (by assumption) H (by (try simp only [hV.rIu8, hV.rParam]); (first | (have hk_ := spec_goodSignature.ok hm hz hG hg; with_unfolding_all exact hk_) | (with_unfolding_all exact spec_goodSignature.ok hm hz hG (by first | assumption | omega)))) (by first | (cbv <;> (repeat' (first | trivial | refine And.intro ?_ ?_)) <;> (first | rfl | exact clIu8 hV _ | with_unfolding_all exact clParam hV _ | simp [closedCell])) | fail) (fun _ _ _ H => ?_); cbv)
    | (with_reducible refine s_cs hA H (by (try simp only [hV.rIu8, hV.rParam]); (first | (have hk_ := spec_signatureText.ok hm hz hG hg; with_unfolding_all exact hk_) | (with_unfolding_all exact spec_signatureText.ok hm hz hG (by first | assumption | omega)))) rfl (fun _ H => ?_); cbv)
    | (with_reducible refine s_rs (by assumption) H (by (try simp only [hV.rIu8, hV.rParam]); (first | (have hk_ := spec_signatureText.ok hm hz hG hg; with_unfolding_all exact hk_) | (with_unfolding_all exact spec_signatureText.ok hm hz hG (by first | assumption | omega)))) (fun _ H => ?_); cbv)
    | (with_reducible refine s_vI_Rd_1 hV (by assumption) H (by (try simp only [hV.rIu8, hV.rParam]); (first | (have hk_ := spec_reader_pick.ok hm hz hG hg; with_unfolding_all exact hk_) | (with_unfolding_all exact spec_reader_pick.ok hm hz hG (by first | assumption | omega)))) (by first | (cbv <;> (repeat' (first | trivial | refine And.intro ?_ ?_)) <;> (first | rfl | exact clIu8 hV _ | with_unfolding_all exact clParam hV _ | simp [closedCell])) | fail) (fun _ _ _ H => ?_); cbv)
    | (with_reducible refine s_vS_Rd_1 hV (by assumption) H (by (try simp only [hV.rIu8, hV.rParam]); (first | (have hk_ := spec_mutate.ok hm hz hG hg; with_unfolding_all exact hk_) | (with_unfolding_all exact spec_mutate.ok hm hz hG (by first | assumption | omega)))) (by first | (cbv <;> (repeat' (first | trivial | refine And.intro ?_ ?_)) <;> (first | rfl | exact clIu8 hV _ | with_unfolding_all exact clParam hV _ | simp [closedCell])) | fail) (fun _ _ _ H => ?_); cbv)
    | (with_reducible refine callT_wp hA rfl (fun U hU => ?_); cbv)
    | (with_reducible refine callT_cl hA (fun U hU => ?_); cbv)
    | (with_reducible refine indep_of hA ?_; cbv)
    | ((with_reducible refine side ?_); exact sideOf)
    | (with_reducible refine s_tkG hV.rIu8 hV.nIu8 ?_; cbv)
    | (with_reducible refine s_tkG hV.rParam hV.nParam ?_; cbv)
    | (with_reducible refine s_tk1 ?_; cbv)
    | (with_reducible refine And.intro ?_ ?_)
    | (intro ys hys; subst hys; rfl)
    | rfl)
end
section
variable {G : Glob} (hm : pg.follows .mixedOrders = true) (hz : ∀ T, ∀ c ∈ (ttOf pg T).zero, Bd c) (hG : GF G)
include hm hz hG
theorem spec_DrawParseSignature.ok {a1 : List Int} (hp : bytesOK a1) : FnOK pg G 38 [.sl (a1.map eIu8)] [] (.str ⟨⟨((drawPS a1))⟩⟩) [] false := by
  obtain ⟨h1, h2⟩ := goodSigV_ok (n := 4) (RO_new hp (n := 46) (by omega))
  have h3 := sigText_len h2
  refine spec_DrawParseSignature.w hm hz hG ?_
  have h0 : RO 42 (newRd a1) := RO_new hp (by omega)
  simp only [spec_DrawParseSignature.f, on_Rd, on_Sig_Rd, on_I_Rd, on_S_Rd, lv, drawPS, eta_Rd, pickV_1]
  rw [gd_ok h0, gd_ok h2, gd_ok (h1.le (by omega))]
  refine ite_ok (fun h => ?_) (fun h => ?_)
  · rw [if_pos h, gd_ok ⟨RO_pick h1, by omega⟩]
  · rw [if_neg h]
end
noncomputable def laws_equalSignature.b0 (a1 : List Param) (a2 : List Param)  (h0 : (Int) → Option (Bool)) (z_ : Bool) (x15 : Int) : Option (Bool) := (ln' z_ (a1.length) fun v26 => (if x15 < v26 then (ixParam a1 x15 fun v27 v28 v29 v30 => (ixParam a2 x15 fun v31 v32 v33 v34 => (if (⟨v27, v28, v29, v30⟩ : Param) = ⟨v31, v32, v33, v34⟩ then (arr .i64 (x15 + 1) fun v35 => (h0 v35)) else (some false)))) else (some true)))
noncomputable def laws_equalSignature.f (a1 : List Param) (a2 : List Param) (h0 : (Int) → Option (Bool)) (z_ : Bool) : Option (Bool) := (ln' z_ (a1.length) fun v3 => (ln' z_ (a2.length) fun v4 => (if v3 = v4 then (h0 0) else (some false))))
theorem pin_laws_equalSignature {e : ESt} {ns : List (Nat × Nat)} {ps : List (Nat × C)} {os : List (Nat × EObj)} (hs : pinPZ (pinZ e.o (os.map Prod.fst) ns) e.s ps := by first | (cbv <;> (repeat' (first | trivial | refine And.intro ?_ ?_)) <;> (first | rfl | assumption | omega | exact clParam hV _ | with_unfolding_all exact hV.nParam [] | with_unfolding_all exact (hV.nParam []).symm | with_unfolding_all exact hV.rParam _ | with_unfolding_all exact (hV.nParam _).trans (Eq.trans (by simp only [hV.nParam] at *; omega) (hV.nParam _).symm) | simp [closedCell])) | fail) (ho : ∀ B : (Nat → EObj) → List (List C) → List (List C) → Prop, (∀ o rows rows', rowsZ (pinZ o (os.map Prod.fst) ns) rows rows' → B o rows rows') → pinOZ (pinZ e.o (os.map Prod.fst) ns) B e.o ns os := by intro B hB; first | (cbv <;> (repeat' (first | trivial | refine And.intro ?_ ?_ | refine pin_same hB ?_ | refine pin_nil hB ?_ | refine pin_dirty hB (by assumption) (by assumption) ?_ ?_ | exact pinL_n | refine pinL_c ?_ ?_ | exact pzr rfl rfl rfl (nrParam hV _) (clParam hV _) | (refine pz_go ?_; cbv) | (refine pinL_go ?_; cbv))) <;> (first | exact clParam hV _ | with_unfolding_all exact hV.rParam _ | with_unfolding_all exact hV.nParam [] | with_unfolding_all exact (hV.nParam []).symm | assumption | omega | rfl | with_unfolding_all exact (hV.nParam _).trans (Eq.trans (by simp only [hV.nParam] at *; omega) (hV.nParam _).symm) | simp [closedCell])) | fail) : PinnedZ e ns ps os := ⟨hs, ho⟩
section
variable {G : Glob} (hm : pg.follows .mixedOrders = true) (hz : ∀ T, ∀ c ∈ (ttOf pg T).zero, Bd c) (hG : GF G)
include hm hz hG
set_option maxHeartbeats 8000000 in
theorem laws_equalSignature.w {a1 : List Param} {a2 : List Param} (inv0 : (Int) → Prop) (mu0 : (Int) → Nat) (res0 : (Int) → Bool) (hb0 : ∀ (s_ : Int), inv0  s_ → laws_equalSignature.b0 a1 a2  (LI (inv0 ) (mu0 ) (res0 ) (mu0  s_)) (res0  s_) s_ = some (res0  s_)) {r : Bool} (H : laws_equalSignature.f a1 a2 (EI (inv0 ) (mu0 ) (res0 )) r = some r) : FnOK pg G 39 [.agg [.sl (a1.map eParam)], .agg [.sl (a2.map eParam)]] [] (.bool r) [] false := by
  obtain ⟨V, hV⟩ := exV
  simp only [← hV.rParam]
  refine fn_ok (tt0 := tyG [ty3, ty4, ty9, ty46, ty48, ty99]) (fn := Tryz.f39) (body := bodyOf Tryz.f39) (ext := []) hm (tyG_sub ⟨tt3, tt4, tt9, tt46, tt48, tt99, trivial⟩) hz 0 true [] (by unfold pg; exact Tryz.func39) rfl rfl (by simp [Tryz.f39]) (by simp [EObj.toObj]) (by cbv) ?_
  intro A F hA hF
  unfold laws_equalSignature.f at H
  cbv
  repeat' (first
    | (cases H; exact fin_plain hF rfl rfl rfl rfl)
    | (with_reducible refine s_lt H (fun H => ?_) (fun H => ?_) <;> cbv)
    | (with_reducible refine s_le H (fun H => ?_) (fun H => ?_) <;> cbv)
    | (with_reducible refine s_eq H (fun H => ?_) (fun H => ?_) <;> cbv)
    | (with_reducible refine s_ne H (fun H => ?_) (fun H => ?_) <;> cbv)
    | (with_reducible refine s_neParam H (fun H => ?_) (fun H => ?_) <;> cbv)
    | (with_reducible refine s_eqParam H (fun H => ?_) (fun H => ?_) <;> cbv)
    | (with_reducible refine s_ln H lnOf (fun _ H => ?_); cbv)
    | (with_reducible refine s_ixParam hV H (fun _ _ _ _ H => ?_); cbv)
    | (with_reducible refine s_ar H (fun _ H => ?_); cbv)
    | (with_reducible refine s_lv H (fun _ H => ?_); cbv)
    | (with_reducible refine s_loop hA H (fun s h => hb0  s h) [2, 3] [128, 192] (fun e s => [(5, .int .i64 s)]) (fun e s => []) [] pin_laws_equalSignature nbOf ?_; rintro x15 H; unfold laws_equalSignature.b0 at H; (try dsimp only at H); cbv)
    | (with_reducible refine s_next H pin_laws_equalSignature nbOf)
    | (with_reducible refine indep_of hA ?_; cbv)
    | ((with_reducible refine side ?_); exact sideOf)
    | (with_reducible refine s_tkG hV.rParam hV.nParam ?_; cbv)
    | (with_reducible refine s_tk1 ?_; cbv)
    | (with_reducible refine And.intro ?_ ?_)
    | (intro ys hys; subst hys; rfl)
    | rfl)
end
section
variable {G : Glob} (hm : pg.follows .mixedOrders = true) (hz : ∀ T, ∀ c ∈ (ttOf pg T).zero, Bd c) (hG : GF G)
include hm hz hG
theorem laws_equalSignature.ok {a1 : List Param} {a2 : List Param}  : FnOK pg G 39 [.agg [.sl (a1.map eParam)], .agg [.sl (a2.map eParam)]] [] (.bool (((fun (a b : Sig) => decide (a = b)) ⟨a1⟩ ⟨a2⟩))) [] false := by
  have A := @laws_equalSignature.w G hm hz hG a1 a2 (rgI (a1) (fun i => i) (fun _ => a1.length = a2.length)) (rgM (a1) (fun i => i)) (rgR (a1) (fun i => i) (fun r i => decide (r = a2.drop i.toNat))) (rangeS (a1) (fun i => i) (fun _ => a1.length = a2.length) (fun r i => decide (r = a2.drop i.toNat)) (fun rec z s => laws_equalSignature.b0 a1 a2  rec z s) ?_ ?_)
  have e0 : ∀ l k : List Param, decide ((⟨l⟩ : Sig) = ⟨k⟩) = decide (l = k) := fun l k => by simp
  simp only [e0]
  · refine A ?_
    simp only [laws_equalSignature.f]
    refine ln_ok fun hB => ?_
    refine ln_ok fun hB2 => ?_
    refine ite_ok (fun h => EI_fin (rg0 (by omega) rfl) (by simp [rgR])) (fun h => ?_)
    rw [decide_eq_false (fun e => h (by rw [e]))]
  · rintro rec i hI h0 h1
    simp only [laws_equalSignature.b0]
    refine ln_ok fun hB => ?_
    rw [if_neg (by omega), List.drop_eq_nil_of_le (by omega)]; rfl
  · rintro rec i x r hI h0 h1 hx hll hr
    obtain ⟨y, hy, hd⟩ := drop_cons' h0 (by omega : i < a2.length)
    simp only [laws_equalSignature.b0]
    refine ln_ok fun hB => ?_
    simp (disch := first | assumption | omega | (simp; done) | (simp; omega)) only [if_true, if_false, reduceIte, lv, lj, ln_at, cn_t, cn_f, cn_tf, cn_ft, cn_xx, gd_ok, arr_ok, arr_ok8, arr_ok32, arr_oku, ia_ok, bt_ok, EI_ok, LI_ok, h1, ixParam, hx, h0, hy, hr (i + 1) hI rfl, cn_ite, eta_Param]
    rw [hd]
    by_cases h : x = y <;> simp [h]
end
noncomputable def laws_FnParseSignature.f (a1 : List Int)  (z_ : Bool) : Option (Bool) := (ln' z_ (a1.length) fun v2 => (if 1048576 < v2 then (some true) else (gd (bytesOK a1) (lv (drawPS a1) fun v3 => (gd (v3.length ≤ 1048576) (on_Sig_B (ParseSigI v3) fun v6 v7 => (gd (v3.length ≤ 1048576) (on_Sig_B (ParseSigS v3) fun v10 v11 => (cn ((fun (a b : Sig) => decide (a = b)) (⟨v6⟩) (⟨v10⟩)) (cn v7 (cn v11 (lv ((fun (s : Sig) => SigTextV s.params) (⟨v6⟩)) fun v12 => (if v12 = v3 then (cn ((fun (s : Sig) => validParams s.params) (⟨v6⟩)) (some true) (some false)) else (some false))) (cn ((fun (a b : Sig) => decide (a = b)) (⟨v6⟩) (⟨v10⟩)) (some false) (some false))) (cn v11 (cn ((fun (a b : Sig) => decide (a = b)) (⟨v6⟩) (⟨v10⟩)) (some false) (some false)) (cn ((fun (a b : Sig) => decide (a = b)) (⟨v6⟩) (⟨v10⟩)) (some true) (some false)))) (cn ((fun (a b : Sig) => decide (a = b)) (⟨v6⟩) (⟨v10⟩)) (cn v7 (cn v11 (some true) (some false)) (cn v11 (some false) (some true))) (some false)))))))))))
section
variable {G : Glob} (hm : pg.follows .mixedOrders = true) (hz : ∀ T, ∀ c ∈ (ttOf pg T).zero, Bd c) (hG : GF G)
include hm hz hG
theorem laws_FnParseSignature.w {a1 : List Int}  {r : Bool} (H : laws_FnParseSignature.f a1  r = some r) : FnOK pg G 9 [.sl (a1.map eIu8)] [] (.bool r) [] false := by
  obtain ⟨V, hV⟩ := exV
  simp only [← hV.rIu8, ← hV.rParam]
  refine fn_ok (tt0 := tyG [ty3, ty4, ty5, ty9, ty32, ty46, ty48, ty99]) (fn := Tryz.f9) (body := bodyOf Tryz.f9) (ext := []) hm (tyG_sub ⟨tt3, tt4, tt5, tt9, tt32, tt46, tt48, tt99, trivial⟩) hz 0 true [] (by unfold pg; exact Tryz.func9) rfl rfl (by simp [Tryz.f9]) (by simp [EObj.toObj]) (by cbv) ?_
  intro A F hA hF
  unfold laws_FnParseSignature.f at H
  cbv
  repeat' (first
    | (with_reducible refine s_gd H (fun hg H => ?_))
    | (cases H; exact fin_plain hF rfl rfl rfl rfl)
    | (with_reducible refine s_lt H (fun H => ?_) (fun H => ?_) <;> cbv)
    | (with_reducible refine s_le H (fun H => ?_) (fun H => ?_) <;> cbv)
    | (with_reducible refine s_eq H (fun H => ?_) (fun H => ?_) <;> cbv)
    | (with_reducible refine s_ne H (fun H => ?_) (fun H => ?_) <;> cbv)
    | (with_reducible refine s_ln H lnOf (fun _ H => ?_); cbv)
    | (with_reducible refine s_lv H (fun _ H => ?_); cbv)
    | (with_reducible refine s_cs hA H (by (try simp only [hV.rIu8, hV.rParam]); (first | (have hk_ := spec_DrawParseSignature.ok hm hz hG hg; with_unfolding_all exact hk_) | (with_unfolding_all exact spec_DrawParseSignature.ok hm hz hG (by first | assumption | omega)))) rfl (fun _ H => ?_); cbv)
    | (with_reducible refine s_cSig_B hV hA H (by (try simp only [hV.rIu8, hV.rParam]); (first | (have hk_ := impl_ParseSignature.ok hm hz hG hg; with_unfolding_all exact hk_) | (with_unfolding_all exact impl_ParseSignature.ok hm hz hG (by first | assumption | omega)))) rfl (fun _ _ H => ?_); cbv)
    | (with_reducible refine s_cSig_B hV hA H (by (try simp only [hV.rIu8, hV.rParam]); (first | (have hk_ := spec_ParseSignature.ok hm hz hG hg; with_unfolding_all exact hk_) | (with_unfolding_all exact spec_ParseSignature.ok hm hz hG (by first | assumption | omega)))) rfl (fun _ _ H => ?_); cbv)
    | (with_reducible refine s_cb hA H (by (try simp only [hV.rIu8, hV.rParam]); with_unfolding_all exact laws_equalSignature.ok hm hz hG) rfl (fun H => ?_) (fun H => ?_) <;> cbv)
    | (with_reducible refine s_cs hA H (by (try simp only [hV.rIu8, hV.rParam]); with_unfolding_all exact impl_SignatureText.ok hm hz hG) rfl (fun _ H => ?_); cbv)
    | (with_reducible refine s_cb hA H (by (try simp only [hV.rIu8, hV.rParam]); with_unfolding_all exact impl_ValidSignature.ok hm hz hG) rfl (fun H => ?_) (fun H => ?_) <;> cbv)
    | (with_reducible refine indep_of hA ?_; cbv)
    | ((with_reducible refine side ?_); exact sideOf)
    | (with_reducible refine s_tkG hV.rIu8 hV.nIu8 ?_; cbv)
    | (with_reducible refine s_tkG hV.rParam hV.nParam ?_; cbv)
    | (with_reducible refine s_tk1 ?_; cbv)
    | (with_reducible refine And.intro ?_ ?_)
    | ((with_reducible refine s_cn H (fun hb H => ?_) (fun hb H => ?_)) <;> (revert H; subst hb; intro H; cbv))
    | (intro ys hys; subst hys; rfl)
    | rfl)
end
section
variable {G : Glob} (hm : pg.follows .mixedOrders = true) (hz : ∀ T, ∀ c ∈ (ttOf pg T).zero, Bd c) (hG : GF G)
include hm hz hG
theorem laws_FnParseSignature.ok {a1 : List Int} (hp : bytesOK a1) : FnOK pg G 9 [.sl (a1.map eIu8)] [] (.bool (((fun (_ : List Int) => true) a1))) [] false := by
  have hl := drawPS_len hp
  refine laws_FnParseSignature.w hm hz hG ?_
  simp only [laws_FnParseSignature.f, on_Sig_B, lv]
  refine ln_ok fun hB => ite_ok (fun h => rfl) (fun h => ?_)
  generalize drawPS a1 = s at *
  have e := parseSig_same s
  rw [gd_ok hp, gd_ok hl, gd_ok hl, ← e]
  by_cases h : (ParseSigI s).2 = true
  · obtain ⟨h1, h2⟩ := parseSigI_ok h
    have h2 : SigTextV (ParseSigI s).1.params = s := by rw [SigTextV, if_pos h1, h2]
    simp [cn_ite, h, h1, h2]
  · simp [cn_ite, h]
end
end Go.Proofs.YtoofegkjdjlpkaaGreatDoor.M
