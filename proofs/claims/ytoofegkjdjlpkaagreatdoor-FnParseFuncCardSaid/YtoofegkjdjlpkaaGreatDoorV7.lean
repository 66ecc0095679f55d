/- Functions: texts and parsers. -/
import Derived.Test.YtoofegkjdjlpkaaGreatDoorV6
set_option linter.unusedVariables false
set_option linter.unusedSimpArgs false
set_option linter.unusedSectionVars false
namespace Go.Proofs.YtoofegkjdjlpkaaGreatDoor.M
open Go Go.Proofs
set_option maxRecDepth 100000
def funcText (f : Fnc) : Str := f.name ++ [40] ++ sigText f.sig.params ++ [41]
def validFunc (f : Fnc) : Bool := isName f.name && validParams f.sig.params
def FuncTextV (f : Fnc) : Str := if validFunc f = true then funcText f else []
noncomputable def impl_FuncText.f (a1 : Str) (a2 : List Param)  (z_ : Str) : Option (Str) := (cn (isName a1) (cn ((fun (s : Sig) => validParams s.params) (⟨a2⟩)) (gd (a1.length + ([40]).length ≤ 9223372036854775807) (lv (a1 ++ [40]) fun v3 => (lv ((fun (s : Sig) => SigTextV s.params) (⟨a2⟩)) fun v4 => (gd (v3.length + v4.length ≤ 9223372036854775807) (lv (v3 ++ v4) fun v5 => (gd (v5.length + ([41]).length ≤ 9223372036854775807) (lv (v5 ++ [41]) fun v6 => (some v6)))))))) (some (([] : Str)))) (some (([] : Str))))
section
variable {G : Glob} (hm : pg.follows .mixedOrders = true) (hz : ∀ T, ∀ c ∈ (ttOf pg T).zero, Bd c) (hG : GF G)
include hm hz hG
theorem impl_FuncText.w {a1 : Str} {a2 : List Param}  {r : Str} (H : impl_FuncText.f a1 a2  r = some r) : FnOK pg G 49 [.agg [.str ⟨⟨a1⟩⟩, .sl (a2.map eParam)]] [] (.str ⟨⟨r⟩⟩) [] false := by
  obtain ⟨V, hV⟩ := exV
  simp only [← hV.rParam]
  refine fn_ok (tt0 := tyG [ty3, ty4, ty9, ty46, ty48, ty56, ty99]) (fn := Tryz.f49) (body := bodyOf Tryz.f49) (ext := []) hm (tyG_sub ⟨tt3, tt4, tt9, tt46, tt48, tt56, tt99, trivial⟩) hz 0 true [] (by unfold pg; exact Tryz.func49) rfl rfl (by simp [Tryz.f49]) (by simp [EObj.toObj]) (by cbv) ?_
  intro A F hA hF
  unfold impl_FuncText.f at H
  cbv
  repeat' (first
    | (with_reducible refine s_gd H (fun hg H => ?_))
    | (cases H; exact fin_plain hF rfl rfl rfl rfl)
    | (with_reducible refine s_apParam hV H (fun _ H => ?_); cbv)
    | (with_reducible refine s_apL hV.rParam hV.nParam H (fun _ H => ?_); cbv)
    | (with_reducible refine s_lv H (fun _ H => ?_); cbv)
    | (with_reducible refine s_cb hA H (by (try simp only [hV.rParam]); with_unfolding_all exact impl_isName.ok hm hz hG) rfl (fun H => ?_) (fun H => ?_) <;> cbv)
    | (with_reducible refine s_cb hA H (by (try simp only [hV.rParam]); with_unfolding_all exact impl_ValidSignature.ok hm hz hG) rfl (fun H => ?_) (fun H => ?_) <;> cbv)
    | (with_reducible refine s_cs hA H (by (try simp only [hV.rParam]); with_unfolding_all exact impl_SignatureText.ok hm hz hG) rfl (fun _ H => ?_); cbv)
    | (with_reducible refine indep_of hA ?_; cbv)
    | ((with_reducible refine side ?_); exact sideOf)
    | (with_reducible refine s_tkG hV.rParam hV.nParam ?_; cbv)
    | (with_reducible refine s_tk1 ?_; cbv)
    | (with_reducible refine And.intro ?_ ?_)
    | ((with_reducible refine s_cn H (fun hb H => ?_) (fun hb H => ?_)) <;> (revert H; subst hb; intro H; cbv))
    | (intro ys hys; subst hys; rfl)
    | rfl)
end
section
variable {G : Glob} (hm : pg.follows .mixedOrders = true) (hz : ∀ T, ∀ c ∈ (ttOf pg T).zero, Bd c) (hG : GF G)
include hm hz hG
theorem impl_FuncText.ok {a1 : Str} {a2 : List Param}  : FnOK pg G 49 [.agg [.str ⟨⟨a1⟩⟩, .sl (a2.map eParam)]] [] (.str ⟨⟨((FuncTextV ⟨a1, ⟨a2⟩⟩))⟩⟩) [] false := by
  refine impl_FuncText.w hm hz hG ?_
  simp only [impl_FuncText.f, FuncTextV, validFunc, cn_ite, Bool.and_eq_true]
  refine ite_ok (fun h => ?_) (fun h => by rw [if_neg fun c => h c.1])
  refine ite_ok (fun h2 => ?_) (fun h2 => by rw [if_neg fun c => h2 c.2])
  have h1 := isName_len h
  have h3 := sigText_len h2
  have e : SigTextV a2 = sigText a2 := by rw [SigTextV, if_pos h2]
  rw [if_pos ⟨h, h2⟩, gd_ok (by simp; omega)]
  simp only [lv, e]
  rw [gd_ok (by simp; omega), gd_ok (by simp; omega)]
  rfl
end
section
variable {G : Glob} (hm : pg.follows .mixedOrders = true) (hz : ∀ T, ∀ c ∈ (ttOf pg T).zero, Bd c) (hG : GF G)
include hm hz hG
end
section
variable {G : Glob} (hm : pg.follows .mixedOrders = true) (hz : ∀ T, ∀ c ∈ (ttOf pg T).zero, Bd c) (hG : GF G)
include hm hz hG
end
section
variable {G : Glob} (hm : pg.follows .mixedOrders = true) (hz : ∀ T, ∀ c ∈ (ttOf pg T).zero, Bd c) (hG : GF G)
include hm hz hG
end
section
variable {G : Glob} (hm : pg.follows .mixedOrders = true) (hz : ∀ T, ∀ c ∈ (ttOf pg T).zero, Bd c) (hG : GF G)
include hm hz hG
end
def splitFuncV (s : Str) : Str × Str × Bool :=
  if indexByte s 40 < 0 then ([], [], false)
  else if s.getD (s.length - 1) 0 = 41 then (s.take (indexByte s 40).toNat, (s.take (s.length - 1)).drop (indexByte s 40 + 1).toNat, isName (s.take (indexByte s 40).toNat))
  else ([], [], false)
theorem index_hit {s : Str} {c : UInt8} (h : ¬ indexByte s (c.toNat : Int) < 0) : s[(indexByte s (c.toNat : Int)).toNat]? = some c ∧ (indexByte s (c.toNat : Int)).toNat < s.length ∧ 0 ≤ indexByte s (c.toNat : Int) := by
  unfold indexByte findI at h ⊢
  cases e : s.findIdx? (fun b => decide ((b.toNat : Int) = (c.toNat : Int))) with
  | none => rw [e] at h; simp [idxOr] at h
  | some k =>
    obtain ⟨hk, hp, _⟩ := List.findIdx?_eq_some_iff_getElem.1 e
    simp only [decide_eq_true_eq] at hp
    have e1 : s[k] = c := u8 (by omega)
    simp only [idxOr]
    rw [show ((0 : Int) + (k : Int)).toNat = k by omega]
    exact ⟨by rw [List.getElem?_eq_getElem hk, e1], hk, by omega⟩
theorem index_at {a r : Str} {c : UInt8} (ha : ∀ b ∈ a, b ≠ c) : indexByte (a ++ c :: r) (c.toNat : Int) = a.length :=
  findI_app (fun b hb => decide_eq_false fun h => ha b hb (u8 (by omega))) (by simp)
noncomputable def spec_splitFunc.f (a1 : Str)  (z_ : Str × Str × Bool) : Option (Str × Str × Bool) := (lv (indexByte a1 40) fun v2 => (if v2 < 0 then (some (([] : Str), ([] : Str), false)) else (ln' z_ (a1.length) fun v3 => (arr .i64 (v3 - 1) fun v4 => (bt a1 v4 fun v5 => (if v5 = 41 then (gd (0 ≤ v2 ∧ v2.toNat ≤ a1.length) (lv (a1.take v2.toNat) fun v6 => (arr .i64 (v2 + 1) fun v7 => (ln' z_ (a1.length) fun v8 => (arr .i64 (v8 - 1) fun v9 => (gd (0 ≤ v7 ∧ v7 ≤ v9 ∧ v9.toNat ≤ a1.length) (lv ((a1.take v9.toNat).drop v7.toNat) fun v10 => (gd (0 ≤ v2 ∧ v2.toNat ≤ a1.length) (lv (a1.take v2.toNat) fun v11 => (cn (isName v11) (some (v6, v10, true)) (some (v6, v10, false)))))))))))) else (some (([] : Str), ([] : Str), false))))))))
section
variable {G : Glob} (hm : pg.follows .mixedOrders = true) (hz : ∀ T, ∀ c ∈ (ttOf pg T).zero, Bd c) (hG : GF G)
include hm hz hG
theorem spec_splitFunc.w {a1 : Str}  {r : Str × Str × Bool} (H : spec_splitFunc.f a1  r = some r) : FnOK pg G 176 [.str ⟨⟨a1⟩⟩] [] (.tup [.str ⟨⟨(r.1)⟩⟩, .str ⟨⟨(r.2.1)⟩⟩, .bool (r.2.2)]) [] false := by
  obtain ⟨V, hV⟩ := exV
  refine fn_ok (tt0 := tyG [ty3, ty4, ty5, ty9]) (fn := Tryz.f176) (body := bodyOf Tryz.f176) (ext := []) hm (tyG_sub ⟨tt3, tt4, tt5, tt9, trivial⟩) hz 0 true [] (by unfold pg; exact Tryz.func176) rfl rfl (by simp [Tryz.f176]) (by simp [EObj.toObj]) (by cbv) ?_
  intro A F hA hF
  unfold spec_splitFunc.f at H
  cbv
  repeat' (first
    | (with_reducible refine s_gd H (fun hg H => ?_))
    | (cases H; exact fin_plain hF rfl rfl rfl rfl)
    | (with_reducible refine s_lt H (fun H => ?_) (fun H => ?_) <;> cbv)
    | (with_reducible refine s_le H (fun H => ?_) (fun H => ?_) <;> cbv)
    | (with_reducible refine s_eq H (fun H => ?_) (fun H => ?_) <;> cbv)
    | (with_reducible refine s_ne H (fun H => ?_) (fun H => ?_) <;> cbv)
    | (with_reducible refine s_ln H lnOf (fun _ H => ?_); cbv)
    | (with_reducible refine s_bt H (fun _ H => ?_); cbv)
    | (with_reducible refine s_ar H (fun _ H => ?_); cbv)
    | (with_reducible refine s_lv H (fun _ H => ?_); cbv)
    | (with_reducible refine s_ci hA H (by with_unfolding_all exact spec_indexByte.ok hm hz hG) rfl (fun _ H => ?_); cbv)
    | (with_reducible refine s_cb hA H (by with_unfolding_all exact spec_validName.ok hm hz hG) rfl (fun H => ?_) (fun H => ?_) <;> cbv)
    | (with_reducible refine indep_of hA ?_; cbv)
    | ((with_reducible refine side ?_); exact sideOf)
    | (with_reducible refine s_eqn ?_; cbv)
    | (with_reducible refine s_eqn2 ?_; cbv)
    | (with_reducible refine s_tk1 ?_; cbv)
    | (with_reducible refine And.intro ?_ ?_)
    | ((with_reducible refine s_cn H (fun hb H => ?_) (fun hb H => ?_)) <;> (revert H; subst hb; intro H; cbv))
    | (intro ys hys; subst hys; rfl)
    | rfl)
end
section
variable {G : Glob} (hm : pg.follows .mixedOrders = true) (hz : ∀ T, ∀ c ∈ (ttOf pg T).zero, Bd c) (hG : GF G)
include hm hz hG
theorem spec_splitFunc.ok {a1 : Str} (hp : a1.length ≤ 1048576) : FnOK pg G 176 [.str ⟨⟨a1⟩⟩] [] (.tup [.str ⟨⟨((splitFuncV a1).1)⟩⟩, .str ⟨⟨((splitFuncV a1).2.1)⟩⟩, .bool ((splitFuncV a1).2.2)]) [] false := by
  have hi := indexByte_range a1 40
  refine spec_splitFunc.w hm hz hG ?_
  simp only [spec_splitFunc.f, splitFuncV, lv]
  refine ite_ok (fun h => by rw [if_pos h]) (fun h => ?_)
  obtain ⟨x1, x2, x3⟩ := index_hit (c := 40) h
  simp only [show ((40 : UInt8).toNat : Int) = 40 from rfl] at x1 x2 x3
  rw [if_neg h]
  refine ln_ok fun hB => ?_
  have eL : ((a1.length : Int) - 1).toNat = a1.length - 1 := by omega
  rw [arr_ok (by omega), bt_ok (by omega), eL]
  have e41 : (((a1.getD (a1.length - 1) 0).toNat : Int) = 41) ↔ a1.getD (a1.length - 1) 0 = 41 := ⟨fun h => u8 (by show _ = 41; omega), fun h => by rw [h]; rfl⟩
  refine ite_ok (fun c => ?_) (fun c => by rw [if_neg fun d => c (e41.2 d)])
  have c := e41.1 c
  have hne : (indexByte a1 40).toNat ≠ a1.length - 1 := fun e => by
    rw [e] at x1
    rw [List.getD_eq_getElem?_getD, x1] at c
    cases c
  rw [if_pos c, gd_ok (by omega), arr_ok (by omega)]
  refine ln_ok fun hB2 => ?_
  rw [arr_ok (by omega), gd_ok (by omega), gd_ok (by omega), eL, cn_ite]
  cases isName (a1.take (indexByte a1 40).toNat) <;> rfl
end
def parseFuncS (s : Str) : Fnc × Bool := (⟨(splitFuncV s).1, (parseSigS (splitFuncV s).2.1).1⟩, (splitFuncV s).2.2 && (parseSigS (splitFuncV s).2.1).2)
def ParseFuncS (s : Str) : Fnc × Bool := if (parseFuncS s).2 = true then ((parseFuncS s).1, true) else (⟨[], ⟨[]⟩⟩, false)
theorem splitFunc_len (s : Str) : (splitFuncV s).2.1.length ≤ s.length := by
  unfold splitFuncV
  split
  · simp
  · split
    · simp only [List.length_drop, List.length_take]; omega
    · simp
noncomputable def spec_parseFunc.f (a1 : Str)  (z_ : Fnc × Bool) : Option (Fnc × Bool) := (gd (a1.length ≤ 1048576) (on_S_S_B (splitFuncV a1) fun v2 v3 v4 => (gd (v3.length ≤ 1048576) (on_Sig_B (parseSigS v3) fun v7 v8 => (cn v4 (some (⟨v2, ⟨v7⟩⟩, v8)) (some (⟨v2, ⟨v7⟩⟩, false)))))))
section
variable {G : Glob} (hm : pg.follows .mixedOrders = true) (hz : ∀ T, ∀ c ∈ (ttOf pg T).zero, Bd c) (hG : GF G)
include hm hz hG
theorem spec_parseFunc.w {a1 : Str}  {r : Fnc × Bool} (H : spec_parseFunc.f a1  r = some r) : FnOK pg G 108 [.str ⟨⟨a1⟩⟩] [] (.tup [.agg [.str ⟨⟨(r.1.name)⟩⟩, .sl ((r.1.sig.params).map eParam)], .bool (r.2)]) [] true := by
  obtain ⟨V, hV⟩ := exV
  have e0_Param : V.rParam [] = [] := hV.rParam []
  have e1_Param : ∀ x r, V.rParam (x :: r) = eParam x :: V.rParam r := fun x r => by rw [hV.rParam, hV.rParam]; rfl
  simp only [← hV.rParam]
  refine fn_okS (tt0 := tyG [ty3, ty4, ty9, ty46, ty48, ty56, ty99]) (fn := Tryz.f108) (body := bodyOf Tryz.f108) (ext := []) hm (tyG_sub ⟨tt3, tt4, tt9, tt46, tt48, tt56, tt99, trivial⟩) hz 0 [] (by unfold pg; exact Tryz.func108) rfl rfl (by simp [Tryz.f108]) (by simp [EObj.toObj]) (by cbv) ?_
  intro A F hA hF
  unfold spec_parseFunc.f at H
  cbv
  repeat' (first
    | (with_reducible refine s_gd H (fun hg H => ?_))
    | (cases H; (try simp only [e0_Param, e1_Param, eParam] at hF); with_reducible refine fin_close hF rfl (by simp [expIds, posCells, C.cells, idOf]) ?_; cbv)
    | (with_reducible refine s_lv H (fun _ H => ?_); cbv)
    | (with_reducible refine s_cS_S_B hV hA H (by (try simp only [hV.rParam]); (first | (have hk_ := spec_splitFunc.ok hm hz hG hg; with_unfolding_all exact hk_) | (with_unfolding_all exact spec_splitFunc.ok hm hz hG (by first | assumption | omega)))) rfl (fun _ _ _ H => ?_); cbv)
    | (with_reducible refine s_cSig_B hV hA H (by (try simp only [hV.rParam]); (first | (have hk_ := spec_parseSignature.ok hm hz hG hg; with_unfolding_all exact hk_) | (with_unfolding_all exact spec_parseSignature.ok hm hz hG (by first | assumption | omega)))) rfl (fun _ _ H => ?_); cbv)
    | (with_reducible refine indep_of hA ?_; cbv)
    | ((with_reducible refine side ?_); exact sideOf)
    | (with_reducible refine s_tkG hV.rParam hV.nParam ?_; cbv)
    | (with_reducible refine s_tk1 ?_; cbv)
    | (with_reducible refine And.intro ?_ ?_)
    | ((with_reducible refine s_cn H (fun hb H => ?_) (fun hb H => ?_)) <;> (revert H; subst hb; intro H; cbv))
    | (intro ys hys; subst hys; rfl)
    | rfl)
end
section
variable {G : Glob} (hm : pg.follows .mixedOrders = true) (hz : ∀ T, ∀ c ∈ (ttOf pg T).zero, Bd c) (hG : GF G)
include hm hz hG
theorem spec_parseFunc.ok {a1 : Str} (hp : a1.length ≤ 1048576) : FnOK pg G 108 [.str ⟨⟨a1⟩⟩] [] (.tup [.agg [.str ⟨⟨((parseFuncS a1).1.name)⟩⟩, .sl (((parseFuncS a1).1.sig.params).map eParam)], .bool ((parseFuncS a1).2)]) [] true := by
  have := splitFunc_len a1
  refine spec_parseFunc.w hm hz hG ?_
  simp only [spec_parseFunc.f, on_S_S_B, on_Sig_B, parseFuncS]
  rw [gd_ok hp, gd_ok (by omega)]
  cases (splitFuncV a1).2.2 <;> rfl
end
def on_Fnc_B {R : Type} (v : Fnc × Bool) (f : Str → (List Param) → Bool → Option R) : Option R := f (v.1.name) (v.1.sig.params) (v.2)
section
variable {A : Bx} {P : Program} {G : Glob} {rg : Option Nat} {own : Nat} {o : Nat → EObj} {g : FuncId} {vs : List C} {sh : Bool} {K : C → List (Nat × EObj) → Prop} {R : Type} {r : R} {V : Vx} {v : Fnc × Bool} {f : Str → (List Param) → Bool → Option R}
theorem s_cFnc_B (hV : IsV V) (hA : IsBx true rg P G A) (H : on_Fnc_B v f = some r) (hok : FnOK P G g vs [] (.tup [.agg [.str ⟨⟨(v.1.name)⟩⟩, .sl ((v.1.sig.params).map eParam)], .bool (v.2)]) [] sh) (hc : vs.all closedArg = true) (h : ∀ c0 c1 c2, f c0 c1 c2 = some r → K (.tup [.agg [.str ⟨⟨c0⟩⟩, .sl (V.rParam c1)], .bool c2]) []) : A.call own o g vs K := by
  refine callT_plain hA hok hc ?_
  have := h (v.1.name) (v.1.sig.params) (v.2) H
  simp only [hV.rParam] at this
  exact this
variable {U : List C → List Nat → (C → List (Nat × EObj) → Prop) → Prop} {bs : List C} {tops : List Nat}
end
noncomputable def spec_ParseFunc.f (a1 : Str)  (z_ : Fnc × Bool) : Option (Fnc × Bool) := (gd (a1.length ≤ 1048576) (on_Fnc_B (parseFuncS a1) fun v5 v6 v7 => (cn v7 (some (⟨v5, ⟨v6⟩⟩, true)) (some (⟨([] : Str), ⟨[]⟩⟩, false)))))
section
variable {G : Glob} (hm : pg.follows .mixedOrders = true) (hz : ∀ T, ∀ c ∈ (ttOf pg T).zero, Bd c) (hG : GF G)
include hm hz hG
theorem spec_ParseFunc.w {a1 : Str}  {r : Fnc × Bool} (H : spec_ParseFunc.f a1  r = some r) : FnOK pg G 42 [.str ⟨⟨a1⟩⟩] [] (.tup [.agg [.str ⟨⟨(r.1.name)⟩⟩, .sl ((r.1.sig.params).map eParam)], .bool (r.2)]) [] true := by
  obtain ⟨V, hV⟩ := exV
  have e0_Param : V.rParam [] = [] := hV.rParam []
  have e1_Param : ∀ x r, V.rParam (x :: r) = eParam x :: V.rParam r := fun x r => by rw [hV.rParam, hV.rParam]; rfl
  simp only [← hV.rParam]
  refine fn_okS (tt0 := tyG [ty3, ty4, ty9, ty46, ty48, ty56, ty99]) (fn := Tryz.f42) (body := bodyOf Tryz.f42) (ext := []) hm (tyG_sub ⟨tt3, tt4, tt9, tt46, tt48, tt56, tt99, trivial⟩) hz 0 [] (by unfold pg; exact Tryz.func42) rfl rfl (by simp [Tryz.f42]) (by simp [EObj.toObj]) (by cbv) ?_
  intro A F hA hF
  unfold spec_ParseFunc.f at H
  cbv
  repeat' (first
    | (with_reducible refine s_gd H (fun hg H => ?_))
    | (cases H; (try simp only [e0_Param, e1_Param, eParam] at hF); with_reducible refine fin_close hF rfl (by simp [expIds, posCells, C.cells, idOf]) ?_; cbv)
    | (with_reducible refine s_lv H (fun _ H => ?_); cbv)
    | (with_reducible refine s_cFnc_B hV hA H (by (try simp only [hV.rParam]); (first | (have hk_ := spec_parseFunc.ok hm hz hG hg; with_unfolding_all exact hk_) | (with_unfolding_all exact spec_parseFunc.ok hm hz hG (by first | assumption | omega)))) rfl (fun _ _ _ H => ?_); cbv)
    | (with_reducible refine indep_of hA ?_; cbv)
    | ((with_reducible refine side ?_); exact sideOf)
    | (with_reducible refine s_tkG hV.rParam hV.nParam ?_; cbv)
    | (with_reducible refine s_tk1 ?_; cbv)
    | (with_reducible refine And.intro ?_ ?_)
    | ((with_reducible refine s_cn H (fun hb H => ?_) (fun hb H => ?_)) <;> (revert H; subst hb; intro H; cbv))
    | (intro ys hys; subst hys; rfl)
    | rfl)
end
section
variable {G : Glob} (hm : pg.follows .mixedOrders = true) (hz : ∀ T, ∀ c ∈ (ttOf pg T).zero, Bd c) (hG : GF G)
include hm hz hG
theorem spec_ParseFunc.ok {a1 : Str} (hp : a1.length ≤ 1048576) : FnOK pg G 42 [.str ⟨⟨a1⟩⟩] [] (.tup [.agg [.str ⟨⟨((ParseFuncS a1).1.name)⟩⟩, .sl (((ParseFuncS a1).1.sig.params).map eParam)], .bool ((ParseFuncS a1).2)]) [] true := by
  refine spec_ParseFunc.w hm hz hG ?_
  simp only [spec_ParseFunc.f, on_Fnc_B, ParseFuncS, cn_ite]
  rw [gd_ok hp]
  refine ite_ok (fun h => ?_) (fun h => ?_)
  · rw [if_pos h]
  · rw [if_neg h]
end
def ParseFuncI (s : Str) : Fnc × Bool :=
  let f : Fnc := ⟨(cutS s [40]).1, (ParseSigI (cutSuf (cutS s [40]).2.1 [41]).1).1⟩
  if (cutS s [40]).2.2 = true ∧ (cutSuf (cutS s [40]).2.1 [41]).2 = true ∧ (ParseSigI (cutSuf (cutS s [40]).2.1 [41]).1).2 = true ∧ FuncTextV f = s then (f, true) else (⟨[], ⟨[]⟩⟩, false)
noncomputable def impl_ParseFunc.f (a1 : Str)  (z_ : Fnc × Bool) : Option (Fnc × Bool) := (gd (a1.length < 4294967281) (on_S_S_B (cutS a1 ([40])) fun v2 v3 v4 => (on_S_B (cutSuf v3 ([41])) fun v5 v6 => (gd (v5.length ≤ 1048576) (on_Sig_B (ParseSigI v5) fun v9 v10 => (cn v4 (cn v6 (cn v10 (lv (FuncTextV (⟨v2, ⟨v9⟩⟩)) fun v12 => (if v12 = a1 then (some (⟨v2, ⟨v9⟩⟩, true)) else (some (⟨([] : Str), ⟨[]⟩⟩, false)))) (some (⟨([] : Str), ⟨[]⟩⟩, false))) (some (⟨([] : Str), ⟨[]⟩⟩, false))) (some (⟨([] : Str), ⟨[]⟩⟩, false))))))))
section
variable {G : Glob} (hm : pg.follows .mixedOrders = true) (hz : ∀ T, ∀ c ∈ (ttOf pg T).zero, Bd c) (hG : GF G)
include hm hz hG
theorem impl_ParseFunc.w {a1 : Str}  {r : Fnc × Bool} (H : impl_ParseFunc.f a1  r = some r) : FnOK pg G 43 [.str ⟨⟨a1⟩⟩] [] (.tup [.agg [.str ⟨⟨(r.1.name)⟩⟩, .sl ((r.1.sig.params).map eParam)], .bool (r.2)]) [] true := by
  obtain ⟨V, hV⟩ := exV
  have e0_Param : V.rParam [] = [] := hV.rParam []
  have e1_Param : ∀ x r, V.rParam (x :: r) = eParam x :: V.rParam r := fun x r => by rw [hV.rParam, hV.rParam]; rfl
  simp only [← hV.rParam]
  refine fn_okS (tt0 := tyG [ty3, ty4, ty9, ty46, ty48, ty56, ty99]) (fn := Tryz.f43) (body := bodyOf Tryz.f43) (ext := []) hm (tyG_sub ⟨tt3, tt4, tt9, tt46, tt48, tt56, tt99, trivial⟩) hz 0 [] (by unfold pg; exact Tryz.func43) rfl rfl (by simp [Tryz.f43]) (by simp [EObj.toObj]) (by cbv) ?_
  intro A F hA hF
  unfold impl_ParseFunc.f at H
  cbv
  repeat' (first
    | (with_reducible refine s_gd H (fun hg H => ?_))
    | (cases H; (try simp only [e0_Param, e1_Param, eParam] at hF); with_reducible refine fin_close hF rfl (by simp [expIds, posCells, C.cells, idOf]) ?_; cbv)
    | (with_reducible refine s_lt H (fun H => ?_) (fun H => ?_) <;> cbv)
    | (with_reducible refine s_le H (fun H => ?_) (fun H => ?_) <;> cbv)
    | (with_reducible refine s_eq H (fun H => ?_) (fun H => ?_) <;> cbv)
    | (with_reducible refine s_ne H (fun H => ?_) (fun H => ?_) <;> cbv)
    | (with_reducible refine s_lv H (fun _ H => ?_); cbv)
    | (with_reducible refine s_cS_S_B hV hA H (by (try simp only [hV.rParam]); with_unfolding_all exact strings_Cut.ok hm hz hG (by first | assumption | omega)) rfl (fun _ _ _ H => ?_); cbv)
    | (with_reducible refine s_cS_B hV hA H (by (try simp only [hV.rParam]); with_unfolding_all exact strings_CutSuffix.ok hm hz hG) rfl (fun _ _ H => ?_); cbv)
    | (with_reducible refine s_cSig_B hV hA H (by (try simp only [hV.rParam]); (first | (have hk_ := impl_ParseSignature.ok hm hz hG hg; with_unfolding_all exact hk_) | (with_unfolding_all exact impl_ParseSignature.ok hm hz hG (by first | assumption | omega)))) rfl (fun _ _ H => ?_); cbv)
    | (with_reducible refine s_cs hA H (by (try simp only [hV.rParam]); with_unfolding_all exact impl_FuncText.ok hm hz hG) rfl (fun _ H => ?_); cbv)
    | (with_reducible refine indep_of hA ?_; cbv)
    | ((with_reducible refine side ?_); exact sideOf)
    | (with_reducible refine s_tkG hV.rParam hV.nParam ?_; cbv)
    | (with_reducible refine s_tk1 ?_; cbv)
    | (with_reducible refine And.intro ?_ ?_)
    | ((with_reducible refine s_cn H (fun hb H => ?_) (fun hb H => ?_)) <;> (revert H; subst hb; intro H; cbv))
    | (intro ys hys; subst hys; rfl)
    | rfl)
end
section
variable {G : Glob} (hm : pg.follows .mixedOrders = true) (hz : ∀ T, ∀ c ∈ (ttOf pg T).zero, Bd c) (hG : GF G)
include hm hz hG
theorem impl_ParseFunc.ok {a1 : Str} (hp : a1.length ≤ 1048576) : FnOK pg G 43 [.str ⟨⟨a1⟩⟩] [] (.tup [.agg [.str ⟨⟨((ParseFuncI a1).1.name)⟩⟩, .sl (((ParseFuncI a1).1.sig.params).map eParam)], .bool ((ParseFuncI a1).2)]) [] true := by
  have h1 : (cutS a1 [40]).2.1.length ≤ a1.length := cut_len2 a1 [40]
  have h2 : (cutSuf (cutS a1 [40]).2.1 [41]).1.length ≤ (cutS a1 [40]).2.1.length := trimSuf_len _ _
  refine impl_ParseFunc.w hm hz hG ?_
  simp only [impl_ParseFunc.f, on_S_S_B, on_S_B, on_Sig_B, ParseFuncI, cn_ite, lv]
  rw [gd_ok (by omega), gd_ok (by omega)]
  refine ite_ok (fun c1 => ?_) (fun c1 => by rw [if_neg fun h => c1 h.1])
  refine ite_ok (fun c2 => ?_) (fun c2 => by rw [if_neg fun h => c2 h.2.1])
  refine ite_ok (fun c3 => ?_) (fun c3 => by rw [if_neg fun h => c3 h.2.2.1])
  refine ite_ok (fun c4 => ?_) (fun c4 => by rw [if_neg fun h => c4 h.2.2.2])
  rw [if_pos ⟨c1, c2, c3, c4⟩]
end
theorem cutS_at {p r : Str} {c : UInt8} (h : ∀ b ∈ p, b ≠ c) : cutS (p ++ c :: r) [c] = (p, r, true) := by
  have hi := idx_app (rest := r) (t := []) (c := c) (p := p) fun hm => h c hm rfl
  rw [List.append_assoc] at hi
  have hi : Lib.index (p ++ c :: r) [c] = p.length := hi
  have e1 : (p ++ c :: r).take p.length = p := List.take_left' rfl
  have e2 : (p ++ c :: r).drop (p.length + 1) = r := by rw [← List.drop_drop, List.drop_left' rfl]; rfl
  rw [cutS, Lib.cut, hi, if_pos (by omega), Int.toNat_natCast]
  show (_, (p ++ c :: r).drop (p.length + 1), _) = _
  rw [e1, e2]
theorem cutSuf_at {m : Str} {c : UInt8} : cutSuf (m ++ [c]) [c] = (m, true) := by
  have h3 : Lib.hasSuffix (m ++ [c]) [c] = true := List.isSuffixOf_iff_suffix.2 ⟨m, rfl⟩
  have h4 : Lib.trimSuffix (m ++ [c]) [c] = m := by rw [Lib.trimSuffix, if_pos h3]; exact List.take_left' (by simp)
  rw [cutSuf, h3, h4]
theorem parseFuncI_text {f : Fnc} (h : validFunc f = true) : ParseFuncI (funcText f) = (f, true) := by
  have h' := h
  simp only [validFunc, Bool.and_eq_true] at h
  have hn : ∀ b ∈ f.name, b ≠ 40 := fun b hb e => by have := name_chars h.1 b hb; subst e; exact absurd this.1 (by decide)
  have e1 : cutS (funcText f) [40] = (f.name, sigText f.sig.params ++ [41], true) := by
    rw [funcText, List.append_assoc, List.append_assoc]; exact cutS_at hn
  have e2 := parseSigI_text h.2
  rw [ParseFuncI]
  simp only [e1, cutSuf_at, e2]
  rw [if_pos ⟨trivial, trivial, trivial, by rw [FuncTextV, if_pos (show validFunc ⟨f.name, ⟨f.sig.params⟩⟩ = true from h')]⟩]
theorem parseFuncS_text {f : Fnc} (h : validFunc f = true) : ParseFuncS (funcText f) = (f, true) := by
  simp only [validFunc, Bool.and_eq_true] at h
  have hn : ∀ b ∈ f.name, b ≠ 40 := fun b hb e => by have := name_chars h.1 b hb; subst e; exact absurd this.1 (by decide)
  have ef : funcText f = f.name ++ 40 :: (sigText f.sig.params ++ [41]) := by simp [funcText]
  have e1 : indexByte (funcText f) 40 = f.name.length := by rw [ef]; exact index_at (c := 40) hn
  have el : (funcText f).length = f.name.length + (sigText f.sig.params).length + 2 := by simp [funcText]; omega
  have e2 : (funcText f).getD ((funcText f).length - 1) 0 = 41 := by
    rw [el, List.getD_eq_getElem?_getD, ef, List.getElem?_append_right (by omega), show f.name.length + (sigText f.sig.params).length + 2 - 1 - f.name.length = (sigText f.sig.params).length + 1 by omega]
    simp
  have e3 : (funcText f).take f.name.length = f.name := by rw [ef]; exact List.take_left' rfl
  have e4 : ((funcText f).take ((funcText f).length - 1)).drop (f.name.length + 1) = sigText f.sig.params := by
    rw [el, ef, show f.name ++ 40 :: (sigText f.sig.params ++ [41]) = (f.name ++ 40 :: sigText f.sig.params) ++ [41] by simp, List.take_left' (by simp; omega), ← List.drop_drop, List.drop_left' rfl]; rfl
  have e5 := parseSigS_text h.2
  have e6 : parseSigS (sigText f.sig.params) = (f.sig, true) := by
    unfold ParseSigS at e5
    split at e5
    · rename_i c; rw [Prod.mk.injEq] at e5; exact Prod.ext e5.1 c
    · rw [Prod.mk.injEq] at e5; exact absurd e5.2 (by decide)
  have e7 : splitFuncV (funcText f) = (f.name, sigText f.sig.params, true) := by
    rw [splitFuncV, e1, if_neg (by omega), if_pos e2, Int.toNat_natCast, show ((f.name.length : Int) + 1).toNat = f.name.length + 1 by omega, e3, e4, h.1]
  have e8 : parseFuncS (funcText f) = (f, true) := by rw [parseFuncS, e7]; simp only [e6]; rfl
  rw [ParseFuncS, e8]; rfl
theorem parseFuncI_ok {s : Str} (h : (ParseFuncI s).2 = true) : validFunc (ParseFuncI s).1 = true ∧ funcText (ParseFuncI s).1 = s := by
  unfold ParseFuncI at h ⊢
  simp only at h ⊢
  split at h
  · rename_i c
    rw [if_pos c]
    obtain ⟨c1, c2, c3, c4⟩ := c
    have hs : s ≠ [] := fun e => by subst e; exact absurd c1 (by decide)
    unfold FuncTextV at c4
    split at c4
    · rename_i hv; exact ⟨hv, c4⟩
    · exact absurd c4.symm hs
  · cases h
theorem parseFuncS_ok {s : Str} (h : (ParseFuncS s).2 = true) : validFunc (ParseFuncS s).1 = true ∧ funcText (ParseFuncS s).1 = s := by
  unfold ParseFuncS at h ⊢
  split at h
  · rename_i c
    rw [if_pos c]
    simp only
    unfold parseFuncS at c ⊢
    simp only [Bool.and_eq_true] at c ⊢
    obtain ⟨c1, c2⟩ := c
    have hp : (ParseSigS (splitFuncV s).2.1).2 = true := by rw [ParseSigS, if_pos c2]
    obtain ⟨v1, v2⟩ := parseSigS_ok hp
    have ep : (ParseSigS (splitFuncV s).2.1).1 = (parseSigS (splitFuncV s).2.1).1 := by rw [ParseSigS, if_pos c2]
    rw [ep] at v1 v2
    unfold splitFuncV at c1 v1 v2 ⊢
    by_cases k1 : indexByte s 40 < 0
    · rw [if_pos k1] at c1; cases c1
    · rw [if_neg k1] at c1 v1 v2 ⊢
      by_cases k2 : s.getD (s.length - 1) 0 = 41
      · rw [if_pos k2] at c1 v1 v2 ⊢
        simp only at c1 v1 v2 ⊢
        refine ⟨by simp only [validFunc, Bool.and_eq_true]; exact ⟨c1, v1⟩, ?_⟩
        obtain ⟨x1, x2, x3⟩ := index_hit (c := 40) k1
        simp only [show ((40 : UInt8).toNat : Int) = 40 from rfl] at x1 x2 x3
        have hne : (indexByte s 40).toNat ≠ s.length - 1 := fun e => by
          rw [e] at x1
          rw [List.getD_eq_getElem?_getD, x1] at k2
          cases k2
        have xl : s[s.length - 1]? = some 41 := by
          rw [List.getD_eq_getElem?_getD, List.getElem?_eq_getElem (by omega)] at k2
          rw [List.getElem?_eq_getElem (by omega)]; exact congrArg some k2
        rw [funcText]
        simp only
        rw [v2, show (indexByte s 40 + 1).toNat = (indexByte s 40).toNat + 1 by omega]
        have e1 : s = s.take (s.length - 1) ++ [41] := by
          conv => lhs; rw [← List.take_append_drop (s.length - 1) s, List.drop_eq_getElem_cons (by omega : s.length - 1 < s.length), List.drop_eq_nil_of_le (by omega)]
          rw [List.getElem?_eq_getElem (by omega)] at xl
          rw [Option.some.inj xl]
        have e2 : s.take (s.length - 1) = s.take (indexByte s 40).toNat ++ 40 :: (s.take (s.length - 1)).drop ((indexByte s 40).toNat + 1) := by
          have hlt : (indexByte s 40).toNat < (s.take (s.length - 1)).length := by rw [List.length_take]; omega
          conv => lhs; rw [← List.take_append_drop (indexByte s 40).toNat (s.take (s.length - 1)), List.drop_eq_getElem_cons hlt]
          rw [List.take_take, Nat.min_eq_left (by omega), List.getElem_take]
          rw [List.getElem?_eq_getElem x2] at x1
          rw [Option.some.inj x1]
        conv => rhs; rw [e1, e2]
        simp
      · rw [if_neg k2] at c1; cases c1
  · cases h
theorem parseFuncI_bad {s : Str} (h : (ParseFuncI s).2 = false) : (ParseFuncI s).1 = ⟨[], ⟨[]⟩⟩ := by
  unfold ParseFuncI at h ⊢
  simp only at h ⊢
  split at h
  · cases h
  · rename_i c; rw [if_neg c]
theorem parseFuncS_bad {s : Str} (h : (ParseFuncS s).2 = false) : (ParseFuncS s).1 = ⟨[], ⟨[]⟩⟩ := by
  unfold ParseFuncS at h ⊢
  split at h
  · cases h
  · rename_i c; rw [if_neg c]
theorem parseFunc_same (s : Str) : ParseFuncI s = ParseFuncS s := by
  cases hI : (ParseFuncI s).2 with
  | true =>
    obtain ⟨h1, h2⟩ := parseFuncI_ok hI
    have e := parseFuncS_text h1
    rw [h2] at e
    rw [e]
    exact Prod.ext rfl hI
  | false =>
    cases hS : (ParseFuncS s).2 with
    | true =>
      obtain ⟨h1, h2⟩ := parseFuncS_ok hS
      have e := parseFuncI_text h1
      rw [h2] at e
      rw [e] at hI; cases hI
    | false => exact Prod.ext ((parseFuncI_bad hI).trans (parseFuncS_bad hS).symm) (hI.trans hS.symm)
def drawPF (c : List Int) : Str :=
  let n := rOf (newRd c) [[102], [103], [114, 117, 110]]
  let x := goodSigV n.2
  let s := n.1 ++ [40] ++ sigText x.1.params ++ [41]
  if pickI x.2 3 = 0 then (mutV (pickV x.2 3).2 s).1 else s
theorem drawPF_len {c : List Int} (h : bytesOK c) : (drawPF c).length ≤ 1048576 := by
  have h0 : RO 47 (newRd c) := RO_new h (by omega)
  have hn : (rOf (newRd c) [[102], [103], [114, 117, 110]]).1.length ≤ 3 := by
    have := rOf_mem (l := [[102], [103], [114, 117, 110]]) (h0.le (by omega)) (by decide)
    have hA : ([[102], [103], [114, 117, 110]] : List Str).all (fun s => decide (s.length ≤ 3)) = true := by decide
    rw [List.all_eq_true] at hA; simpa using hA _ this
  obtain ⟨h1, h2⟩ := goodSigV_ok (n := 4) (r := (rOf (newRd c) [[102], [103], [114, 117, 110]]).2) (RO_of h0)
  have h3 := sigText_len h2
  unfold drawPF
  simp only
  split
  · have := mutV_len (s := (rOf (newRd c) [[102], [103], [114, 117, 110]]).1 ++ [40] ++ sigText (goodSigV (rOf (newRd c) [[102], [103], [114, 117, 110]]).2).1.params ++ [41]) (RO_pick (m := 3) h1)
    simp only [List.length_append, List.length_cons, List.length_nil] at this ⊢; omega
  · simp; omega
noncomputable def spec_DrawParseFunc.f (a1 : List Int)  (z_ : Str) : Option (Str) := (on_Rd (newRd a1) fun v2 v3 => (gd (RO 1 ⟨v2, v3⟩ ∧ 1 ≤ (([[102], [103], [114, 117, 110]] : List Str)).length ∧ (([[102], [103], [114, 117, 110]] : List Str)).length ≤ 1000) (on_S_Rd (rOf (⟨v2, v3⟩) ([[102], [103], [114, 117, 110]])) fun v4 v5 v6 => (gd (v4.length + ([40]).length ≤ 9223372036854775807) (lv (v4 ++ [40]) fun v7 => (gd (RO 42 ⟨v5, v6⟩) (on_Sig_Rd (goodSigV (⟨v5, v6⟩)) fun v8 v9 v10 => (gd (validParams v8 = true) (lv ((fun (s : Sig) => sigText s.params) (⟨v8⟩)) fun v11 => (gd (v7.length + v11.length ≤ 9223372036854775807) (lv (v7 ++ v11) fun v12 => (gd (v12.length + ([41]).length ≤ 9223372036854775807) (lv (v12 ++ [41]) fun v13 => (gd (RO 1 ⟨v9, v10⟩) (on_I_Rd (pickV (⟨v9, v10⟩) 3) fun v14 v15 v16 => (if v14 = 0 then (gd (RO 3 ⟨v15, v16⟩ ∧ v13.length ≤ 1048576) (on_S_Rd (mutV (⟨v15, v16⟩) v13) fun v17 v18 v19 => (some v17))) else (some v13)))))))))))))))))
section
variable {G : Glob} (hm : pg.follows .mixedOrders = true) (hz : ∀ T, ∀ c ∈ (ttOf pg T).zero, Bd c) (hG : GF G)
include hm hz hG
theorem spec_DrawParseFunc.w {a1 : List Int}  {r : Str} (H : spec_DrawParseFunc.f a1  r = some r) : FnOK pg G 47 [.sl (a1.map eIu8)] [] (.str ⟨⟨r⟩⟩) [] false := by
  obtain ⟨V, hV⟩ := exV
  simp only [← hV.rS, ← hV.rIu8, ← hV.rParam]
  refine fn_ok (tt0 := tyG [ty3, ty4, ty5, ty9, ty32, ty46, ty48, ty71, ty90, ty99]) (fn := Tryz.f47) (body := bodyOf Tryz.f47) (ext := []) hm (tyG_sub ⟨tt3, tt4, tt5, tt9, tt32, tt46, tt48, tt71, tt90, tt99, trivial⟩) hz 0 true [] (by unfold pg; exact Tryz.func47) rfl rfl (by simp [Tryz.f47]) (by simp [EObj.toObj]) (by cbv) ?_
  intro A F hA hF
  unfold spec_DrawParseFunc.f at H
  cbv
  repeat' (first
    | (with_reducible refine s_gd H (fun hg H => ?_))
    | (cases H; exact fin_plain hF rfl rfl rfl rfl)
    | (with_reducible refine s_lt H (fun H => ?_) (fun H => ?_) <;> cbv)
    | (with_reducible refine s_le H (fun H => ?_) (fun H => ?_) <;> cbv)
    | (with_reducible refine s_eq H (fun H => ?_) (fun H => ?_) <;> cbv)
    | (with_reducible refine s_ne H (fun H => ?_) (fun H => ?_) <;> cbv)
    | (with_reducible refine s_apS hV H (fun _ H => ?_); cbv)
    | (with_reducible refine s_apL hV.rS hV.nS H (fun _ H => ?_); cbv)
    | (with_reducible refine s_apIu8 hV H (fun _ H => ?_); cbv)
    | (with_reducible refine s_apL hV.rIu8 hV.nIu8 H (fun _ H => ?_); cbv)
    | (with_reducible refine s_apParam hV H (fun _ H => ?_); cbv)
    | (with_reducible refine s_apL hV.rParam hV.nParam H (fun _ H => ?_); cbv)
    | (with_reducible refine s_lv H (fun _ H => ?_); cbv)
    | (with_reducible refine s_cPRd hV hA H (by (try simp only [hV.rS, hV.rIu8, hV.rParam]); with_unfolding_all exact spec_newReader.ok hm hz hG) rfl (fun _ _ H => ?_); cbv)
    | (with_reducible refine s_vS_Rd_1 hV (by assumption) H (by (try simp only [hV.rS, hV.rIu8, hV.rParam]); (first | (have hk_ := spec_reader_of.ok hm hz hG hg; with_unfolding_all exact hk_) | (with_unfolding_all exact spec_reader_of.ok hm hz hG (by first | assumption | omega)))) (by first | (cbv <;> (repeat' (first | trivial | refine And.intro ?_ ?_)) <;> (first | rfl | exact clS hV _ | with_unfolding_all exact clIu8 hV _ | with_unfolding_all exact clParam hV _ | simp [closedCell])) | fail) (fun _ _ _ H => ?_); cbv)
    | (with_reducible refine s_vFSig_Rd_1 hV (by assumption) H (by (try simp only [hV.rS, hV.rIu8, hV.rParam]); (first | (have hk_ := spec_goodSignature.ok hm hz hG hg; with_unfolding_all exact hk_) | (with_unfolding_all exact spec_goodSignature.ok hm hz hG (by first | assumption | omega)))) (by first | (cbv <;> (repeat' (first | trivial | refine And.intro ?_ ?_)) <;> (first | rfl | exact clS hV _ | with_unfolding_all exact clIu8 hV _ | with_unfolding_all exact clParam hV _ | simp [closedCell])) | fail) (fun _ _ _ H => ?_); cbv)
    | (with_reducible refine s_cs hA H (by (try simp only [hV.rS, hV.rIu8, hV.rParam]); (first | (have hk_ := spec_signatureText.ok hm hz hG hg; with_unfolding_all exact hk_) | (with_unfolding_all exact spec_signatureText.ok hm hz hG (by first | assumption | omega)))) rfl (fun _ H => ?_); cbv)
    | (with_reducible refine s_rs (by assumption) H (by (try simp only [hV.rS, hV.rIu8, hV.rParam]); (first | (have hk_ := spec_signatureText.ok hm hz hG hg; with_unfolding_all exact hk_) | (with_unfolding_all exact spec_signatureText.ok hm hz hG (by first | assumption | omega)))) (fun _ H => ?_); cbv)
    | (with_reducible refine s_vI_Rd_1 hV (by assumption) H (by (try simp only [hV.rS, hV.rIu8, hV.rParam]); (first | (have hk_ := spec_reader_pick.ok hm hz hG hg; with_unfolding_all exact hk_) | (with_unfolding_all exact spec_reader_pick.ok hm hz hG (by first | assumption | omega)))) (by first | (cbv <;> (repeat' (first | trivial | refine And.intro ?_ ?_)) <;> (first | rfl | exact clS hV _ | with_unfolding_all exact clIu8 hV _ | with_unfolding_all exact clParam hV _ | simp [closedCell])) | fail) (fun _ _ _ H => ?_); cbv)
    | (with_reducible refine s_vS_Rd_1 hV (by assumption) H (by (try simp only [hV.rS, hV.rIu8, hV.rParam]); (first | (have hk_ := spec_mutate.ok hm hz hG hg; with_unfolding_all exact hk_) | (with_unfolding_all exact spec_mutate.ok hm hz hG (by first | assumption | omega)))) (by first | (cbv <;> (repeat' (first | trivial | refine And.intro ?_ ?_)) <;> (first | rfl | exact clS hV _ | with_unfolding_all exact clIu8 hV _ | with_unfolding_all exact clParam hV _ | simp [closedCell])) | fail) (fun _ _ _ H => ?_); cbv)
    | (with_reducible refine callT_wp hA rfl (fun U hU => ?_); cbv)
    | (with_reducible refine callT_cl hA (fun U hU => ?_); cbv)
    | (with_reducible refine indep_of hA ?_; cbv)
    | ((with_reducible refine side ?_); exact sideOf)
    | (with_reducible refine s_tkG hV.rS hV.nS ?_; cbv)
    | (with_reducible refine s_tkG hV.rIu8 hV.nIu8 ?_; cbv)
    | (with_reducible refine s_tkG hV.rParam hV.nParam ?_; cbv)
    | (with_reducible refine s_tk1 ?_; cbv)
    | (with_reducible refine s_eqL ?_; cbv)
    | (with_reducible refine And.intro ?_ ?_)
    | (intro ys hys; subst hys; rfl)
    | rfl)
end
section
variable {G : Glob} (hm : pg.follows .mixedOrders = true) (hz : ∀ T, ∀ c ∈ (ttOf pg T).zero, Bd c) (hG : GF G)
include hm hz hG
theorem spec_DrawParseFunc.ok {a1 : List Int} (hp : bytesOK a1) : FnOK pg G 47 [.sl (a1.map eIu8)] [] (.str ⟨⟨((drawPF a1))⟩⟩) [] false := by
  have h0 : RO 47 (newRd a1) := RO_new hp (by omega)
  have hn : (rOf (newRd a1) [[102], [103], [114, 117, 110]]).1.length ≤ 3 := by
    have := rOf_mem (l := [[102], [103], [114, 117, 110]]) (h0.le (by omega)) (by decide)
    have hA : ([[102], [103], [114, 117, 110]] : List Str).all (fun s => decide (s.length ≤ 3)) = true := by decide
    rw [List.all_eq_true] at hA; simpa using hA _ this
  have h1' : RO 46 (rOf (newRd a1) [[102], [103], [114, 117, 110]]).2 := RO_of h0
  obtain ⟨h1, h2⟩ := goodSigV_ok (n := 4) h1'
  have h3 := sigText_len h2
  refine spec_DrawParseFunc.w hm hz hG ?_
  simp only [spec_DrawParseFunc.f, on_Rd, on_S_Rd, on_Sig_Rd, on_I_Rd, lv, drawPF, eta_Rd, pickV_1]
  rw [gd_ok ⟨h0.le (by omega), by decide, by decide⟩, gd_ok (by simp; omega), gd_ok (h1'.le (by omega)), gd_ok h2, gd_ok (by simp; omega), gd_ok (by simp; omega), gd_ok (h1.le (by omega))]
  refine ite_ok (fun h => ?_) (fun h => ?_)
  · rw [if_pos h, gd_ok ⟨RO_pick h1, by simp; omega⟩]
  · rw [if_neg h]
end
noncomputable def laws_equalFunc.f (a1 : Str) (a2 : List Param) (a3 : Str) (a4 : List Param)  (z_ : Bool) : Option (Bool) := (if a1 = a3 then (cn ((fun (a b : Sig) => decide (a = b)) (⟨a2⟩) (⟨a4⟩)) (some true) (some false)) else (some false))
section
variable {G : Glob} (hm : pg.follows .mixedOrders = true) (hz : ∀ T, ∀ c ∈ (ttOf pg T).zero, Bd c) (hG : GF G)
include hm hz hG
theorem laws_equalFunc.w {a1 : Str} {a2 : List Param} {a3 : Str} {a4 : List Param}  {r : Bool} (H : laws_equalFunc.f a1 a2 a3 a4  r = some r) : FnOK pg G 48 [.agg [.str ⟨⟨a1⟩⟩, .sl (a2.map eParam)], .agg [.str ⟨⟨a3⟩⟩, .sl (a4.map eParam)]] [] (.bool r) [] false := by
  obtain ⟨V, hV⟩ := exV
  simp only [← hV.rParam]
  refine fn_ok (tt0 := tyG [ty3, ty4, ty9, ty46, ty48, ty56, ty99]) (fn := Tryz.f48) (body := bodyOf Tryz.f48) (ext := []) hm (tyG_sub ⟨tt3, tt4, tt9, tt46, tt48, tt56, tt99, trivial⟩) hz 0 true [] (by unfold pg; exact Tryz.func48) rfl rfl (by simp [Tryz.f48]) (by simp [EObj.toObj]) (by cbv) ?_
  intro A F hA hF
  unfold laws_equalFunc.f at H
  cbv
  repeat' (first
    | (cases H; exact fin_plain hF rfl rfl rfl rfl)
    | (with_reducible refine s_lt H (fun H => ?_) (fun H => ?_) <;> cbv)
    | (with_reducible refine s_le H (fun H => ?_) (fun H => ?_) <;> cbv)
    | (with_reducible refine s_eq H (fun H => ?_) (fun H => ?_) <;> cbv)
    | (with_reducible refine s_ne H (fun H => ?_) (fun H => ?_) <;> cbv)
    | (with_reducible refine s_lv H (fun _ H => ?_); cbv)
    | (with_reducible refine s_cb hA H (by (try simp only [hV.rParam]); with_unfolding_all exact laws_equalSignature.ok hm hz hG) rfl (fun H => ?_) (fun H => ?_) <;> cbv)
    | (with_reducible refine indep_of hA ?_; cbv)
    | ((with_reducible refine side ?_); exact sideOf)
    | (with_reducible refine s_tkG hV.rParam hV.nParam ?_; cbv)
    | (with_reducible refine s_tk1 ?_; cbv)
    | (with_reducible refine And.intro ?_ ?_)
    | ((with_reducible refine s_cn H (fun hb H => ?_) (fun hb H => ?_)) <;> (revert H; subst hb; intro H; cbv))
    | (intro ys hys; subst hys; rfl)
    | rfl)
end
section
variable {G : Glob} (hm : pg.follows .mixedOrders = true) (hz : ∀ T, ∀ c ∈ (ttOf pg T).zero, Bd c) (hG : GF G)
include hm hz hG
theorem laws_equalFunc.ok {a1 : Str} {a2 : List Param} {a3 : Str} {a4 : List Param}  : FnOK pg G 48 [.agg [.str ⟨⟨a1⟩⟩, .sl (a2.map eParam)], .agg [.str ⟨⟨a3⟩⟩, .sl (a4.map eParam)]] [] (.bool (((fun (a b : Fnc) => decide (a = b)) ⟨a1, ⟨a2⟩⟩ ⟨a3, ⟨a4⟩⟩))) [] false := by
  refine laws_equalFunc.w hm hz hG ?_
  simp only [laws_equalFunc.f, cn_ite, decide_eq_true_eq]
  by_cases h1 : a1 = a3 <;> by_cases h2 : a2 = a4 <;> simp [h1, h2]
end
noncomputable def laws_FnParseFunc.f (a1 : List Int)  (z_ : Bool) : Option (Bool) := (ln' z_ (a1.length) fun v2 => (if 1048576 < v2 then (some true) else (gd (bytesOK a1) (lv (drawPF a1) fun v3 => (gd (v3.length ≤ 1048576) (on_Fnc_B (ParseFuncI v3) fun v7 v8 v9 => (gd (v3.length ≤ 1048576) (on_Fnc_B (ParseFuncS v3) fun v13 v14 v15 => (cn ((fun (a b : Fnc) => decide (a = b)) (⟨v7, ⟨v8⟩⟩) (⟨v13, ⟨v14⟩⟩)) (cn v9 (cn v15 (lv (FuncTextV (⟨v7, ⟨v8⟩⟩)) fun v16 => (if v16 = v3 then (cn ((fun (s : Sig) => validParams s.params) (⟨v8⟩)) (some true) (some false)) else (some false))) (cn ((fun (a b : Fnc) => decide (a = b)) (⟨v7, ⟨v8⟩⟩) (⟨v13, ⟨v14⟩⟩)) (some false) (some false))) (cn v15 (cn ((fun (a b : Fnc) => decide (a = b)) (⟨v7, ⟨v8⟩⟩) (⟨v13, ⟨v14⟩⟩)) (some false) (some false)) (cn ((fun (a b : Fnc) => decide (a = b)) (⟨v7, ⟨v8⟩⟩) (⟨v13, ⟨v14⟩⟩)) (some true) (some false)))) (cn ((fun (a b : Fnc) => decide (a = b)) (⟨v7, ⟨v8⟩⟩) (⟨v13, ⟨v14⟩⟩)) (cn v9 (cn v15 (some true) (some false)) (cn v15 (some false) (some true))) (some false)))))))))))
section
variable {G : Glob} (hm : pg.follows .mixedOrders = true) (hz : ∀ T, ∀ c ∈ (ttOf pg T).zero, Bd c) (hG : GF G)
include hm hz hG
theorem laws_FnParseFunc.w {a1 : List Int}  {r : Bool} (H : laws_FnParseFunc.f a1  r = some r) : FnOK pg G 11 [.sl (a1.map eIu8)] [] (.bool r) [] false := by
  obtain ⟨V, hV⟩ := exV
  simp only [← hV.rIu8, ← hV.rParam]
  refine fn_ok (tt0 := tyG [ty3, ty4, ty5, ty9, ty32, ty46, ty48, ty56, ty99]) (fn := Tryz.f11) (body := bodyOf Tryz.f11) (ext := []) hm (tyG_sub ⟨tt3, tt4, tt5, tt9, tt32, tt46, tt48, tt56, tt99, trivial⟩) hz 0 true [] (by unfold pg; exact Tryz.func11) rfl rfl (by simp [Tryz.f11]) (by simp [EObj.toObj]) (by cbv) ?_
  intro A F hA hF
  unfold laws_FnParseFunc.f at H
  cbv
  repeat' (first
    | (with_reducible refine s_gd H (fun hg H => ?_))
    | (cases H; exact fin_plain hF rfl rfl rfl rfl)
    | (with_reducible refine s_lt H (fun H => ?_) (fun H => ?_) <;> cbv)
    | (with_reducible refine s_le H (fun H => ?_) (fun H => ?_) <;> cbv)
    | (with_reducible refine s_eq H (fun H => ?_) (fun H => ?_) <;> cbv)
    | (with_reducible refine s_ne H (fun H => ?_) (fun H => ?_) <;> cbv)
    | (with_reducible refine s_ln H lnOf (fun _ H => ?_); cbv)
    | (with_reducible refine s_lv H (fun _ H => ?_); cbv)
    | (with_reducible refine s_cs hA H (by (try simp only [hV.rIu8, hV.rParam]); (first | (have hk_ := spec_DrawParseFunc.ok hm hz hG hg; with_unfolding_all exact hk_) | (with_unfolding_all exact spec_DrawParseFunc.ok hm hz hG (by first | assumption | omega)))) rfl (fun _ H => ?_); cbv)
    | (with_reducible refine s_cFnc_B hV hA H (by (try simp only [hV.rIu8, hV.rParam]); (first | (have hk_ := impl_ParseFunc.ok hm hz hG hg; with_unfolding_all exact hk_) | (with_unfolding_all exact impl_ParseFunc.ok hm hz hG (by first | assumption | omega)))) rfl (fun _ _ _ H => ?_); cbv)
    | (with_reducible refine s_cFnc_B hV hA H (by (try simp only [hV.rIu8, hV.rParam]); (first | (have hk_ := spec_ParseFunc.ok hm hz hG hg; with_unfolding_all exact hk_) | (with_unfolding_all exact spec_ParseFunc.ok hm hz hG (by first | assumption | omega)))) rfl (fun _ _ _ H => ?_); cbv)
    | (with_reducible refine s_cb hA H (by (try simp only [hV.rIu8, hV.rParam]); with_unfolding_all exact laws_equalFunc.ok hm hz hG) rfl (fun H => ?_) (fun H => ?_) <;> cbv)
    | (with_reducible refine s_cs hA H (by (try simp only [hV.rIu8, hV.rParam]); with_unfolding_all exact impl_FuncText.ok hm hz hG) rfl (fun _ H => ?_); cbv)
    | (with_reducible refine s_cb hA H (by (try simp only [hV.rIu8, hV.rParam]); with_unfolding_all exact impl_ValidSignature.ok hm hz hG) rfl (fun H => ?_) (fun H => ?_) <;> cbv)
    | (with_reducible refine indep_of hA ?_; cbv)
    | ((with_reducible refine side ?_); exact sideOf)
    | (with_reducible refine s_tkG hV.rIu8 hV.nIu8 ?_; cbv)
    | (with_reducible refine s_tkG hV.rParam hV.nParam ?_; cbv)
    | (with_reducible refine s_tk1 ?_; cbv)
    | (with_reducible refine And.intro ?_ ?_)
    | ((with_reducible refine s_cn H (fun hb H => ?_) (fun hb H => ?_)) <;> (revert H; subst hb; intro H; cbv))
    | (intro ys hys; subst hys; rfl)
    | rfl)
end
section
variable {G : Glob} (hm : pg.follows .mixedOrders = true) (hz : ∀ T, ∀ c ∈ (ttOf pg T).zero, Bd c) (hG : GF G)
include hm hz hG
theorem laws_FnParseFunc.ok {a1 : List Int} (hp : bytesOK a1) : FnOK pg G 11 [.sl (a1.map eIu8)] [] (.bool (((fun (_ : List Int) => true) a1))) [] false := by
  have hl := drawPF_len hp
  refine laws_FnParseFunc.w hm hz hG ?_
  simp only [laws_FnParseFunc.f, on_Fnc_B, lv]
  refine ln_ok fun hB => ite_ok (fun h => rfl) (fun h => ?_)
  generalize drawPF a1 = s at *
  have e := parseFunc_same s
  rw [gd_ok hp, gd_ok hl, gd_ok hl, ← e]
  by_cases h : (ParseFuncI s).2 = true
  · obtain ⟨h1, h2⟩ := parseFuncI_ok h
    have h2 : FuncTextV (ParseFuncI s).1 = s := by rw [FuncTextV, if_pos h1, h2]
    have h2 : FuncTextV ⟨(ParseFuncI s).1.name, ⟨(ParseFuncI s).1.sig.params⟩⟩ = s := h2
    have h3 : validParams (ParseFuncI s).1.sig.params = true := by simp only [validFunc, Bool.and_eq_true] at h1; exact h1.2
    simp [cn_ite, h, h2, h3]
  · simp [cn_ite, h]
end
end Go.Proofs.YtoofegkjdjlpkaaGreatDoor.M
