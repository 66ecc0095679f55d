/- Sizes, copies and comparisons of signatures. -/
import Derived.Test.YtchpopejojghmaaGreatDoorV1
set_option linter.unusedVariables false
set_option linter.unusedSimpArgs false
set_option linter.unusedSectionVars false
namespace Go.Proofs.YtchpopejojghmaaGreatDoor.M
open Go Go.Proofs
set_option maxRecDepth 100000
def on_Sig {R : Type} (v : Sig) (f : (List Param) → Option R) : Option R := f (v.params)
section
variable {A : Bx} {P : Program} {G : Glob} {rg : Option Nat} {own : Nat} {o : Nat → EObj} {g : FuncId} {vs : List C} {sh : Bool} {K : C → List (Nat × EObj) → Prop} {R : Type} {r : R} {V : Vx} {v : Sig} {f : (List Param) → Option R}
theorem s_cSig (hV : IsV V) (hA : IsBx true rg P G A) (H : on_Sig v f = some r) (hok : FnOK P G g vs [] (.agg [.sl ((v.params).map eParam)]) [] sh) (hc : vs.all closedArg = true) (h : ∀ c0, f c0 = some r → K (.agg [.sl (V.rParam c0)]) []) : A.call own o g vs K := by
 refine callT_plain hA hok hc ?_
 have := h (v.params) H
 simp only [hV.rParam] at this
 exact this
variable {U : List C → List Nat → (C → List (Nat × EObj) → Prop) → Prop} {bs : List C} {tops : List Nat}
end
def szPar (p : Param) (left : Int) : Int := if left - p.name.length < 0 then -1 else left - p.name.length
def szGo : List Param → Int → Int
 | [], q => q
 | p :: r, q => if szPar p q < 0 then -1 else szGo r (szPar p q)
def szPars (l : List Param) (left : Int) : Int := if left - l.length < 0 then -1 else szGo l (left - l.length)
theorem szPar_le (p : Param) {q : Int} (h : 0 ≤ szPar p q) : szPar p q ≤ q := by unfold szPar at h ⊢; split <;> omega
theorem szPar_ge (p : Param) (q : Int) : -1 ≤ szPar p q := by unfold szPar; split <;> omega
theorem szGo_le : ∀ {l : List Param} {q : Int}, 0 ≤ szGo l q → szGo l q ≤ q ∧ 0 ≤ q
 | [], q, h => ⟨Int.le_refl _, h⟩
 | p :: r, q, h => by
  unfold szGo at h ⊢
  split at h
  ·omega
  ·rename_i c
   rw [if_neg c]
   have h1 := szGo_le h
   have h2 := szPar_le p (q := q) (by omega)
   omega
theorem szPars_le {l : List Param} {q : Int} (h : 0 ≤ szPars l q) : szPars l q ≤ q ∧ (l.length : Int) ≤ q := by
 unfold szPars at h ⊢
 split at h
 ·omega
 ·rename_i c
  rw [if_neg c]
  have := szGo_le h
  omega
noncomputable def laws_szParam.f (a1 : Str) (a2 : Int) (a3 : Bool) (a4 : Int) (a5 : Int)  (z_ : Int) : Option (Int) := (ln' z_ (a1.length) fun v6 => (arr .i64 (a5 - v6) fun v7 => (if v7 < 0 then (some ((-1))) else (some v7))))
section
variable {G : Glob} (hm : Hm) (hz : Hz) (hG : GF G)
include hm hz hG
theorem laws_szParam.w {a1 : Str} {a2 : Int} {a3 : Bool} {a4 : Int} {a5 : Int}  {r : Int} (H : laws_szParam.f a1 a2 a3 a4 a5  r = some r) : FnOK pg G 108 [.agg [.str ⟨⟨a1⟩⟩, .int .i64 a2, .bool a3, .int .i64 a4], .int .i64 a5] [] (.int .i64 r) [] false := by
 obtain ⟨V, hV⟩ := exV
 refine fn_ok (tt0 := tyG [ty3, ty4, ty9, ty125]) (fn := Tryz.f108) (body := bodyOf Tryz.f108) (ext := []) hm (tyG_sub ⟨tt3, tt4, tt9, tt125, trivial⟩) hz 0 true [] (by unfold pg; exact Tryz.func108) rfl rfl (by simp [Tryz.f108]) (by simp [EObj.toObj]) (by cbv) ?_
 intro A F hA hF
 unfold laws_szParam.f at H
 cbv
 repeat' (first
  | (cases H; exact fin_plain hF rfl rfl rfl rfl)
  | ((with_reducible first | refine s_lt H ?_ ?_ | refine s_le H ?_ ?_ | refine s_eq H ?_ ?_ | refine s_ne H ?_ ?_) <;> intro H <;> cbv)
  | with_reducible first
   | (refine s_ln H lnOf (fun _ H => ?_); cbv)
   | (refine s_ar H (fun _ H => ?_); cbv)
   | (refine s_lv H (fun _ H => ?_); cbv)
   | (refine indep_of hA ?_; cbv)
  | ((with_reducible refine side ?_); exact sideOf)
  | (with_reducible refine s_tk1 ?_; cbv)
  | (with_reducible refine And.intro ?_ ?_)
  | (intro ys hys; subst hys; rfl)
  | rfl)
theorem laws_szParam.ok {a1 : Str} {a2 : Int} {a3 : Bool} {a4 : Int} {a5 : Int} (hp : 0 ≤ a5 ∧ a5 ≤ 1099511627776) : FnOK pg G 108 [.agg [.str ⟨⟨a1⟩⟩, .int .i64 a2, .bool a3, .int .i64 a4], .int .i64 a5] [] (.int .i64 ((szPar ⟨a1, a2, a3, a4⟩ a5))) [] false := by
 refine laws_szParam.w hm hz hG ?_
 simp only [laws_szParam.f, szPar]
 refine ln_ok fun hB => ?_
 rw [arr_ok (by omega)]
 exact ite_ok (fun c => by rw [if_pos c]) (fun c => by rw [if_neg c])
end
theorem szGo_drop {l : List Param} {i : Int} {p : Param} (h0 : 0 ≤ i) (hp : l[i.toNat]? = some p) (q : Int) : szGo (l.drop i.toNat) q = if szPar p q < 0 then -1 else szGo (l.drop (i + 1).toNat) (szPar p q) := by
 obtain ⟨hlt, e⟩ := List.getElem?_eq_some_iff.1 hp
 rw [List.drop_eq_getElem_cons hlt, e, show (i + 1).toNat = i.toNat + 1 by omega]; rfl
noncomputable def laws_szParamS.b0 (a1 : List Param) (a2 : Int)  (h0 : (Int × Int) → Option (Int)) (z_ : Int) (x12 : Int) (x13 : Int) : Option (Int) := (ln' z_ (a1.length) fun v21 => (if x13 < v21 then (ixParam a1 x13 fun v22 v23 v24 v25 => (gd (0 ≤ x12 ∧ x12 ≤ 1099511627776) (lv (szPar (⟨v22, v23, v24, v25⟩) x12) fun v26 => (if v26 < 0 then (some ((-1))) else (arr .i64 (x13 + 1) fun v27 => (h0 (v26, v27))))))) else (some x12)))
noncomputable def laws_szParamS.f (a1 : List Param) (a2 : Int) (h0 : (Int × Int) → Option (Int)) (z_ : Int) : Option (Int) := (ln' z_ (a1.length) fun v3 => (arr .i64 (a2 - v3) fun v4 => (if v4 < 0 then (some ((-1))) else (h0 (v4, 0)))))
theorem pin_laws_szParamS {e : ESt} {ns : List (Nat × Nat)} {ps : List (Nat × C)} {os : List (Nat × EObj)} (hs : pinPZ (pinZ e.o (os.map Prod.fst) ns) e.s ps := by first | (cbv <;> (repeat' (first | trivial | refine And.intro ?_ ?_)) <;> (first | rfl | assumption | omega | exact clParam hV _ | with_unfolding_all exact hV.nParam [] | with_unfolding_all exact (hV.nParam []).symm | with_unfolding_all exact hV.rParam _ | with_unfolding_all exact (hV.nParam _).trans (Eq.trans (by simp only [hV.nParam] at *; omega) (hV.nParam _).symm) | simp [closedCell])) | fail) (ho : ∀ B : (Nat → EObj) → List (List C) → List (List C) → Prop, (∀ o rows rows', rowsZ (pinZ o (os.map Prod.fst) ns) rows rows' → B o rows rows') → pinOZ (pinZ e.o (os.map Prod.fst) ns) B e.o ns os := by intro B hB; first | (cbv <;> (repeat' (first | trivial | refine And.intro ?_ ?_ | refine pin_same hB ?_ | refine pin_nil hB ?_ | refine pin_dirty hB (by assumption) (by assumption) ?_ ?_ | exact pinL_n | refine pinL_c ?_ ?_ | exact pzr rfl rfl rfl (nrParam hV _) (clParam hV _) | (refine pz_go ?_; cbv) | (refine pinL_go ?_; cbv))) <;> (first | exact clParam hV _ | with_unfolding_all exact hV.rParam _ | with_unfolding_all exact hV.nParam [] | with_unfolding_all exact (hV.nParam []).symm | assumption | omega | rfl | with_unfolding_all exact (hV.nParam _).trans (Eq.trans (by simp only [hV.nParam] at *; omega) (hV.nParam _).symm) | simp [closedCell])) | fail) : PinnedZ e ns ps os := ⟨hs, ho⟩
section
variable {G : Glob} (hm : Hm) (hz : Hz) (hG : GF G)
include hm hz hG
set_option maxHeartbeats 8000000 in
theorem laws_szParamS.w {a1 : List Param} {a2 : Int} (inv0 : (Int × Int) → Prop) (mu0 : (Int × Int) → Nat) (res0 : (Int × Int) → Int) (hb0 : ∀ (s_ : Int × Int), inv0  s_ → laws_szParamS.b0 a1 a2  (LI (inv0 ) (mu0 ) (res0 ) (mu0  s_)) (res0  s_) s_.1 s_.2 = some (res0  s_)) {r : Int} (H : laws_szParamS.f a1 a2 (EI (inv0 ) (mu0 ) (res0 )) r = some r) : FnOK pg G 54 [.sl (a1.map eParam), .int .i64 a2] [] (.int .i64 r) [] false := by
 obtain ⟨V, hV⟩ := exV
 simp only [← hV.rParam]
 refine fn_ok (tt0 := tyG [ty3, ty4, ty9, ty22, ty125]) (fn := Tryz.f54) (body := bodyOf Tryz.f54) (ext := []) hm (tyG_sub ⟨tt3, tt4, tt9, tt22, tt125, trivial⟩) hz 0 true [] (by unfold pg; exact Tryz.func54) rfl rfl (by simp [Tryz.f54]) (by simp [EObj.toObj]) (by cbv) ?_
 intro A F hA hF
 unfold laws_szParamS.f at H
 cbv
 repeat' (first
  | (with_reducible refine s_gd H (fun hg H => ?_))
  | (cases H; exact fin_plain hF rfl rfl rfl rfl)
  | ((with_reducible first | refine s_lt H ?_ ?_ | refine s_le H ?_ ?_ | refine s_eq H ?_ ?_ | refine s_ne H ?_ ?_) <;> intro H <;> cbv)
  | with_reducible first
   | (refine s_ln H lnOf (fun _ H => ?_); cbv)
   | (refine s_ixParam hV H (fun _ _ _ _ H => ?_); cbv)
   | (refine s_ar H (fun _ H => ?_); cbv)
   | (refine s_lv H (fun _ H => ?_); cbv)
   | (refine s_loop hA H (fun s h => hb0  s h) [0] [] (fun e s => [(1, .int .i64 (s.1)), (5, .int .i64 (s.2))]) (fun e s => []) [] pin_laws_szParamS nbOf ?_; rintro ⟨x12, x13⟩ H; unfold laws_szParamS.b0 at H; (try dsimp only at H); cbv)
  | (with_reducible refine s_next H pin_laws_szParamS nbOf)
  | with_reducible first
   | (refine s_ci hA H (by (try simp only [hV.rParam]); (first | (have hk_ := laws_szParam.ok hm hz hG hg; with_unfolding_all exact hk_) | (with_unfolding_all exact laws_szParam.ok hm hz hG (by first | assumption | omega)))) rfl (fun _ H => ?_); cbv)
   | (refine indep_of hA ?_; cbv)
  | ((with_reducible refine side ?_); exact sideOf)
  | with_reducible first
   | (refine s_tkG hV.rParam hV.nParam ?_; cbv)
   | (refine s_tk1 ?_; cbv)
  | (with_reducible refine And.intro ?_ ?_)
  | (intro ys hys; subst hys; rfl)
  | rfl)
theorem laws_szParamS.ok {a1 : List Param} {a2 : Int} (hp : 0 ≤ a2 ∧ a2 ≤ 1099511627776) : FnOK pg G 54 [.sl (a1.map eParam), .int .i64 a2] [] (.int .i64 ((szPars a1 a2))) [] false := by
 refine @laws_szParamS.w G hm hz hG a1 a2 (fun s => 0 ≤ s.1 ∧ s.1 ≤ 1099511627776 ∧ 0 ≤ s.2 ∧ s.2 ≤ a1.length ∧ szGo (a1.drop s.2.toNat) s.1 = szPars a1 a2) (fun s => a1.length - s.2.toNat) (fun _ => szPars a1 a2) ?_ _ ?_
 ·rintro ⟨q, i⟩ ⟨q0, q1, h0, h1, hs⟩
  simp only at q0 q1 h0 h1 hs
  simp only [laws_szParamS.b0]
  refine ln_ok fun hB => ?_
  refine ite_ok (fun h => ?_) (fun h => ?_)
  ·obtain ⟨p, hp⟩ : ∃ p, a1[i.toNat]? = some p := ⟨_, List.getElem?_eq_getElem (by omega)⟩
   rw [szGo_drop h0 hp] at hs
   rw [ixParam_ok h0 hp, gd_ok ⟨q0, q1⟩]
   simp only [lv, eta_Param]
   refine ite_ok (fun c => by rw [← hs, if_pos c]) (fun c => ?_)
   rw [if_neg c] at hs
   have := szPar_le p (q := q) (by omega)
   rw [arr_ok (by omega), LI_ok ⟨⟨by simp only; omega, by simp only; omega, by simp only; omega, by simp only; omega, hs⟩, by simp only; omega⟩]
  ·rw [List.drop_eq_nil_of_le (by omega)] at hs
   rw [← hs]; rfl
 ·simp only [laws_szParamS.f]
  refine ln_ok fun hB => ?_
  rw [arr_ok (by omega)]
  refine ite_ok (fun c => by rw [szPars, if_pos c]) (fun c => ?_)
  rw [EI_ok ⟨by simp only; omega, by simp only; omega, Int.le_refl 0, by simp only; omega, by simp only [Int.toNat_zero, List.drop_zero]; rw [szPars, if_neg c]⟩]
end
noncomputable def laws_szSignature.f (a1 : List Param) (a2 : Int)  (z_ : Int) : Option (Int) := (gd (0 ≤ a2 ∧ a2 ≤ 1099511627776) (lv (szPars a1 a2) fun v3 => (if v3 < 0 then (some ((-1))) else (some v3))))
section
variable {G : Glob} (hm : Hm) (hz : Hz) (hG : GF G)
include hm hz hG
theorem laws_szSignature.w {a1 : List Param} {a2 : Int}  {r : Int} (H : laws_szSignature.f a1 a2  r = some r) : FnOK pg G 15 [.agg [.sl (a1.map eParam)], .int .i64 a2] [] (.int .i64 r) [] false := by
 obtain ⟨V, hV⟩ := exV
 simp only [← hV.rParam]
 refine fn_ok (tt0 := tyG [ty3, ty4, ty9, ty22, ty24, ty125]) (fn := Tryz.f15) (body := bodyOf Tryz.f15) (ext := []) hm (tyG_sub ⟨tt3, tt4, tt9, tt22, tt24, tt125, trivial⟩) hz 0 true [] (by unfold pg; exact Tryz.func15) rfl rfl (by simp [Tryz.f15]) (by simp [EObj.toObj]) (by cbv) ?_
 intro A F hA hF
 unfold laws_szSignature.f at H
 cbv
 repeat' (first
  | (with_reducible refine s_gd H (fun hg H => ?_))
  | (cases H; exact fin_plain hF rfl rfl rfl rfl)
  | ((with_reducible first | refine s_lt H ?_ ?_ | refine s_le H ?_ ?_ | refine s_eq H ?_ ?_ | refine s_ne H ?_ ?_) <;> intro H <;> cbv)
  | with_reducible first
   | (refine s_lv H (fun _ H => ?_); cbv)
   | (refine s_ci hA H (by (try simp only [hV.rParam]); (first | (have hk_ := laws_szParamS.ok hm hz hG hg; with_unfolding_all exact hk_) | (with_unfolding_all exact laws_szParamS.ok hm hz hG (by first | assumption | omega)))) rfl (fun _ H => ?_); cbv)
   | (refine indep_of hA ?_; cbv)
  | ((with_reducible refine side ?_); exact sideOf)
  | with_reducible first
   | (refine s_tkG hV.rParam hV.nParam ?_; cbv)
   | (refine s_tk1 ?_; cbv)
  | (with_reducible refine And.intro ?_ ?_)
  | (intro ys hys; subst hys; rfl)
  | rfl)
theorem laws_szSignature.ok {a1 : List Param} {a2 : Int} (hp : 0 ≤ a2 ∧ a2 ≤ 1099511627776) : FnOK pg G 15 [.agg [.sl (a1.map eParam)], .int .i64 a2] [] (.int .i64 (((fun (s : Sig) (q : Int) => szPars s.params q) ⟨a1⟩ a2))) [] false := by
 refine laws_szSignature.w hm hz hG ?_
 simp only [laws_szSignature.f]
 rw [gd_ok hp]
 simp only [lv]
 refine ite_ok (fun c => ?_) (fun c => rfl)
 have : -1 ≤ szPars a1 a2 := by
  unfold szPars; split
  ·omega
  ·have key : ∀ (l : List Param) (q : Int), -1 ≤ q → -1 ≤ szGo l q := by
    intro l
    induction l with
    | nil => intro q h; exact h
    | cons p r ih =>
     intro q h
     unfold szGo
     split
     ·omega
     ·exact ih _ (szPar_ge p q)
   exact key _ _ (by omega)
 rw [show szPars a1 a2 = -1 by omega]
end
noncomputable def laws_toParam.f (a1 : Str) (a2 : Int) (a3 : Bool) (a4 : Int)  (z_ : Param) : Option (Param) := (some ⟨a1, a2, a3, a4⟩)
section
variable {G : Glob} (hm : Hm) (hz : Hz) (hG : GF G)
include hm hz hG
theorem laws_toParam.w {a1 : Str} {a2 : Int} {a3 : Bool} {a4 : Int}  {r : Param} (H : laws_toParam.f a1 a2 a3 a4  r = some r) : FnOK pg G 110 [.agg [.str ⟨⟨a1⟩⟩, .int .i64 a2, .bool a3, .int .i64 a4]] [] (.agg [.str ⟨⟨(r.name)⟩⟩, .int .i64 (r.kind), .bool (r.hasDefault), .int .i64 (r.dflt)]) [] false := by
 obtain ⟨V, hV⟩ := exV
 refine fn_ok (tt0 := tyG [ty3, ty4, ty9, ty65, ty125]) (fn := Tryz.f110) (body := bodyOf Tryz.f110) (ext := []) hm (tyG_sub ⟨tt3, tt4, tt9, tt65, tt125, trivial⟩) hz 0 true [] (by unfold pg; exact Tryz.func110) rfl rfl (by simp [Tryz.f110]) (by simp [EObj.toObj]) (by cbv) ?_
 intro A F hA hF
 unfold laws_toParam.f at H
 cbv
 repeat' (first
  | (cases H; exact fin_plain hF rfl rfl rfl rfl)
  | with_reducible first
   | (refine s_lv H (fun _ H => ?_); cbv)
   | (refine indep_of hA ?_; cbv)
  | ((with_reducible refine side ?_); exact sideOf)
  | (with_reducible refine s_tk1 ?_; cbv)
  | (with_reducible refine And.intro ?_ ?_)
  | (intro ys hys; subst hys; rfl)
  | rfl)
theorem laws_toParam.ok {a1 : Str} {a2 : Int} {a3 : Bool} {a4 : Int}  : FnOK pg G 110 [.agg [.str ⟨⟨a1⟩⟩, .int .i64 a2, .bool a3, .int .i64 a4]] [] (.agg [.str ⟨⟨(((fun (p : Param) => p) ⟨a1, a2, a3, a4⟩).name)⟩⟩, .int .i64 (((fun (p : Param) => p) ⟨a1, a2, a3, a4⟩).kind), .bool (((fun (p : Param) => p) ⟨a1, a2, a3, a4⟩).hasDefault), .int .i64 (((fun (p : Param) => p) ⟨a1, a2, a3, a4⟩).dflt)]) [] false := by
 refine laws_toParam.w hm hz hG ?_
 rfl
end
def on_Param {R : Type} (v : Param) (f : Str → Int → Bool → Int → Option R) : Option R := f (v.name) (v.kind) (v.hasDefault) (v.dflt)
section
variable {A : Bx} {P : Program} {G : Glob} {rg : Option Nat} {own : Nat} {o : Nat → EObj} {g : FuncId} {vs : List C} {sh : Bool} {K : C → List (Nat × EObj) → Prop} {R : Type} {r : R} {V : Vx} {v : Param} {f : Str → Int → Bool → Int → Option R}
theorem s_cParam (hV : IsV V) (hA : IsBx true rg P G A) (H : on_Param v f = some r) (hok : FnOK P G g vs [] (.agg [.str ⟨⟨(v.name)⟩⟩, .int .i64 (v.kind), .bool (v.hasDefault), .int .i64 (v.dflt)]) [] sh) (hc : vs.all closedArg = true) (h : ∀ c0 c1 c2 c3, f c0 c1 c2 c3 = some r → K (.agg [.str ⟨⟨c0⟩⟩, .int .i64 c1, .bool c2, .int .i64 c3]) []) : A.call own o g vs K := by
 refine callT_plain hA hok hc ?_
 have := h (v.name) (v.kind) (v.hasDefault) (v.dflt) H
 exact this
variable {U : List C → List EObj → (C → List (Nat × EObj) → Prop) → Prop} {bs : List C} {ext : List EObj}
end
noncomputable def laws_toParamS.b0 (a1 : List Param)  (h0 : (Int × (List Param)) → Option ((List Param))) (z_ : (List Param)) (x127 : Int) (x128 : List Param) : Option ((List Param)) := (ln' z_ (a1.length) fun v159 => (if x127 < v159 then (ixParam a1 x127 fun v174 v175 v176 v177 => (on_Param ((fun (p : Param) => p) (⟨v174, v175, v176, v177⟩)) fun v178 v179 v180 v181 => (ia x128.length x127 fun j182 => (rnParam x128 j182 fun v183 v184 v185 v186 => (lv (x128.set j182 ⟨v178, v179, v180, v181⟩) fun v187 => (arr .i64 (x127 + 1) fun v188 => (h0 (v188, v187)))))))) else (some x128)))
noncomputable def laws_toParamS.f (a1 : List Param) (h0 : (Int × (List Param)) → Option ((List Param))) (z_ : (List Param)) : Option ((List Param)) := (ln' z_ (a1.length) fun v2 => (gd (0 ≤ v2 ∧ v2.toNat * 40 ≤ 140737488355328) (lv (List.replicate v2.toNat ⟨([] : Str), 0, false, 0⟩) fun v3 => (h0 (0, v3)))))
section
variable {G : Glob} (hm : Hm) (hz : Hz) (hG : GF G)
include hm hz hG
set_option maxHeartbeats 8000000 in
theorem laws_toParamS.w {a1 : List Param} (inv0 : (Int × (List Param)) → Prop) (mu0 : (Int × (List Param)) → Nat) (res0 : (Int × (List Param)) → (List Param)) (hb0 : ∀ (s_ : Int × (List Param)), inv0  s_ → laws_toParamS.b0 a1  (LI (inv0 ) (mu0 ) (res0 ) (mu0  s_)) (res0  s_) s_.1 s_.2 = some (res0  s_)) {r : (List Param)} (H : laws_toParamS.f a1 (EI (inv0 ) (mu0 ) (res0 )) r = some r) : FnOK pg G 57 [.sl (a1.map eParam)] [] (.sl (r.map eParam)) [] true := by
 obtain ⟨V, hV⟩ := exV
 have e0_Param : V.rParam [] = [] := hV.rParam []
 have e1_Param : ∀ x r, V.rParam (x :: r) = eParam x :: V.rParam r := fun x r => by rw [hV.rParam, hV.rParam]; rfl
 simp only [← hV.rParam]
 refine fn_okS (tt0 := tyG [ty3, ty4, ty9, ty22, ty27, ty65, ty125]) (fn := Tryz.f57) (body := bodyOf Tryz.f57) (ext := []) hm (tyG_sub ⟨tt3, tt4, tt9, tt22, tt27, tt65, tt125, trivial⟩) hz 0 [] (by unfold pg; exact Tryz.func57) rfl rfl (by simp [Tryz.f57]) (by simp [EObj.toObj]) (by cbv) ?_
 intro A F hA hF
 unfold laws_toParamS.f at H
 cbv
 repeat' (first
  | (with_reducible refine s_gd H (fun hg H => ?_))
  | (cases H; (try simp only [e0_Param, e1_Param, eParam] at hF); with_reducible refine fin_close hF rfl (by simp [expIds, posCells, C.cells, idOf]) ?_; cbv)
  | ((with_reducible first | refine s_lt H ?_ ?_ | refine s_le H ?_ ?_ | refine s_eq H ?_ ?_ | refine s_ne H ?_ ?_) <;> intro H <;> cbv)
  | with_reducible first
   | (refine s_ln H lnOf (fun _ H => ?_); cbv)
   | (refine s_ixParam hV H (fun _ _ _ _ H => ?_); cbv)
   | (refine s_rnParam hV H (fun _ _ _ _ H => ?_); cbv)
   | (refine s_ia H lnOf (fun _ H => ?_); cbv)
   | (refine s_ar H (fun _ H => ?_); cbv)
   | (refine s_setParam hV H (fun _ hs_ H => ?_); cbv)
   | (refine s_mkL hV.rParam hV.nParam (by cbv) H (fun _ H => ?_); cbv)
   | (refine s_lv H (fun _ H => ?_); cbv)
   | (refine s_loop hA H (fun s h => hb0  s h) [0] [] (fun e s => [(3, .ref 448 0 4 0 (V.nParam (s.2))), (4, .int .i64 (s.1))]) (fun e s => [(448, ⟨0, true, 4, .many (V.rParam (s.2))⟩)]) [] pin_laws_szParamS nbOf ?_; rintro ⟨x127, x128⟩ H; unfold laws_toParamS.b0 at H; (try dsimp only at H); cbv)
  | (with_reducible refine s_next H pin_laws_szParamS nbOf)
  | with_reducible first
   | (refine s_cParam hV hA H (by (try simp only [hV.rParam]); with_unfolding_all exact laws_toParam.ok hm hz hG) rfl (fun _ _ _ _ H => ?_); cbv)
   | (refine indep_of hA ?_; cbv)
  | ((with_reducible refine side ?_); exact sideOf)
  | with_reducible first
   | (refine s_tkG hV.rParam hV.nParam ?_; cbv)
   | (refine s_tk1 ?_; cbv)
  | (with_reducible refine And.intro ?_ ?_)
  | (intro ys hys; subst hys; rfl)
  | rfl)
theorem laws_toParamS.ok {a1 : List Param} (hp : a1.length ≤ 1048576) : FnOK pg G 57 [.sl (a1.map eParam)] [] (.sl ((((fun (l : List Param) => l) a1)).map eParam)) [] true := by
 refine @laws_toParamS.w G hm hz hG a1 (fun s => 0 ≤ s.1 ∧ s.1 ≤ a1.length ∧ s.2.length = a1.length ∧ s.2.take s.1.toNat = a1.take s.1.toNat) (fun s => a1.length - s.1.toNat) (fun _ => a1) ?_ _ ?_
 ·rintro ⟨i, out⟩ ⟨h0, h1, hl, ho⟩
  simp only at h0 h1 hl ho
  simp only [laws_toParamS.b0]
  refine ln_ok fun hB => ?_
  refine ite_ok (fun h => ?_) (fun h => ?_)
  ·obtain ⟨p, hp⟩ : ∃ p, a1[i.toNat]? = some p := ⟨_, List.getElem?_eq_getElem (by omega)⟩
   obtain ⟨q, hq⟩ : ∃ q, out[i.toNat]? = some q := ⟨_, List.getElem?_eq_getElem (by omega)⟩
   rw [ixParam_ok h0 hp]
   simp only [on_Param]
   rw [ia_ok (by omega), rnParam_ok hq]
   simp only [lv, eta_Param]
   have g1 : (out.set i.toNat p).take (i + 1).toNat = a1.take (i + 1).toNat := by
    rw [show (i + 1).toNat = i.toNat + 1 by omega, take_snoc hp, take_snoc (x := p) (by rw [List.getElem?_set_self (by omega)]), ← ho, List.take_set_of_le (Nat.le_refl _)]
   rw [arr_ok (by omega), LI_ok ⟨⟨by simp only; omega, by simp only; omega, by simp only; rw [List.length_set]; exact hl, g1⟩, by simp only; omega⟩]
  ·rw [List.take_of_length_le (by omega), List.take_of_length_le (by omega)] at ho
   rw [ho]
 ·simp only [laws_toParamS.f]
  refine ln_ok fun hB => ?_
  rw [gd_ok ⟨by omega, by omega⟩]
  simp only [lv]
  rw [EI_ok ⟨Int.le_refl 0, by simp only; omega, by simp, rfl⟩]
end
noncomputable def laws_toSignature.f (a1 : List Param)  (z_ : Sig) : Option (Sig) := (gd (a1.length ≤ 1048576) (on_LParam ((fun (l : List Param) => l) a1) fun v3 => (some ⟨v3⟩)))
section
variable {G : Glob} (hm : Hm) (hz : Hz) (hG : GF G)
include hm hz hG
theorem laws_toSignature.w {a1 : List Param}  {r : Sig} (H : laws_toSignature.f a1  r = some r) : FnOK pg G 17 [.agg [.sl (a1.map eParam)]] [] (.agg [.sl ((r.params).map eParam)]) [] true := by
 obtain ⟨V, hV⟩ := exV
 have e0_Param : V.rParam [] = [] := hV.rParam []
 have e1_Param : ∀ x r, V.rParam (x :: r) = eParam x :: V.rParam r := fun x r => by rw [hV.rParam, hV.rParam]; rfl
 simp only [← hV.rParam]
 refine fn_okS (tt0 := tyG [ty3, ty4, ty9, ty22, ty24, ty27, ty29, ty65, ty125]) (fn := Tryz.f17) (body := bodyOf Tryz.f17) (ext := []) hm (tyG_sub ⟨tt3, tt4, tt9, tt22, tt24, tt27, tt29, tt65, tt125, trivial⟩) hz 0 [] (by unfold pg; exact Tryz.func17) rfl rfl (by simp [Tryz.f17]) (by simp [EObj.toObj]) (by cbv) ?_
 intro A F hA hF
 unfold laws_toSignature.f at H
 cbv
 repeat' (first
  | (with_reducible refine s_gd H (fun hg H => ?_))
  | (cases H; (try simp only [e0_Param, e1_Param, eParam] at hF); with_reducible refine fin_close hF rfl (by simp [expIds, posCells, C.cells, idOf]) ?_; cbv)
  | with_reducible first
   | (refine s_lv H (fun _ H => ?_); cbv)
   | (refine s_cLParam hV hA H (by (try simp only [hV.rParam]); (first | (have hk_ := laws_toParamS.ok hm hz hG hg; with_unfolding_all exact hk_) | (with_unfolding_all exact laws_toParamS.ok hm hz hG (by first | assumption | omega)))) rfl (fun _ H => ?_); cbv)
   | (refine indep_of hA ?_; cbv)
  | ((with_reducible refine side ?_); exact sideOf)
  | with_reducible first
   | (refine s_tkG hV.rParam hV.nParam ?_; cbv)
   | (refine s_tk1 ?_; cbv)
  | (with_reducible refine And.intro ?_ ?_)
  | (intro ys hys; subst hys; rfl)
  | rfl)
theorem laws_toSignature.ok {a1 : List Param} (hp : a1.length ≤ 1048576) : FnOK pg G 17 [.agg [.sl (a1.map eParam)]] [] (.agg [.sl ((((fun (s : Sig) => s) ⟨a1⟩).params).map eParam)]) [] true := by
 refine laws_toSignature.w hm hz hG ?_
 simp only [laws_toSignature.f]
 rw [gd_ok hp]
 rfl
end
noncomputable def laws_eqParam.f (a1 : Str) (a2 : Int) (a3 : Bool) (a4 : Int) (a5 : Str) (a6 : Int) (a7 : Bool) (a8 : Int)  (z_ : Bool) : Option (Bool) := (if a1 = a5 then (if a2 = a6 then (cn a3 (cn a7 (if a4 = a8 then (some true) else (some false)) (some false)) (cn a7 (some false) (if a4 = a8 then (some true) else (some false)))) else (some false)) else (some false))
section
variable {G : Glob} (hm : Hm) (hz : Hz) (hG : GF G)
include hm hz hG
theorem laws_eqParam.w {a1 : Str} {a2 : Int} {a3 : Bool} {a4 : Int} {a5 : Str} {a6 : Int} {a7 : Bool} {a8 : Int}  {r : Bool} (H : laws_eqParam.f a1 a2 a3 a4 a5 a6 a7 a8  r = some r) : FnOK pg G 114 [.agg [.str ⟨⟨a1⟩⟩, .int .i64 a2, .bool a3, .int .i64 a4], .agg [.str ⟨⟨a5⟩⟩, .int .i64 a6, .bool a7, .int .i64 a8]] [] (.bool r) [] false := by
 obtain ⟨V, hV⟩ := exV
 refine fn_ok (tt0 := tyG [ty3, ty4, ty9, ty65]) (fn := Tryz.f114) (body := bodyOf Tryz.f114) (ext := []) hm (tyG_sub ⟨tt3, tt4, tt9, tt65, trivial⟩) hz 0 true [] (by unfold pg; exact Tryz.func114) rfl rfl (by simp [Tryz.f114]) (by simp [EObj.toObj]) (by cbv) ?_
 intro A F hA hF
 unfold laws_eqParam.f at H
 cbv
 repeat' (first
  | (cases H; exact fin_plain hF rfl rfl rfl rfl)
  | ((with_reducible first | refine s_lt H ?_ ?_ | refine s_le H ?_ ?_ | refine s_eq H ?_ ?_ | refine s_ne H ?_ ?_) <;> intro H <;> cbv)
  | with_reducible first
   | (refine s_lv H (fun _ H => ?_); cbv)
   | (refine indep_of hA ?_; cbv)
  | ((with_reducible refine side ?_); exact sideOf)
  | (with_reducible refine s_tk1 ?_; cbv)
  | (with_reducible refine And.intro ?_ ?_)
  | ((with_reducible refine s_cn H (fun hb H => ?_) (fun hb H => ?_)) <;> (revert H; subst hb; intro H; cbv))
  | (intro ys hys; subst hys; rfl)
  | rfl)
theorem laws_eqParam.ok {a1 : Str} {a2 : Int} {a3 : Bool} {a4 : Int} {a5 : Str} {a6 : Int} {a7 : Bool} {a8 : Int}  : FnOK pg G 114 [.agg [.str ⟨⟨a1⟩⟩, .int .i64 a2, .bool a3, .int .i64 a4], .agg [.str ⟨⟨a5⟩⟩, .int .i64 a6, .bool a7, .int .i64 a8]] [] (.bool (((fun (p q : Param) => decide (p = q)) ⟨a1, a2, a3, a4⟩ ⟨a5, a6, a7, a8⟩))) [] false := by
 refine laws_eqParam.w hm hz hG ?_
 simp only [laws_eqParam.f, cn_ite, Param.mk.injEq]
 cases a3 <;> cases a7 <;> simp only [Bool.false_eq_true, if_false, if_true, reduceIte] <;> (repeat' split) <;> simp_all
end
noncomputable def laws_eqParamS.b0 (a1 : List Param) (a2 : List Param)  (h0 : (Int) → Option (Bool)) (z_ : Bool) (x15 : Int) : Option (Bool) := (ln' z_ (a1.length) fun v26 => (if x15 < v26 then (ixParam a1 x15 fun v27 v28 v29 v30 => (ixParam a2 x15 fun v31 v32 v33 v34 => (cn ((fun (p q : Param) => decide (p = q)) (⟨v27, v28, v29, v30⟩) (⟨v31, v32, v33, v34⟩)) (arr .i64 (x15 + 1) fun v35 => (h0 v35)) (some false)))) else (some true)))
noncomputable def laws_eqParamS.f (a1 : List Param) (a2 : List Param) (h0 : (Int) → Option (Bool)) (z_ : Bool) : Option (Bool) := (ln' z_ (a1.length) fun v3 => (ln' z_ (a2.length) fun v4 => (if v3 = v4 then (h0 0) else (some false))))
section
variable {G : Glob} (hm : Hm) (hz : Hz) (hG : GF G)
include hm hz hG
set_option maxHeartbeats 8000000 in
theorem laws_eqParamS.w {a1 : List Param} {a2 : List Param} (inv0 : (Int) → Prop) (mu0 : (Int) → Nat) (res0 : (Int) → Bool) (hb0 : ∀ (s_ : Int), inv0  s_ → laws_eqParamS.b0 a1 a2  (LI (inv0 ) (mu0 ) (res0 ) (mu0  s_)) (res0  s_) s_ = some (res0  s_)) {r : Bool} (H : laws_eqParamS.f a1 a2 (EI (inv0 ) (mu0 ) (res0 )) r = some r) : FnOK pg G 59 [.sl (a1.map eParam), .sl (a2.map eParam)] [] (.bool r) [] false := by
 obtain ⟨V, hV⟩ := exV
 simp only [← hV.rParam]
 refine fn_ok (tt0 := tyG [ty3, ty4, ty9, ty27, ty65]) (fn := Tryz.f59) (body := bodyOf Tryz.f59) (ext := []) hm (tyG_sub ⟨tt3, tt4, tt9, tt27, tt65, trivial⟩) hz 0 true [] (by unfold pg; exact Tryz.func59) rfl rfl (by simp [Tryz.f59]) (by simp [EObj.toObj]) (by cbv) ?_
 intro A F hA hF
 unfold laws_eqParamS.f at H
 cbv
 repeat' (first
  | (cases H; exact fin_plain hF rfl rfl rfl rfl)
  | ((with_reducible first | refine s_lt H ?_ ?_ | refine s_le H ?_ ?_ | refine s_eq H ?_ ?_ | refine s_ne H ?_ ?_) <;> intro H <;> cbv)
  | with_reducible first
   | (refine s_ln H lnOf (fun _ H => ?_); cbv)
   | (refine s_ixParam hV H (fun _ _ _ _ H => ?_); cbv)
   | (refine s_ar H (fun _ H => ?_); cbv)
   | (refine s_lv H (fun _ H => ?_); cbv)
   | (refine s_loop hA H (fun s h => hb0  s h) [0, 1] [] (fun e s => [(5, .int .i64 s)]) (fun e s => []) [] pin_laws_szParamS nbOf ?_; rintro x15 H; unfold laws_eqParamS.b0 at H; (try dsimp only at H); cbv)
  | (with_reducible refine s_next H pin_laws_szParamS nbOf)
  | with_reducible first
   | (refine s_cb hA H (by (try simp only [hV.rParam]); with_unfolding_all exact laws_eqParam.ok hm hz hG) rfl (fun H => ?_) (fun H => ?_) <;> cbv)
   | (refine indep_of hA ?_; cbv)
  | ((with_reducible refine side ?_); exact sideOf)
  | with_reducible first
   | (refine s_tkG hV.rParam hV.nParam ?_; cbv)
   | (refine s_tk1 ?_; cbv)
  | (with_reducible refine And.intro ?_ ?_)
  | ((with_reducible refine s_cn H (fun hb H => ?_) (fun hb H => ?_)) <;> (revert H; subst hb; intro H; cbv))
  | (intro ys hys; subst hys; rfl)
  | rfl)
theorem laws_eqParamS.ok {a1 : List Param} {a2 : List Param}  : FnOK pg G 59 [.sl (a1.map eParam), .sl (a2.map eParam)] [] (.bool (((fun (l k : List Param) => decide (l = k)) a1 a2))) [] false := by
 refine @laws_eqParamS.w G hm hz hG a1 a2 (fun i => 0 ≤ i ∧ i ≤ a1.length ∧ a1.length = a2.length ∧ decide (a1.drop i.toNat = a2.drop i.toNat) = decide (a1 = a2)) (fun i => a1.length - i.toNat) (fun _ => decide (a1 = a2)) ?_ _ ?_
 ·rintro i ⟨h0, h1, hl, he⟩
  simp only [laws_eqParamS.b0, cn_ite]
  refine ln_ok fun hB => ?_
  refine ite_ok (fun h => ?_) (fun h => ?_)
  ·obtain ⟨p, hp⟩ : ∃ p, a1[i.toNat]? = some p := ⟨_, List.getElem?_eq_getElem (by omega)⟩
   obtain ⟨q, hq⟩ : ∃ q, a2[i.toNat]? = some q := ⟨_, List.getElem?_eq_getElem (by omega)⟩
   have d1 : a1.drop i.toNat = p :: a1.drop (i + 1).toNat := by
    obtain ⟨hlt, e⟩ := List.getElem?_eq_some_iff.1 hp
    rw [List.drop_eq_getElem_cons hlt, e, show (i + 1).toNat = i.toNat + 1 by omega]
   have d2 : a2.drop i.toNat = q :: a2.drop (i + 1).toNat := by
    obtain ⟨hlt, e⟩ := List.getElem?_eq_some_iff.1 hq
    rw [List.drop_eq_getElem_cons hlt, e, show (i + 1).toNat = i.toNat + 1 by omega]
   rw [d1, d2] at he
   rw [ixParam_ok h0 hp, ixParam_ok h0 hq]
   simp only [eta_Param]
   refine ite_ok (fun c => ?_) (fun c => ?_)
   ·have c := of_decide_eq_true c
    rw [arr_ok (by omega), LI_ok ⟨⟨by omega, by omega, hl, by rw [← he]; simp [c]⟩, by omega⟩]
   ·rw [← he]
    have : p ≠ q := fun e => c (decide_eq_true e)
    simp [this]
  ·rw [List.drop_eq_nil_of_le (by omega), List.drop_eq_nil_of_le (by omega)] at he
   rw [← he]; rfl
 ·simp only [laws_eqParamS.f]
  refine ln_ok fun hB => ln_ok fun hB2 => ?_
  refine ite_ok (fun c => ?_) (fun c => ?_)
  ·rw [EI_ok ⟨Int.le_refl 0, by omega, by omega, rfl⟩]
  ·rw [decide_eq_false (fun e => c (by rw [e]))]
end
noncomputable def laws_eqSignature.f (a1 : List Param) (a2 : List Param)  (z_ : Bool) : Option (Bool) := (cn ((fun (l k : List Param) => decide (l = k)) a1 a2) (some true) (some false))
section
variable {G : Glob} (hm : Hm) (hz : Hz) (hG : GF G)
include hm hz hG
theorem laws_eqSignature.w {a1 : List Param} {a2 : List Param}  {r : Bool} (H : laws_eqSignature.f a1 a2  r = some r) : FnOK pg G 19 [.agg [.sl (a1.map eParam)], .agg [.sl (a2.map eParam)]] [] (.bool r) [] false := by
 obtain ⟨V, hV⟩ := exV
 simp only [← hV.rParam]
 refine fn_ok (tt0 := tyG [ty3, ty4, ty9, ty27, ty29, ty65]) (fn := Tryz.f19) (body := bodyOf Tryz.f19) (ext := []) hm (tyG_sub ⟨tt3, tt4, tt9, tt27, tt29, tt65, trivial⟩) hz 0 true [] (by unfold pg; exact Tryz.func19) rfl rfl (by simp [Tryz.f19]) (by simp [EObj.toObj]) (by cbv) ?_
 intro A F hA hF
 unfold laws_eqSignature.f at H
 cbv
 repeat' (first
  | (cases H; exact fin_plain hF rfl rfl rfl rfl)
  | with_reducible first
   | (refine s_lv H (fun _ H => ?_); cbv)
   | (refine s_cb hA H (by (try simp only [hV.rParam]); with_unfolding_all exact laws_eqParamS.ok hm hz hG) rfl (fun H => ?_) (fun H => ?_) <;> cbv)
   | (refine indep_of hA ?_; cbv)
  | ((with_reducible refine side ?_); exact sideOf)
  | with_reducible first
   | (refine s_tkG hV.rParam hV.nParam ?_; cbv)
   | (refine s_tk1 ?_; cbv)
  | (with_reducible refine And.intro ?_ ?_)
  | ((with_reducible refine s_cn H (fun hb H => ?_) (fun hb H => ?_)) <;> (revert H; subst hb; intro H; cbv))
  | (intro ys hys; subst hys; rfl)
  | rfl)
theorem laws_eqSignature.ok {a1 : List Param} {a2 : List Param}  : FnOK pg G 19 [.agg [.sl (a1.map eParam)], .agg [.sl (a2.map eParam)]] [] (.bool (((fun (s t : Sig) => decide (s = t)) ⟨a1⟩ ⟨a2⟩))) [] false := by
 refine laws_eqSignature.w hm hz hG ?_
 simp only [laws_eqSignature.f, cn_ite, Sig.mk.injEq]
 exact ite_ok (fun c => by rw [c]) (fun c => by rw [Bool.eq_false_iff.2 c])
end
end Go.Proofs.YtchpopejojghmaaGreatDoor.M
