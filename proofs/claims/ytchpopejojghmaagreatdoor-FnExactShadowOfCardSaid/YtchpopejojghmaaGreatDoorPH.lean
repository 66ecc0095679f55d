/- Copies of lists. -/
import Derived.Test.YtchpopejojghmaaGreatDoorP2
set_option linter.unusedVariables false
set_option linter.unusedSimpArgs false
set_option linter.unusedSectionVars false
namespace Go.Proofs.YtchpopejojghmaaGreatDoor.M
open Go Go.Proofs
set_option maxRecDepth 100000
noncomputable def slices_Clip_int.f (a1 : List Int)  (z_ : (List Int)) : Option ((List Int)) := (ln' z_ (a1.length) fun v2 => (ln' z_ (a1.length) fun v3 => (gd (v2.toNat = a1.length ∧ v3.toNat = a1.length ∧ 0 ≤ v2 ∧ 0 ≤ v3) (some a1))))
section
variable {G : Glob} (hm : Hm) (hz : Hz) (hG : GF G)
include hm hz hG
theorem slices_Clip_int.w {a1 : List Int}  {r : (List Int)} (H : slices_Clip_int.f a1  r = some r) : FnOK pg G 102 [.sl (a1.map eI)] [] (.sl (r.map eI)) [] true := by
 obtain ⟨V, hV⟩ := exV
 have e0_I : V.rI [] = [] := hV.rI []
 have e1_I : ∀ x r, V.rI (x :: r) = eI x :: V.rI r := fun x r => by rw [hV.rI, hV.rI]; rfl
 simp only [← hV.rI]
 refine fn_okS (tt0 := tyG [ty3, ty39]) (fn := Tryz.f102) (body := bodyOf Tryz.f102) (ext := []) hm (tyG_sub ⟨tt3, tt39, trivial⟩) hz 0 [] (by unfold pg; exact Tryz.func102) rfl rfl (by simp [Tryz.f102]) (by simp [EObj.toObj]) (by cbv) ?_
 intro A F hA hF
 unfold slices_Clip_int.f at H
 cbv
 repeat' (first
  | (with_reducible refine s_gd H (fun hg H => ?_))
  | (cases H; (try simp only [e0_I, e1_I, eI] at hF); with_reducible refine fin_close hF rfl (by simp [expIds, posCells, C.cells, idOf]) ?_; cbv)
  | with_reducible first
   | (refine s_ln H lnOf (fun _ H => ?_); cbv)
   | (refine s_lv H (fun _ H => ?_); cbv)
   | (refine indep_of hA ?_; cbv)
  | ((with_reducible refine side ?_); exact sideOf)
  | with_reducible first
   | (refine s_tkG hV.rI hV.nI ?_; cbv)
   | (refine s_tk1 ?_; cbv)
  | (with_reducible refine And.intro ?_ ?_)
  | (intro ys hys; subst hys; rfl)
  | rfl)
theorem slices_Clip_int.ok {a1 : List Int}  : FnOK pg G 102 [.sl (a1.map eI)] [] (.sl ((((fun (l : List Int) => l) a1)).map eI)) [] true := by
 refine slices_Clip_int.w hm hz hG ?_
 simp only [slices_Clip_int.f]
 refine ln_ok fun _ => ln_ok fun _ => ?_
 rw [gd_ok (by omega)]
end
noncomputable def slices_Clone_int.f (a1 : List Int)  (z_ : (List Int)) : Option ((List Int)) := (nq a1 (some []) (gd ((0 + a1.length) * 8 ≤ 140737488355328) (lv (([] : List Int) ++ a1) fun v3 => (some v3))))
section
variable {G : Glob} (hm : Hm) (hz : Hz) (hG : GF G)
include hm hz hG
theorem slices_Clone_int.w {a1 : List Int}  {r : (List Int)} (H : slices_Clone_int.f a1  r = some r) : FnOK pg G 166 [.sl (a1.map eI)] [] (.sl (r.map eI)) [] true := by
 obtain ⟨V, hV⟩ := exV
 have e0_I : V.rI [] = [] := hV.rI []
 have e1_I : ∀ x r, V.rI (x :: r) = eI x :: V.rI r := fun x r => by rw [hV.rI, hV.rI]; rfl
 simp only [← hV.rI]
 refine fn_okS (tt0 := tyG [ty3, ty4, ty39]) (fn := Tryz.f166) (body := bodyOf Tryz.f166) (ext := []) hm (tyG_sub ⟨tt3, tt4, tt39, trivial⟩) hz 0 [] (by unfold pg; exact Tryz.func166) rfl rfl (by simp [Tryz.f166]) (by simp [EObj.toObj]) (by cbv) ?_
 intro A F hA hF
 unfold slices_Clone_int.f at H
 cbv
 repeat' (first
  | (with_reducible refine s_gd H (fun hg H => ?_))
  | (cases H; (try simp only [e0_I, e1_I, eI] at hF); with_reducible refine fin_close hF rfl (by simp [expIds, posCells, C.cells, idOf]) ?_; cbv)
  | with_reducible first
   | (refine s_apI hV H (fun _ H => ?_); cbv)
   | (refine s_apL hV.rI hV.nI H (fun _ H => ?_); cbv)
   | (refine s_ap0 hV.rI hV.nI (by first | exact (hV.rI _).symm | (simp [eI]; rfl) | (simp [eI]; done)) H (fun _ H => ?_); cbv)
   | (refine s_nqG hV.rI H (fun H => ?_) (fun H => ?_) <;> cbv)
   | (refine s_lv H (fun _ H => ?_); cbv)
   | (refine indep_of hA ?_; cbv)
  | ((with_reducible refine side ?_); exact sideOf)
  | with_reducible first
   | (refine s_tkG hV.rI hV.nI ?_; cbv)
   | (refine s_tk1 ?_; cbv)
  | (with_reducible refine And.intro ?_ ?_)
  | (intro ys hys; subst hys; rfl)
  | rfl)
theorem slices_Clone_int.ok {a1 : List Int} (hp : a1.length * 8 ≤ 140737488355328) : FnOK pg G 166 [.sl (a1.map eI)] [] (.sl ((((fun (l : List Int) => l) a1)).map eI)) [] true := by
 refine slices_Clone_int.w hm hz hG ?_
 simp only [slices_Clone_int.f]
 rw [nq_ok (fun h => by subst h; rw [gd_ok (by simp)]; rfl), gd_ok (by omega)]; rfl
end
def on_LI {R : Type} (v : (List Int)) (f : (List Int) → Option R) : Option R := f v
section
variable {A : Bx} {P : Program} {G : Glob} {rg : Option Nat} {own : Nat} {o : Nat → EObj} {g : FuncId} {vs : List C} {sh : Bool} {K : C → List (Nat × EObj) → Prop} {R : Type} {r : R} {V : Vx} {v : (List Int)} {f : (List Int) → Option R}
theorem s_cLI (hV : IsV V) (hA : IsBx true rg P G A) (H : on_LI v f = some r) (hok : FnOK P G g vs [] (.sl (v.map eI)) [] sh) (hc : vs.all closedArg = true) (h : ∀ c0, f c0 = some r → K (.sl (V.rI c0)) []) : A.call own o g vs K := by
 refine callT_plain hA hok hc ?_
 have := h (v) H
 simp only [hV.rI] at this
 exact this
variable {U : List C → List Nat → (C → List (Nat × EObj) → Prop) → Prop} {bs : List C} {tops : List Nat}
end
noncomputable def impl_clone_int.f (a1 : List Int)  (z_ : (List Int)) : Option ((List Int)) := (gd (a1.length * 8 ≤ 140737488355328) (on_LI ((fun (l : List Int) => l) a1) fun v2 => (on_LI ((fun (l : List Int) => l) v2) fun v3 => (some v3))))
section
variable {G : Glob} (hm : Hm) (hz : Hz) (hG : GF G)
include hm hz hG
theorem impl_clone_int.w {a1 : List Int}  {r : (List Int)} (H : impl_clone_int.f a1  r = some r) : FnOK pg G 131 [.sl (a1.map eI)] [] (.sl (r.map eI)) [] true := by
 obtain ⟨V, hV⟩ := exV
 have e0_I : V.rI [] = [] := hV.rI []
 have e1_I : ∀ x r, V.rI (x :: r) = eI x :: V.rI r := fun x r => by rw [hV.rI, hV.rI]; rfl
 simp only [← hV.rI]
 refine fn_okS (tt0 := tyG [ty3, ty39]) (fn := Tryz.f131) (body := bodyOf Tryz.f131) (ext := []) hm (tyG_sub ⟨tt3, tt39, trivial⟩) hz 0 [] (by unfold pg; exact Tryz.func131) rfl rfl (by simp [Tryz.f131]) (by simp [EObj.toObj]) (by cbv) ?_
 intro A F hA hF
 unfold impl_clone_int.f at H
 cbv
 repeat' (first
  | (with_reducible refine s_gd H (fun hg H => ?_))
  | (cases H; (try simp only [e0_I, e1_I, eI] at hF); with_reducible refine fin_close hF rfl (by simp [expIds, posCells, C.cells, idOf]) ?_; cbv)
  | with_reducible first
   | (refine s_lv H (fun _ H => ?_); cbv)
   | (refine s_cLI hV hA H (by (try simp only [hV.rI]); (first | (have hk_ := slices_Clone_int.ok hm hz hG hg; with_unfolding_all exact hk_) | (with_unfolding_all exact slices_Clone_int.ok hm hz hG (by first | assumption | omega)))) rfl (fun _ H => ?_); cbv)
   | (refine s_cLI hV hA H (by (try simp only [hV.rI]); with_unfolding_all exact slices_Clip_int.ok hm hz hG) rfl (fun _ H => ?_); cbv)
   | (refine indep_of hA ?_; cbv)
  | ((with_reducible refine side ?_); exact sideOf)
  | with_reducible first
   | (refine s_tkG hV.rI hV.nI ?_; cbv)
   | (refine s_tk1 ?_; cbv)
  | (with_reducible refine And.intro ?_ ?_)
  | (intro ys hys; subst hys; rfl)
  | rfl)
theorem impl_clone_int.ok {a1 : List Int} (hp : a1.length * 8 ≤ 140737488355328) : FnOK pg G 131 [.sl (a1.map eI)] [] (.sl ((((fun (l : List Int) => l) a1)).map eI)) [] true := by
 refine impl_clone_int.w hm hz hG ?_
 simp only [impl_clone_int.f, on_LI]
 rw [gd_ok hp]
end
noncomputable def slices_Clip_Pair.f (a1 : List Pair)  (z_ : (List Pair)) : Option ((List Pair)) := (ln' z_ (a1.length) fun v2 => (ln' z_ (a1.length) fun v3 => (gd (v2.toNat = a1.length ∧ v3.toNat = a1.length ∧ 0 ≤ v2 ∧ 0 ≤ v3) (some a1))))
section
variable {G : Glob} (hm : Hm) (hz : Hz) (hG : GF G)
include hm hz hG
theorem slices_Clip_Pair.w {a1 : List Pair}  {r : (List Pair)} (H : slices_Clip_Pair.f a1  r = some r) : FnOK pg G 133 [.sl (a1.map ePair)] [] (.sl (r.map ePair)) [] true := by
 obtain ⟨V, hV⟩ := exV
 have e0_Pair : V.rPair [] = [] := hV.rPair []
 have e1_Pair : ∀ x r, V.rPair (x :: r) = ePair x :: V.rPair r := fun x r => by rw [hV.rPair, hV.rPair]; rfl
 simp only [← hV.rPair]
 refine fn_okS (tt0 := tyG [ty3, ty9, ty45, ty136]) (fn := Tryz.f133) (body := bodyOf Tryz.f133) (ext := []) hm (tyG_sub ⟨tt3, tt9, tt45, tt136, trivial⟩) hz 0 [] (by unfold pg; exact Tryz.func133) rfl rfl (by simp [Tryz.f133]) (by simp [EObj.toObj]) (by cbv) ?_
 intro A F hA hF
 unfold slices_Clip_Pair.f at H
 cbv
 repeat' (first
  | (with_reducible refine s_gd H (fun hg H => ?_))
  | (cases H; (try simp only [e0_Pair, e1_Pair, ePair] at hF); with_reducible refine fin_close hF rfl (by simp [expIds, posCells, C.cells, idOf]) ?_; cbv)
  | with_reducible first
   | (refine s_ln H lnOf (fun _ H => ?_); cbv)
   | (refine s_lv H (fun _ H => ?_); cbv)
   | (refine indep_of hA ?_; cbv)
  | ((with_reducible refine side ?_); exact sideOf)
  | with_reducible first
   | (refine s_tkG hV.rPair hV.nPair ?_; cbv)
   | (refine s_tk1 ?_; cbv)
  | (with_reducible refine And.intro ?_ ?_)
  | (intro ys hys; subst hys; rfl)
  | rfl)
theorem slices_Clip_Pair.ok {a1 : List Pair}  : FnOK pg G 133 [.sl (a1.map ePair)] [] (.sl ((((fun (l : List Pair) => l) a1)).map ePair)) [] true := by
 refine slices_Clip_Pair.w hm hz hG ?_
 simp only [slices_Clip_Pair.f]
 refine ln_ok fun _ => ln_ok fun _ => ?_
 rw [gd_ok (by omega)]
end
noncomputable def slices_Clone_Pair.f (a1 : List Pair)  (z_ : (List Pair)) : Option ((List Pair)) := (nq a1 (some []) (gd ((0 + a1.length) * 24 ≤ 140737488355328) (lv (([] : List Pair) ++ a1) fun v3 => (some v3))))
section
variable {G : Glob} (hm : Hm) (hz : Hz) (hG : GF G)
include hm hz hG
theorem slices_Clone_Pair.w {a1 : List Pair}  {r : (List Pair)} (H : slices_Clone_Pair.f a1  r = some r) : FnOK pg G 198 [.sl (a1.map ePair)] [] (.sl (r.map ePair)) [] true := by
 obtain ⟨V, hV⟩ := exV
 have e0_Pair : V.rPair [] = [] := hV.rPair []
 have e1_Pair : ∀ x r, V.rPair (x :: r) = ePair x :: V.rPair r := fun x r => by rw [hV.rPair, hV.rPair]; rfl
 simp only [← hV.rPair]
 refine fn_okS (tt0 := tyG [ty3, ty4, ty9, ty45, ty136]) (fn := Tryz.f198) (body := bodyOf Tryz.f198) (ext := []) hm (tyG_sub ⟨tt3, tt4, tt9, tt45, tt136, trivial⟩) hz 0 [] (by unfold pg; exact Tryz.func198) rfl rfl (by simp [Tryz.f198]) (by simp [EObj.toObj]) (by cbv) ?_
 intro A F hA hF
 unfold slices_Clone_Pair.f at H
 cbv
 repeat' (first
  | (with_reducible refine s_gd H (fun hg H => ?_))
  | (cases H; (try simp only [e0_Pair, e1_Pair, ePair] at hF); with_reducible refine fin_close hF rfl (by simp [expIds, posCells, C.cells, idOf]) ?_; cbv)
  | with_reducible first
   | (refine s_apPair hV H (fun _ H => ?_); cbv)
   | (refine s_apL hV.rPair hV.nPair H (fun _ H => ?_); cbv)
   | (refine s_ap0 hV.rPair hV.nPair (by first | exact (hV.rPair _).symm | (simp [ePair]; rfl) | (simp [ePair]; done)) H (fun _ H => ?_); cbv)
   | (refine s_nqG hV.rPair H (fun H => ?_) (fun H => ?_) <;> cbv)
   | (refine s_lv H (fun _ H => ?_); cbv)
   | (refine indep_of hA ?_; cbv)
  | ((with_reducible refine side ?_); exact sideOf)
  | with_reducible first
   | (refine s_tkG hV.rPair hV.nPair ?_; cbv)
   | (refine s_tk1 ?_; cbv)
  | (with_reducible refine And.intro ?_ ?_)
  | (intro ys hys; subst hys; rfl)
  | rfl)
theorem slices_Clone_Pair.ok {a1 : List Pair} (hp : a1.length * 24 ≤ 140737488355328) : FnOK pg G 198 [.sl (a1.map ePair)] [] (.sl ((((fun (l : List Pair) => l) a1)).map ePair)) [] true := by
 refine slices_Clone_Pair.w hm hz hG ?_
 simp only [slices_Clone_Pair.f]
 rw [nq_ok (fun h => by subst h; rw [gd_ok (by simp)]; rfl), gd_ok (by omega)]; rfl
end
def on_LPair {R : Type} (v : (List Pair)) (f : (List Pair) → Option R) : Option R := f v
section
variable {A : Bx} {P : Program} {G : Glob} {rg : Option Nat} {own : Nat} {o : Nat → EObj} {g : FuncId} {vs : List C} {sh : Bool} {K : C → List (Nat × EObj) → Prop} {R : Type} {r : R} {V : Vx} {v : (List Pair)} {f : (List Pair) → Option R}
theorem s_cLPair (hV : IsV V) (hA : IsBx true rg P G A) (H : on_LPair v f = some r) (hok : FnOK P G g vs [] (.sl (v.map ePair)) [] sh) (hc : vs.all closedArg = true) (h : ∀ c0, f c0 = some r → K (.sl (V.rPair c0)) []) : A.call own o g vs K := by
 refine callT_plain hA hok hc ?_
 have := h (v) H
 simp only [hV.rPair] at this
 exact this
variable {U : List C → List Nat → (C → List (Nat × EObj) → Prop) → Prop} {bs : List C} {tops : List Nat}
end
noncomputable def impl_clone_Pair.f (a1 : List Pair)  (z_ : (List Pair)) : Option ((List Pair)) := (gd (a1.length * 24 ≤ 140737488355328) (on_LPair ((fun (l : List Pair) => l) a1) fun v2 => (on_LPair ((fun (l : List Pair) => l) v2) fun v3 => (some v3))))
section
variable {G : Glob} (hm : Hm) (hz : Hz) (hG : GF G)
include hm hz hG
theorem impl_clone_Pair.w {a1 : List Pair}  {r : (List Pair)} (H : impl_clone_Pair.f a1  r = some r) : FnOK pg G 176 [.sl (a1.map ePair)] [] (.sl (r.map ePair)) [] true := by
 obtain ⟨V, hV⟩ := exV
 have e0_Pair : V.rPair [] = [] := hV.rPair []
 have e1_Pair : ∀ x r, V.rPair (x :: r) = ePair x :: V.rPair r := fun x r => by rw [hV.rPair, hV.rPair]; rfl
 simp only [← hV.rPair]
 refine fn_okS (tt0 := tyG [ty3, ty9, ty45, ty136]) (fn := Tryz.f176) (body := bodyOf Tryz.f176) (ext := []) hm (tyG_sub ⟨tt3, tt9, tt45, tt136, trivial⟩) hz 0 [] (by unfold pg; exact Tryz.func176) rfl rfl (by simp [Tryz.f176]) (by simp [EObj.toObj]) (by cbv) ?_
 intro A F hA hF
 unfold impl_clone_Pair.f at H
 cbv
 repeat' (first
  | (with_reducible refine s_gd H (fun hg H => ?_))
  | (cases H; (try simp only [e0_Pair, e1_Pair, ePair] at hF); with_reducible refine fin_close hF rfl (by simp [expIds, posCells, C.cells, idOf]) ?_; cbv)
  | with_reducible first
   | (refine s_lv H (fun _ H => ?_); cbv)
   | (refine s_cLPair hV hA H (by (try simp only [hV.rPair]); (first | (have hk_ := slices_Clone_Pair.ok hm hz hG hg; with_unfolding_all exact hk_) | (with_unfolding_all exact slices_Clone_Pair.ok hm hz hG (by first | assumption | omega)))) rfl (fun _ H => ?_); cbv)
   | (refine s_cLPair hV hA H (by (try simp only [hV.rPair]); with_unfolding_all exact slices_Clip_Pair.ok hm hz hG) rfl (fun _ H => ?_); cbv)
   | (refine indep_of hA ?_; cbv)
  | ((with_reducible refine side ?_); exact sideOf)
  | with_reducible first
   | (refine s_tkG hV.rPair hV.nPair ?_; cbv)
   | (refine s_tk1 ?_; cbv)
  | (with_reducible refine And.intro ?_ ?_)
  | (intro ys hys; subst hys; rfl)
  | rfl)
theorem impl_clone_Pair.ok {a1 : List Pair} (hp : a1.length * 24 ≤ 140737488355328) : FnOK pg G 176 [.sl (a1.map ePair)] [] (.sl ((((fun (l : List Pair) => l) a1)).map ePair)) [] true := by
 refine impl_clone_Pair.w hm hz hG ?_
 simp only [impl_clone_Pair.f, on_LPair]
 rw [gd_ok hp]
end
end Go.Proofs.YtchpopejojghmaaGreatDoor.M
