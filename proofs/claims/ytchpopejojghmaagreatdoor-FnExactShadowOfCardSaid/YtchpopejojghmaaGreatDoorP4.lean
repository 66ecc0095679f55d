/- Validity of calls. -/
import Derived.Test.YtchpopejojghmaaGreatDoorPH
set_option linter.unusedVariables false
set_option linter.unusedSimpArgs false
set_option linter.unusedSectionVars false
namespace Go.Proofs.YtchpopejojghmaaGreatDoor.M
open Go Go.Proofs
set_option maxRecDepth 100000
section
variable {G : Glob} (hm : Hm) (hz : Hz) (hG : GF G)
include hm hz hG
end
def validPair (p : Pair) : Bool := isName p.name && isValue p.value
def validPairs (l : List Pair) : Bool := l.all validPair
noncomputable def impl_Pair_valid.f (a1 : Str) (a2 : Int)  (z_ : Bool) : Option (Bool) := (cn (isName a1) (cn (isValue a2) (some true) (some false)) (some false))
section
variable {G : Glob} (hm : Hm) (hz : Hz) (hG : GF G)
include hm hz hG
theorem impl_Pair_valid.w {a1 : Str} {a2 : Int}  {r : Bool} (H : impl_Pair_valid.f a1 a2  r = some r) : FnOK pg G 122 [.agg [.str ⟨⟨a1⟩⟩, .int .i64 a2]] [] (.bool r) [] false := by
 obtain ⟨V, hV⟩ := exV
 refine fn_ok (tt0 := tyG [ty3, ty4, ty9, ty136]) (fn := Tryz.f122) (body := bodyOf Tryz.f122) (ext := []) hm (tyG_sub ⟨tt3, tt4, tt9, tt136, trivial⟩) hz 0 true [] (by unfold pg; exact Tryz.func122) rfl rfl (by simp [Tryz.f122]) (by simp [EObj.toObj]) (by cbv) ?_
 intro A F hA hF
 unfold impl_Pair_valid.f at H
 cbv
 repeat' (first
  | (cases H; exact fin_plain hF rfl rfl rfl rfl)
  | with_reducible first
   | (refine s_lv H (fun _ H => ?_); cbv)
   | (refine s_cb hA H (by with_unfolding_all exact impl_isName.ok hm hz hG) rfl (fun H => ?_) (fun H => ?_) <;> cbv)
   | (refine s_cb hA H (by with_unfolding_all exact impl_isValue.ok hm hz hG) rfl (fun H => ?_) (fun H => ?_) <;> cbv)
   | (refine indep_of hA ?_; cbv)
  | ((with_reducible refine side ?_); exact sideOf)
  | (with_reducible refine s_tk1 ?_; cbv)
  | (with_reducible refine And.intro ?_ ?_)
  | ((with_reducible refine s_cn H (fun hb H => ?_) (fun hb H => ?_)) <;> (revert H; subst hb; intro H; cbv))
  | (intro ys hys; subst hys; rfl)
  | rfl)
theorem impl_Pair_valid.ok {a1 : Str} {a2 : Int}  : FnOK pg G 122 [.agg [.str ⟨⟨a1⟩⟩, .int .i64 a2]] [] (.bool ((validPair ⟨a1, a2⟩))) [] false := by
 refine impl_Pair_valid.w hm hz hG ?_
 simp only [impl_Pair_valid.f, validPair]; cases isName a1 <;> cases isValue a2 <;> rfl
end
end Go.Proofs.YtchpopejojghmaaGreatDoor.M
