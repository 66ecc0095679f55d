/- Generators: calls; the law FnParseCall. -/
import Derived.Test.YtoofegkjdjlpkaaGreatDoorQ6
set_option linter.unusedVariables false
set_option linter.unusedSimpArgs false
set_option linter.unusedSectionVars false
namespace Go.Proofs.YtoofegkjdjlpkaaGreatDoor.M
open Go Go.Proofs
set_option maxRecDepth 100000
section
variable {A : Bx} {P : Program} {G : Glob} {own : Nat} {o : Nat → EObj} {g : FuncId} {K : C → List (Nat × EObj) → Prop} {R : Type} {r : R} {V : Vx} {v : Flat × Rd} {f : (List Int) → (List Pair) → (List Int) → Int → Option R}
variable {U : List C → List EObj → (C → List (Nat × EObj) → Prop) → Prop} {bs : List C} {ext : List EObj} {ids tops : List Nat}
end
section
variable {G : Glob} (hm : pg.follows .mixedOrders = true) (hz : ∀ T, ∀ c ∈ (ttOf pg T).zero, Bd c) (hG : GF G)
include hm hz hG
end
section
variable {G : Glob} (hm : pg.follows .mixedOrders = true) (hz : ∀ T, ∀ c ∈ (ttOf pg T).zero, Bd c) (hG : GF G)
include hm hz hG
end
def on_Rd {R : Type} (v : Rd) (f : (List Int) → Int → Option R) : Option R := f (v.bs) (v.at_)
theorem s_cPRd {A : Bx} {P : Program} {G : Glob} {rg : Option Nat} {own : Nat} {o : Nat → EObj} {g : FuncId} {vs : List C} {sh : Bool} {K : C → List (Nat × EObj) → Prop} {R : Type} {r : R} {V : Vx} {v : Rd} {f : (List Int) → Int → Option R} (hV : IsV V) (hA : IsBx true rg P G A) (H : on_Rd v f = some r) (hok : FnOK P G g vs [] (.frp [.sl ((v.bs).map eIu8), .int .i64 (v.at_)]) [] sh) (hc : vs.all closedArg = true) (h : ∀ c0 c1, f c0 c1 = some r → K (.ptr (own + 0) ((o (own + 0)).gen + 1) 2 0 0) [(own + 0, ⟨(o (own + 0)).gen + 1, true, 2, .one [.sl (V.rIu8 c0), .int .i64 c1]⟩)]) : A.call own o g vs K := by
  refine callT_plain hA hok hc ?_
  have := h (v.bs) (v.at_) H
  simp only [hV.rIu8] at this
  exact this
section
variable {A : Bx} {P : Program} {G : Glob} {own : Nat} {o : Nat → EObj} {g : FuncId} {K : C → List (Nat × EObj) → Prop} {R : Type} {r : R} {V : Vx} {v : Cal × Rd} {f : (List Arg) → (List Int) → Int → Option R}
variable {U : List C → List EObj → (C → List (Nat × EObj) → Prop) → Prop} {bs : List C} {ext : List EObj} {ids tops : List Nat}
end
section
variable {G : Glob} (hm : pg.follows .mixedOrders = true) (hz : ∀ T, ∀ c ∈ (ttOf pg T).zero, Bd c) (hG : GF G)
include hm hz hG
end
section
variable {G : Glob} (hm : pg.follows .mixedOrders = true) (hz : ∀ T, ∀ c ∈ (ttOf pg T).zero, Bd c) (hG : GF G)
include hm hz hG
end
section
variable {G : Glob} (hm : pg.follows .mixedOrders = true) (hz : ∀ T, ∀ c ∈ (ttOf pg T).zero, Bd c) (hG : GF G)
include hm hz hG
end
section
variable {G : Glob} (hm : pg.follows .mixedOrders = true) (hz : ∀ T, ∀ c ∈ (ttOf pg T).zero, Bd c) (hG : GF G)
include hm hz hG
end
end Go.Proofs.YtoofegkjdjlpkaaGreatDoor.M
