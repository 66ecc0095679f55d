/- The generators' reader. -/
import Derived.Test.YtchpopejojghmaaGreatDoorP4
set_option linter.unusedVariables false
set_option linter.unusedSimpArgs false
set_option linter.unusedSectionVars false
namespace Go.Proofs.YtchpopejojghmaaGreatDoor.M
open Go Go.Proofs
set_option maxRecDepth 100000
theorem lj_ok {S R : Type} {n : Nat} {A : (S → Option R) → Option R} {B : S → Option R} {z : R} (I : S → Prop) (hA : ∀ J : S → Option R, (∀ s, I s → J s = some z) → A J = some z) (hB : ∀ s, I s → B s = some z) : lj n A B = some z := hA B hB
def RO (n : Nat) (r : Rd) : Prop := r.bs.length ≤ 2000 ∧ (∀ b ∈ r.bs, 0 ≤ b ∧ b ≤ 255) ∧ 0 ≤ r.at_ ∧ r.at_ + n ≤ 1000000
theorem RO.le {n m : Nat} {r : Rd} (h : RO n r) (hm : m ≤ n) : RO m r := ⟨h.1, h.2.1, h.2.2.1, by have := h.2.2.2; omega⟩
section
variable {G : Glob} (hm : Hm) (hz : Hz) (hG : GF G)
include hm hz hG
end
section
variable {A : Bx} {P : Program} {G : Glob} {own : Nat} {o : Nat → EObj} {g : FuncId} {K : C → List (Nat × EObj) → Prop} {R : Type} {r : R} {V : Vx} {v : Int × Rd} {f : Int → (List Int) → Int → Option R}
variable {U : List C → List EObj → (C → List (Nat × EObj) → Prop) → Prop} {bs : List C} {ext : List EObj} {ids tops : List Nat}
end
section
variable {G : Glob} (hm : Hm) (hz : Hz) (hG : GF G)
include hm hz hG
end
end Go.Proofs.YtchpopejojghmaaGreatDoor.M
