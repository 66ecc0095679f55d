/- Generators: flat calls. -/
import Derived.Test.YtoofegkjdjlpkaaGreatDoorQ2
set_option linter.unusedVariables false
set_option linter.unusedSimpArgs false
set_option linter.unusedSectionVars false
namespace Go.Proofs.YtoofegkjdjlpkaaGreatDoor.M
open Go Go.Proofs
set_option maxRecDepth 100000
theorem RO_aNum {n : Nat} {r : Rd} (h : RO (n + 1) r) : RO n (aNumberV r).2 := RO_one h
theorem mem_rng {l : List Int} {n b : Int} (h : n ∈ l) (hl : l.all (fun x => decide (0 ≤ x ∧ x ≤ b)) = true) : 0 ≤ n ∧ n ≤ b := by
  rw [List.all_eq_true] at hl
  simpa using hl n h
section
variable {A : Bx} {P : Program} {G : Glob} {rg : Option Nat} {own : Nat} {o : Nat → EObj} {g : FuncId} {vs : List C} {sh : Bool} {K : C → List (Nat × EObj) → Prop} {R : Type} {r : R} {V : Vx} {v : (List Pair)} {f : (List Pair) → Option R}
variable {U : List C → List Nat → (C → List (Nat × EObj) → Prop) → Prop} {bs : List C} {tops : List Nat}
end
section
variable {G : Glob} (hm : pg.follows .mixedOrders = true) (hz : ∀ T, ∀ c ∈ (ttOf pg T).zero, Bd c) (hG : GF G)
include hm hz hG
end
section
variable {G : Glob} (hm : pg.follows .mixedOrders = true) (hz : ∀ T, ∀ c ∈ (ttOf pg T).zero, Bd c) (hG : GF G)
include hm hz hG
end
end Go.Proofs.YtoofegkjdjlpkaaGreatDoor.M
