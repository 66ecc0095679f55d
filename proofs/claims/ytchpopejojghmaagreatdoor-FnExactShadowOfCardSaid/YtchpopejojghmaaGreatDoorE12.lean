/- The rule of a function that writes what is handed on to it (by pointer, or a slice's elements). -/
import Derived.Test.YtchpopejojghmaaGreatDoorE11
set_option linter.unusedVariables false
set_option linter.unusedSimpArgs false
namespace Go.Proofs.YtchpopejojghmaaGreatDoor.M
open Go
section
variable {P : Program} {G : Glob} {tt0 : Nat → TyI}
structure FinWOK (tops : Bool) (ext ext' : List Obj) (res : C) (o : Nat → Obj) (v : C) : Prop where
 shape : shapeV v = true
 nodup : (expIds v).Nodup
 eq : softV (expV o (if tops then expIds v else []) v) = res
 ids : ∀ p c, (p, c) ∈ posCells v → ∀ id, idOf c = some id → ext.length ≤ id ∧ ∀ r ∈ (o id).rows, r.all closedCell = true
 len : ext'.length = ext.length
 back : ∀ id, id < ext.length → o id = extO ext' id ∧ (extO ext' id).gen = 0 ∧ (extO ext' id).rw = true ∧ (extO ext' id).es = (extO ext id).es ∧ (extO ext' id).rows.length = (extO ext id).rows.length ∧
  ∀ r ∈ (extO ext' id).rows, r.all closedCell = true
end
section
variable {P : Program} {G : Glob} {rg : Option Nat} {A : Bx} {own : Nat} {o : Nat → EObj}
end
end Go.Proofs.YtchpopejojghmaaGreatDoor.M
