/- Rows of one slice that is still nil. -/
import Derived.Test.YtchpopejojghmaaGreatDoorHO
set_option linter.unusedVariables false
set_option linter.unusedSimpArgs false
set_option linter.unusedSectionVars false
namespace Go.Proofs.YtchpopejojghmaaGreatDoor.M
open Go Go.Proofs
structure Sig0 where
 deriving DecidableEq
def eSig0 (_ : Sig0) : List C := [.nils]
structure Vs where
 rSig0 : List Sig0 → List (List C)
 nSig0 : List Sig0 → Nat
structure IsVs (U : Vs) : Prop where
 rSig0 : ∀ l, U.rSig0 l = l.map eSig0
 nSig0 : ∀ l, U.nSig0 l = l.length
theorem exU : ∃ U, IsVs U := ⟨⟨fun l => l.map eSig0, fun l => l.length⟩, ⟨fun _ => rfl, fun _ => rfl⟩⟩
def upSig0 (_ : Sig0) : Sig := ⟨[]⟩
section
variable {R : Type} {r : R} {V : Vx} {U : Vs}
theorem s_mkSig0 (hU : IsVs U) {k : Nat} {f : List Sig0 → Option R} {K : List (List C) → Nat → Prop} (H : lv (List.replicate k ⟨⟩) f = some r) (h : ∀ l', f l' = some r → K (U.rSig0 l') (U.nSig0 l')) : ∀ (j : Nat) rows, j = k → rows = List.replicate j [.nils] → ∀ m, m = rows.length → K rows m :=
 s_mkL hU.rSig0 hU.nSig0 rfl H h
variable {B : (Nat → EObj) → List (List C) → List (List C) → Prop} {ks : List Nat} {ns : List (Nat × Nat)} {o : Nat → EObj}
theorem pin_s0' (hB : ∀ o rows rows', rowsZ (pinZ o ks ns) rows rows' → B o rows rows') (hV : IsV V) (hU : IsVs U) {l : List Sig0} {x : List Sig} (hx : x = l.map upSig0) : B o (U.rSig0 l) (V.rSig x) := by
 subst hx
 refine hB _ _ _ (rowsZ_of (l := l) (by rw [hU.rSig0, List.length_map]) (by rw [hV.rSig, List.length_map, List.length_map]) fun k x e => ⟨[.nils], [.sl []], by rw [hU.rSig0, List.getElem?_map, e]; rfl, by rw [hV.rSig, List.getElem?_map, List.getElem?_map, e]; rfl, pz_nilsl, trivial⟩)
theorem ns0' (hV : IsV V) (hU : IsVs U) {l : List Sig0} {x : List Sig} (hx : x = l.map upSig0) : U.nSig0 l = V.nSig x := by
 subst hx; rw [hU.nSig0, hV.nSig, List.length_map]
theorem wSig0 (hU : IsVs U) {l : List Sig0} : ∀ row ∈ U.rSig0 l, row.length = 1 := by
 intro row h; rw [hU.rSig0] at h; obtain ⟨x, _, rfl⟩ := List.mem_map.1 h; rfl
end
end Go.Proofs.YtchpopejojghmaaGreatDoor.M
