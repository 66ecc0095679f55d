import Derived.Test.YtchpopejojghmaaGreatDoorW4
set_option linter.unusedVariables false
set_option linter.unusedSimpArgs false
set_option linter.unusedSectionVars false
namespace Go.Proofs.YtchpopejojghmaaGreatDoor.M
open Go Go.Proofs
set_option maxRecDepth 100000
section
variable {G : Glob} (hm : Hm) (hz : Hz) (hG : GF G)
include hm hz hG
def ebUps (W : Vh) (rp : List (List C)) (o : Nat → EObj) (L : List Slot00) : List (Nat × EObj) := [(16448, ⟨(o 16448).gen + 1, true, 1, .one [.sl rp]⟩), (16512, ⟨(o 16512).gen + 1, true, 1, .one [.ref 16768 ((o 16768).gen + 1) 3 0 (W.nSlot00 L)]⟩), (16768, ⟨(o 16768).gen + 1, true, 3, .many (W.rSlot00 L)⟩)]
theorem s_inlEB {rg : Option Nat} {A : Bx} (hA : IsBx true rg pg G A) {V : Vx} (hV : IsV V) {W : Vh} (hW : IsVh W) {R : Type} {r : R} {own : Nat} {o : Nat → EObj} {K : C → List (Nat × EObj) → Prop} {l : List Param} {f : List Slot00 → Option R} (h8 : l.length ≤ 8) (H : lv (List.replicate l.length ⟨false⟩) f = some r)
  (h : ∀ L, f L = some r → K (.agg [.ref 16768 ((o 16768).gen + 1) 3 0 (W.nSlot00 L)]) (ebUps W (V.rParam l) o L)) : A.call own o 127 [.agg [.sl (V.rParam l)]] K := by
 rw [hA.call]
 refine Or.inr ⟨_, _, ⟨fun o' ho => ?_, fun _ ha => ?_⟩, h _ H⟩
 ·have e := spec_emptyBinding.inl hm hz hG h8 hV hW (o := fun i => ⟨(o' i).gen, (o' i).rw, (o' i).es, .many (o' i).rows⟩)
  have g1 := congrArg Obj.gen (ho 16448 (by simp [ebUps]))
  have g2 := congrArg Obj.gen (ho 16512 (by simp [ebUps]))
  have g3 := congrArg Obj.gen (ho 16768 (by simp [ebUps]))
  simp only [toO, EObj.toObj] at g1 g2 g3
  simp only [g1, g2, g3] at e
  exact e
 ·have hs : Bd (.sl (V.rParam l)) := by
   cases ha _ (List.mem_singleton.2 rfl) with
   | agg _ hc => exact hc _ (List.mem_singleton.2 rfl)
  have hr : Bd (.ref 16768 ((o 16768).gen + 1) 3 0 (W.nSlot00 (List.replicate l.length ⟨false⟩))) := .ref _ _ _ _ _ (by rw [hW.nSlot00, List.length_replicate]; unfold bnd63; omega)
  refine ⟨.agg _ fun c hc => ?_, fun p hp => ?_⟩
  ·rw [List.mem_singleton] at hc; subst hc; exact hr
  ·simp only [ebUps, List.mem_cons, List.not_mem_nil, or_false] at hp
   rcases hp with rfl | rfl | rfl
   ·refine ⟨by simp [ED.rows, bnd63], fun r hr c hc => ?_⟩
    simp only [ED.rows, List.mem_singleton] at hr; subst hr
    rw [List.mem_singleton] at hc; subst hc; exact hs
   ·refine ⟨by simp [ED.rows, bnd63], fun r hr' c hc => ?_⟩
    simp only [ED.rows, List.mem_singleton] at hr'; subst hr'
    rw [List.mem_singleton] at hc; subst hc; exact hr
   ·refine ⟨by simp only [ED.rows, hW.rSlot00, List.length_map, List.length_replicate]; unfold bnd63; omega, fun r hr' c hc => ?_⟩
    simp only [ED.rows, hW.rSlot00] at hr'
    obtain ⟨x, _, rfl⟩ := List.mem_map.1 hr'
    simp only [eSlot00, List.mem_cons, List.not_mem_nil, or_false] at hc
    rcases hc with rfl | rfl | rfl
    ·exact .bool _
    ·exact .nils
    ·exact .nils
end
end Go.Proofs.YtchpopejojghmaaGreatDoor.M
