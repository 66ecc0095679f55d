import Derived.Test.YtchpopejojghmaaGreatDoorW3
set_option linter.unusedVariables false
set_option linter.unusedSimpArgs false
set_option linter.unusedSectionVars false
namespace Go.Proofs.YtchpopejojghmaaGreatDoor.M
open Go Go.Proofs
set_option maxRecDepth 100000
section
variable {G : Glob} (hm : Hm) (hz : Hz) (hG : GF G)
include hm hz hG
theorem spec_emptyBinding.inl {a1 : List Param} (hl : a1.length ≤ 8) {V : Vx} (hV : IsV V) {W : Vh} (hW : IsVh W) {o : Nat → EObj} : InlOK pg G 127 [.agg [.sl (V.rParam a1)]] (toO o) (.agg [.ref 16768 ((o 16768).gen + 1) 3 0 (W.nSlot00 (List.replicate a1.length ⟨false⟩))]) (upsO [(16448, ⟨(o 16448).gen + 1, true, 1, .one [.sl (V.rParam a1)]⟩), (16512, ⟨(o 16512).gen + 1, true, 1, .one [.ref 16768 ((o 16768).gen + 1) 3 0 (W.nSlot00 (List.replicate a1.length ⟨false⟩))]⟩), (16768, ⟨(o 16768).gen + 1, true, 3, .many (W.rSlot00 (List.replicate a1.length ⟨false⟩))⟩)]) := by
 refine in_ok (tt0 := tyG [ty3, ty4, ty27, ty29, ty39, ty45, ty51, ty53, ty65, ty102]) (fn := Tryz.f127) (body := bodyOf Tryz.f127) hm (tyG_sub ⟨tt3, tt4, tt27, tt29, tt39, tt45, tt51, tt53, tt65, tt102, trivial⟩) hz 16384 [] (by unfold pg; exact Tryz.func127) rfl rfl (by simp [Tryz.f127]) (by cbv) ?_
 intro A F hA hF
 cbv
 intro n h0 hn _
 have hn' : n.toNat = a1.length := by rw [hn]; simp only [hV.rParam, List.length_map]
 cbv
 repeat' (first
  | ((with_reducible refine side ?_); omega)
  | (with_reducible refine indep_of hA ?_; cbv)
  | (with_reducible refine And.intro ?_ ?_)
  | rfl)
 intro k rows hk hrows m hm'
 have er : rows = W.rSlot00 (List.replicate a1.length ⟨false⟩) := by rw [hrows, hk, hn', hW.rSlot00, List.map_replicate]; rfl
 have em : m = W.nSlot00 (List.replicate a1.length ⟨false⟩) := by rw [hm', hrows, hk, hn', hW.nSlot00, List.length_replicate, List.length_replicate]
 clear hrows hm'
 generalize hL : (List.replicate a1.length (⟨false⟩ : Slot00)) = L at *
 subst er em
 cbv
 repeat' (first
  | ((with_reducible refine side ?_); omega)
  | (with_reducible refine indep_of hA ?_; cbv)
  | (with_reducible refine And.intro ?_ ?_)
  | rfl)
 rw [hF]
 refine ⟨rfl, congrArg toO (funext fun i => ?_)⟩
 simp only [setE, upd]
 by_cases h1 : i = 16448
 ·subst h1; rfl
 ·by_cases h2 : i = 16512
  ·subst h2; rfl
  ·by_cases h3 : i = 16768
   ·subst h3; rfl
   ·simp [h1, h2, h3]
end
end Go.Proofs.YtchpopejojghmaaGreatDoor.M
