/- What a call gives to the parameters: the reference. -/
import Derived.Test.YtchpopejojghmaaGreatDoorW5
import Derived.Test.YtchpopejojghmaaGreatDoorX1
set_option linter.unusedVariables false
set_option linter.unusedSimpArgs false
set_option linter.unusedSectionVars false
namespace Go.Proofs.YtchpopejojghmaaGreatDoor.M
open Go Go.Proofs
set_option maxRecDepth 100000
theorem upL_ge {l : List Slot0} {m : Nat} {is : List Int} (h : l.length ≤ m) : upL l m is = l := by
 unfold upL; exact List.modify_eq_self h
theorem rest_at {ps : List Param} (h : 0 ≤ kindAt ps 2) : (kindAt ps 2).toNat = restIx ps ∧ restIx ps < ps.length ∧ ∃ p, ps[restIx ps]? = some p ∧ p.kind = 2 := by
 unfold kindAt findI at h ⊢
 unfold restIx
 cases e : ps.findIdx? (fun p => decide (p.kind = 2)) with
 | none => rw [e] at h; simp [idxOr] at h
 | some k =>
  obtain ⟨hk, hp, _⟩ := List.findIdx?_eq_some_iff_getElem.1 e
  rw [List.findIdx?_eq_some_iff_findIdx_eq] at e
  refine ⟨by simp only [idxOr]; omega, by omega, ps[k], by rw [e.2]; exact List.getElem?_eq_getElem hk, by simpa using hp⟩
theorem rest_no {ps : List Param} (h : ¬ 0 ≤ kindAt ps 2) : restIx ps = ps.length ∧ (ps.any fun p => decide (p.kind = 2)) = false := by
 have h1 : ¬ (ps.any fun p => decide (p.kind = 2)) = true := by
  rw [← findI_nn (fun p : Param => decide (p.kind = 2)) ps]; exact h
 refine ⟨?_, Bool.eq_false_iff.2 h1⟩
 unfold restIx
 rw [List.findIdx_eq_length]
 intro p hp
 rw [Bool.eq_false_iff]
 exact fun c => h1 (List.any_eq_true.2 ⟨p, hp, c⟩)
theorem rest_yes {ps : List Param} (h : 0 ≤ kindAt ps 2) : (ps.any fun p => decide (p.kind = 2)) = true := by
 rw [← findI_nn (fun p : Param => decide (p.kind = 2)) ps]; exact h
theorem rest_ge {ps : List Param} (hv : VP ps) : nPlaces ps ≤ restIx ps := by
 apply Classical.byContradiction
 intro h
 have hlt : restIx ps < ps.length := by have := nPlaces_le ps; omega
 have h1 := (placed_iff hv.nn hv.s2 (restIx ps) _ (List.getElem?_eq_getElem hlt)).2 (by omega)
 have h2 := List.findIdx_getElem (xs := ps) (p := fun p : Param => decide (p.kind = 2)) (w := hlt)
 simp only [decide_eq_true_eq] at h2
 unfold placedP at h1
 have h3 : ps[restIx ps].kind = 2 := h2
 simp [h3] at h1
def hole1 (pars : List Param) (l : List Int) : List Int := if 0 ≤ kindAt pars 2 then l.drop (nPlaces pars) else []
theorem slots_sp {pars : List Param} (hv : VP pars) (l : List Int) : slotsGo pars l = upL (slots0 pars.length (nPlaces pars) l) (restIx pars) (hole1 pars l) := by
 rw [slotsGo_eq hv.nn hv.s2]
 unfold hole1
 by_cases h : 0 ≤ kindAt pars 2
 ·rw [if_pos h]
 ·rw [if_neg h, upL_ge (by rw [slots0_len, (rest_no h).1]; exact Nat.le_refl _), upL_ge (by rw [slots0_len, (rest_no h).1]; exact Nat.le_refl _)]
theorem left_sp {pars : List Param} (hv : VP pars) (l : List Int) : (leftGo pars l = []) ↔ ¬ (nPlaces pars < l.length ∧ kindAt pars 2 < 0) := by
 rw [leftGo_eq hv.nn hv.s2]
 by_cases h : 0 ≤ kindAt pars 2
 ·rw [if_pos (rest_yes h)]; exact ⟨fun _ c => by omega, fun _ => rfl⟩
 ·rw [(rest_no h).2, if_neg (by simp), List.drop_eq_nil_iff]; omega
noncomputable def spec_bound.b1 (a1 : List Param) (a2 : List Int) (a3 : List Pair) (k1_ : Nat) (k2_ : Nat)  (h1 : ((List Slot0) × (List Pair) × Int × (List Prob)) → Option (Bind × (List Prob))) (z_ : Bind × (List Prob)) (x404 : List Slot0) (x405 : List Pair) (x463 : Int) (x464 : List Prob) : Option (Bind × (List Prob)) := (ln' z_ (a3.length) fun v522 => (if x463 < v522 then (lj 2 (fun J2 => (ixPair a3 x463 fun v580 v581 => (lv ((fun (s : Sig) (n : Str) => takesV s.params n) (⟨a1⟩) v580) fun v582 => (if v582 < 0 then (gd ((x464.length + 1) * 24 ≤ 140737488355328) (lv (x464 ++ [⟨1, v580⟩]) fun v583 => (J2 (x404, x405, v583)))) else (ixParam a1 v582 fun v584 v585 v586 v587 => (if v585 = 4 then (ia x404.length v582 fun j588 => (gd (j588 = k2_) (rnSlot0 x404 j588 fun v589 v590 => (gd ((x405.length + 1) * 24 ≤ 140737488355328) (lv (x405 ++ [⟨v580, v581⟩]) fun v591 => (ia x404.length v582 fun j592 => (rnSlot0 x404 j592 fun v593 v594 => (gd (j592 = k2_) (lv (x404.set j592 ⟨v593, v594⟩) fun v595 => (J2 (v595, v591, x464))))))))))) else (ia x404.length v582 fun j596 => (rnSlot0 x404 j596 fun v597 v598 => (cn v597 (gd ((x464.length + 1) * 24 ≤ 140737488355328) (lv (x464 ++ [⟨2, v580⟩]) fun v599 => (J2 (x404, x405, v599)))) (ia x404.length v582 fun j600 => (rnSlot0 x404 j600 fun v601 v602 => (gd (j600 ≠ k2_) (lv (x404.set j600 ⟨true, [v581]⟩) fun v603 => (J2 (v603, x405, x464))))))))))))))) (fun (x575, x576, x577) => (arr .i64 (x463 + 1) fun v604 => (h1 (x575, x576, v604, x577))))) else (lj 3 (fun J3 => (cv (upP x404 k2_ x405) fun v606 => (J3 v606))) (fun x605 => (some (⟨x605⟩, x464))))))
noncomputable def spec_bound.b0 (a1 : List Param) (a2 : List Int) (a3 : List Pair) (k1_ : Nat) (k2_ : Nat) (v6 : Int) (v7 : Int) (h0 : ((List Slot0) × (List Int) × Int) → Option (Bind × (List Prob))) (h1 : ((List Slot0) × (List Pair) × Int × (List Prob)) → Option (Bind × (List Prob))) (z_ : Bind × (List Prob)) (x107 : List Slot0) (x108 : List Int) (x141 : Int) : Option (Bind × (List Prob)) := (ln' z_ (a2.length) fun v174 => (if x141 < v174 then (lj 0 (fun J0 => (if x141 < v6 then (ixI a2 x141 fun v205 => (ia x107.length x141 fun j206 => (rnSlot0 x107 j206 fun v207 v208 => (gd (j206 ≠ k1_) (lv (x107.set j206 ⟨true, [v205]⟩) fun v209 => (J0 (v209, x108))))))) else (if 0 ≤ v7 then (ia x107.length v7 fun j210 => (gd (j210 = k1_) (rnSlot0 x107 j210 fun v211 v212 => (ixI a2 x141 fun v213 => (gd ((x108.length + 1) * 8 ≤ 140737488355328) (lv (x108 ++ [v213]) fun v214 => (ia x107.length v7 fun j215 => (rnSlot0 x107 j215 fun v216 v217 => (gd (j215 = k1_) (lv (x107.set j215 ⟨v216, v217⟩) fun v218 => (J0 (v218, v214)))))))))))) else (J0 (x107, x108))))) (fun (x203, x204) => (arr .i64 (x141 + 1) fun v219 => (h0 (x203, x204, v219))))) else (lj 1 (fun J1 => (ln' z_ (a2.length) fun v227 => (if v6 < v227 then (if v7 < 0 then (gd ((0 + 1) * 24 ≤ 140737488355328) (lv (([] : List Prob) ++ [⟨0, ([] : Str)⟩]) fun v228 => (J1 (x107, x108, v228)))) else (J1 (x107, x108, []))) else (J1 (x107, x108, []))))) (fun (x224, x225, x226) => (cv (upL x224 k1_ x225) fun v607 => (h1 (v607, [], 0, x226)))))))
noncomputable def spec_bound.f (a1 : List Param) (a2 : List Int) (a3 : List Pair) (k1_ : Nat) (k2_ : Nat) (h0 : Int → Int → ((List Slot0) × (List Int) × Int) → Option (Bind × (List Prob))) (z_ : Bind × (List Prob)) : Option (Bind × (List Prob)) := (gd (a1.length ≤ 8) (lv (List.replicate a1.length ⟨false⟩) fun v5 => (lv ((fun (s : Sig) => placesN s.params) (⟨a1⟩)) fun v6 => (lv (kindAt a1 2) fun v7 => (cv (v5.map up00) fun v608 => (h0 v6 v7 (v608, [], 0)))))))
theorem pin_spec_bound {e : ESt} {ns : List (Nat × Nat)} {ps : List (Nat × C)} {os : List (Nat × EObj)} (hs : pinPZ (pinZ e.o (os.map Prod.fst) ns) e.s ps := by first | (cbv <;> (repeat' (first | trivial | refine And.intro ?_ ?_)) <;> (first | rfl | assumption | omega | exact n00_0' hW (by assumption) | exact nL' hW (by assumption) | exact nP' hV hW (by assumption) | exact Eq.symm (by assumption) | exact clI hV _ | exact clPair hV _ | exact clParam hV _ | exact clProb hV _ | exact clSlot hV _ | with_unfolding_all exact hV.nI [] | with_unfolding_all exact (hV.nI []).symm | with_unfolding_all exact hV.nPair [] | with_unfolding_all exact (hV.nPair []).symm | with_unfolding_all exact hV.nParam [] | with_unfolding_all exact (hV.nParam []).symm | with_unfolding_all exact hV.nProb [] | with_unfolding_all exact (hV.nProb []).symm | with_unfolding_all exact hV.nSlot [] | with_unfolding_all exact (hV.nSlot []).symm | with_unfolding_all exact hV.rI _ | with_unfolding_all exact hV.rPair _ | with_unfolding_all exact hV.rParam _ | with_unfolding_all exact hV.rProb _ | with_unfolding_all exact hV.rSlot _ | with_unfolding_all exact (hV.nI _).trans (Eq.trans (by simp only [hV.nI] at *; omega) (hV.nI _).symm) | with_unfolding_all exact (hV.nPair _).trans (Eq.trans (by simp only [hV.nPair] at *; omega) (hV.nPair _).symm) | with_unfolding_all exact (hV.nParam _).trans (Eq.trans (by simp only [hV.nParam] at *; omega) (hV.nParam _).symm) | with_unfolding_all exact (hV.nProb _).trans (Eq.trans (by simp only [hV.nProb] at *; omega) (hV.nProb _).symm) | with_unfolding_all exact (hV.nSlot _).trans (Eq.trans (by simp only [hV.nSlot] at *; omega) (hV.nSlot _).symm) | simp [closedCell])) | fail) (ho : ∀ B : (Nat → EObj) → List (List C) → List (List C) → Prop, (∀ o rows rows', rowsZ (pinZ o (os.map Prod.fst) ns) rows rows' → B o rows rows') → pinOZ (pinZ e.o (os.map Prod.fst) ns) B e.o ns os := by intro B hB; first | (cbv <;> (repeat' (first | trivial | refine And.intro ?_ ?_ | exact pin_0 hB hV hW | refine pin_0Z hB hV hW (by assumption) (by assumption) ?_ | refine pin_h2Z hB hV hW (by assumption) (by assumption) (by assumption) ?_ ?_ | refine pin_h2 hB hV hW ?_ | refine pin_h1Z hB hV hW (by assumption) (by assumption) (by assumption) ?_ ?_ | refine pin_h1 hB hV hW ?_ | exact pin_00_0' hB hV hW (by assumption) | refine pin_00_h1' hB hV hW (by assumption) ?_ | refine pin_0_h2 hB hV hW ?_ | refine pin_h2_S' hB hV hW (by assumption) ?_ | refine pin_h1_h2' hB hV hW (by assumption) ?_ ?_ | refine pin_same hB ?_ | refine pin_nil hB ?_ | refine pin_dirty hB (by assumption) (by assumption) ?_ ?_ | exact pinL_n | refine pinL_c ?_ ?_ | exact pzr rfl rfl rfl (nrI hV _) (clI hV _) | exact pzr rfl rfl rfl (nrPair hV _) (clPair hV _) | exact pzr rfl rfl rfl (nrParam hV _) (clParam hV _) | exact pzr rfl rfl rfl (nrProb hV _) (clProb hV _) | exact pzr rfl rfl rfl (nrSlot hV _) (clSlot hV _) | (refine pz_go ?_; cbv) | (refine pinL_go ?_; cbv))) <;> (first | exact n00_0' hW (by assumption) | exact nL' hW (by assumption) | exact nP' hV hW (by assumption) | exact Eq.symm (by assumption) | exact clI hV _ | exact clPair hV _ | exact clParam hV _ | exact clProb hV _ | exact clSlot hV _ | with_unfolding_all exact hV.rI _ | with_unfolding_all exact hV.rPair _ | with_unfolding_all exact hV.rParam _ | with_unfolding_all exact hV.rProb _ | with_unfolding_all exact hV.rSlot _ | with_unfolding_all exact hV.nI [] | with_unfolding_all exact (hV.nI []).symm | with_unfolding_all exact hV.nPair [] | with_unfolding_all exact (hV.nPair []).symm | with_unfolding_all exact hV.nParam [] | with_unfolding_all exact (hV.nParam []).symm | with_unfolding_all exact hV.nProb [] | with_unfolding_all exact (hV.nProb []).symm | with_unfolding_all exact hV.nSlot [] | with_unfolding_all exact (hV.nSlot []).symm | assumption | omega | rfl | with_unfolding_all exact (hV.nI _).trans (Eq.trans (by simp only [hV.nI] at *; omega) (hV.nI _).symm) | with_unfolding_all exact (hV.nPair _).trans (Eq.trans (by simp only [hV.nPair] at *; omega) (hV.nPair _).symm) | with_unfolding_all exact (hV.nParam _).trans (Eq.trans (by simp only [hV.nParam] at *; omega) (hV.nParam _).symm) | with_unfolding_all exact (hV.nProb _).trans (Eq.trans (by simp only [hV.nProb] at *; omega) (hV.nProb _).symm) | with_unfolding_all exact (hV.nSlot _).trans (Eq.trans (by simp only [hV.nSlot] at *; omega) (hV.nSlot _).symm) | simp [closedCell])) | fail) : PinnedZ e ns ps os := ⟨hs, ho⟩
section
variable {G : Glob} (hm : Hm) (hz : Hz) (hG : GF G)
include hm hz hG
set_option maxHeartbeats 8000000 in
theorem spec_bound.w {a1 : List Param} {a2 : List Int} {a3 : List Pair} {k1_ : Nat} {k2_ : Nat} (inv0 : Int → Int → ((List Slot0) × (List Int) × Int) → Prop) (mu0 : Int → Int → ((List Slot0) × (List Int) × Int) → Nat) (res0 : Int → Int → ((List Slot0) × (List Int) × Int) → Bind × (List Prob)) (inv1 : ((List Slot0) × (List Pair) × Int × (List Prob)) → Prop) (mu1 : ((List Slot0) × (List Pair) × Int × (List Prob)) → Nat) (res1 : ((List Slot0) × (List Pair) × Int × (List Prob)) → Bind × (List Prob)) (hb0 : ∀ (v6 : Int), ∀ (v7 : Int), ∀ (s_ : (List Slot0) × (List Int) × Int), inv0 v6 v7 s_ → spec_bound.b0 a1 a2 a3 k1_ k2_ v6 v7 (LI (inv0 v6 v7) (mu0 v6 v7) (res0 v6 v7) (mu0 v6 v7 s_)) (EI (inv1 ) (mu1 ) (res1 )) (res0 v6 v7 s_) s_.1 s_.2.1 s_.2.2 = some (res0 v6 v7 s_)) (hb1 : ∀ (s_ : (List Slot0) × (List Pair) × Int × (List Prob)), inv1  s_ → spec_bound.b1 a1 a2 a3 k1_ k2_  (LI (inv1 ) (mu1 ) (res1 ) (mu1  s_)) (res1  s_) s_.1 s_.2.1 s_.2.2.1 s_.2.2.2 = some (res1  s_)) {r : Bind × (List Prob)} (H : spec_bound.f a1 a2 a3 k1_ k2_ (fun v6 v7 => EI (inv0 v6 v7) (mu0 v6 v7) (res0 v6 v7)) r = some r) : FnOK pg G 79 [.agg [.sl (a1.map eParam)], .agg [.sl (a2.map eI), .sl (a3.map ePair)]] [] (.tup [.agg [.fr 3 ((r.1.slots).map eSlot)], .fr 2 ((r.2).map eProb)]) [] true := by
 obtain ⟨V, hV⟩ := exV
 obtain ⟨W, hW⟩ := exW
 have e0_I : V.rI [] = [] := hV.rI []
 have e1_I : ∀ x r, V.rI (x :: r) = eI x :: V.rI r := fun x r => by rw [hV.rI, hV.rI]; rfl
 have e0_Pair : V.rPair [] = [] := hV.rPair []
 have e1_Pair : ∀ x r, V.rPair (x :: r) = ePair x :: V.rPair r := fun x r => by rw [hV.rPair, hV.rPair]; rfl
 have e0_Param : V.rParam [] = [] := hV.rParam []
 have e1_Param : ∀ x r, V.rParam (x :: r) = eParam x :: V.rParam r := fun x r => by rw [hV.rParam, hV.rParam]; rfl
 have e0_Prob : V.rProb [] = [] := hV.rProb []
 have e1_Prob : ∀ x r, V.rProb (x :: r) = eProb x :: V.rProb r := fun x r => by rw [hV.rProb, hV.rProb]; rfl
 have e0_Slot : V.rSlot [] = [] := hV.rSlot []
 simp only [← hV.rI, ← hV.rPair, ← hV.rParam, ← hV.rProb, ← hV.rSlot]
 refine fn_ok (tt0 := tyG [ty3, ty4, ty9, ty27, ty29, ty39, ty45, ty47, ty51, ty53, ty65, ty98, ty102, ty136, ty146]) (fn := Tryz.f79) (body := bodyOf Tryz.f79) (ext := []) hm (tyG_sub ⟨tt3, tt4, tt9, tt27, tt29, tt39, tt45, tt47, tt51, tt53, tt65, tt98, tt102, tt136, tt146, trivial⟩) hz 0 true [7, 14, 16, 4294967296] (by unfold pg; exact Tryz.func79) rfl rfl (by simp [Tryz.f79]) (by simp [EObj.toObj]) (by cbv) ?_
 intro A F hA hF
 unfold spec_bound.f at H
 cbv
 repeat' (first
  | (with_reducible refine s_cv H (fun _ hx_ H => ?_))
  | with_reducible first
   | (refine s_rnh1m hV hW H (fun _ _ hm_ H => ?_); cbv)
   | (refine s_rnh2m hV hW H (fun _ _ hm_ H => ?_); cbv)
   | (refine s_rnh1 hV hW H (fun _ _ _ H => ?_); cbv)
   | (refine s_rnh2 hV hW H (fun _ _ _ H => ?_); cbv)
   | (refine s_rnSlot0 hV hW H (fun _ _ H => ?_); cbv)
   | (refine s_seth1m hV hW H (fun _ hs_ H => ?_); cbv)
   | (refine s_seth2m hV hW H (fun _ hs_ H => ?_); cbv)
   | (refine s_seth1Z hV hW H (fun _ hs_ H hj_ hx_ zs_ hd_ => ?_); cbv)
   | (refine s_seth2Z hV hW H (fun _ hs_ H hj_ hx_ zs_ hd_ => ?_); cbv)
   | (refine s_setSlot0 hV hW H (fun _ hs_ H => ?_); cbv)
   | (refine s_setZSlot0 hV hW H (fun _ hs_ H hx_ zs_ hd_ => ?_); cbv)
   | (refine s_inlEB hm hz hG hA hV hW (by assumption) H (fun _ H => ?_); cbv)
   | (refine s_mkSlot00 hW H (fun _ H => ?_); cbv)
   | (refine s_ia H (by first | exact hW.nSlot0 _ | exact lenh1 hW | exact lenh2 hW | exact len0 hW) (fun _ H => ?_); cbv)
  | ((with_reducible refine side ?_); first | exact wh1 hW | exact wh2 hW | exact wSlot0 hW | (simp only [lenh1 hW, lenh2 hW, len0 hW, hW.nSlot0] at *; omega))
  | (with_reducible refine s_gd H (fun hg H => ?_))
  | (cases H; (try simp only [e0_I, e0_Pair, e0_Param, e0_Prob, e0_Slot, e1_I, eI, e1_Pair, ePair, e1_Param, eParam, e1_Prob, eProb] at hF); with_reducible refine fin_ref hF rfl (by simp [expIds, posCells, C.cells, idOf]) ?_; cbv)
  | ((with_reducible first | refine s_lt H ?_ ?_ | refine s_le H ?_ ?_ | refine s_eq H ?_ ?_ | refine s_ne H ?_ ?_) <;> intro H <;> cbv)
  | with_reducible first
   | (refine s_ln H lnOf (fun _ H => ?_); cbv)
   | (refine s_ixI hV H (fun _ H => ?_); cbv)
   | (refine s_ixPair hV H (fun _ _ H => ?_); cbv)
   | (refine s_ixParam hV H (fun _ _ _ _ H => ?_); cbv)
   | (refine s_ia H lnOf (fun _ H => ?_); cbv)
   | (refine s_ar H (fun _ H => ?_); cbv)
   | (refine s_setI hV H (fun _ hs_ H => ?_); cbv)
   | (refine s_apI hV H (fun _ H => ?_); cbv)
   | (refine s_apL hV.rI hV.nI H (fun _ H => ?_); cbv)
   | (refine s_ap0 hV.rI hV.nI (by first | exact (hV.rI _).symm | (simp [eI]; rfl) | (simp [eI]; done)) H (fun _ H => ?_); cbv)
   | (refine s_mkL hV.rI hV.nI (by cbv) H (fun _ H => ?_); cbv)
   | (refine s_setPair hV H (fun _ hs_ H => ?_); cbv)
   | (refine s_apPair hV H (fun _ H => ?_); cbv)
   | (refine s_apL hV.rPair hV.nPair H (fun _ H => ?_); cbv)
   | (refine s_ap0 hV.rPair hV.nPair (by first | exact (hV.rPair _).symm | (simp [ePair]; rfl) | (simp [ePair]; done)) H (fun _ H => ?_); cbv)
   | (refine s_mkL hV.rPair hV.nPair (by cbv) H (fun _ H => ?_); cbv)
   | (refine s_setParam hV H (fun _ hs_ H => ?_); cbv)
   | (refine s_apParam hV H (fun _ H => ?_); cbv)
   | (refine s_apL hV.rParam hV.nParam H (fun _ H => ?_); cbv)
   | (refine s_ap0 hV.rParam hV.nParam (by first | exact (hV.rParam _).symm | (simp [eParam]; rfl) | (simp [eParam]; done)) H (fun _ H => ?_); cbv)
   | (refine s_mkL hV.rParam hV.nParam (by cbv) H (fun _ H => ?_); cbv)
   | (refine s_setProb hV H (fun _ hs_ H => ?_); cbv)
   | (refine s_apProb hV H (fun _ H => ?_); cbv)
   | (refine s_apL hV.rProb hV.nProb H (fun _ H => ?_); cbv)
   | (refine s_ap0 hV.rProb hV.nProb (by first | exact (hV.rProb _).symm | (simp [eProb]; rfl) | (simp [eProb]; done)) H (fun _ H => ?_); cbv)
   | (refine s_mkL hV.rProb hV.nProb (by cbv) H (fun _ H => ?_); cbv)
   | (refine s_setSlot hV H (fun _ hs_ H => ?_); cbv)
   | (refine s_setZSlot hV H (fun _ hs_ H hk_ zs_ hd_ => ?_); cbv)
   | (refine s_apSlot hV H (fun _ H => ?_); cbv)
   | (refine s_apL hV.rSlot hV.nSlot H (fun _ H => ?_); cbv)
   | (refine s_apZSlot hV H (fun _ _ H hk_ zs_ hd_ => ?_); cbv)
   | (refine s_bnZSlot hV H (fun _ _ H hk_ zs_ hd_ => ?_); cbv)
   | (refine s_a0ZSlot hV H (fun _ _ H hk_ zs_ hd_ => ?_); cbv)
   | (refine s_ap0 hV.rSlot hV.nSlot (by first | exact (hV.rSlot _).symm | (simp [eSlot]; rfl) | (simp [eSlot]; done)) H (fun _ H => ?_); cbv)
   | (refine s_mkL hV.rSlot hV.nSlot (by cbv) H (fun _ H => ?_); cbv)
   | (refine s_lv H (fun _ H => ?_); cbv)
   | (refine s_loop hA H (fun s h => hb0 _ _ s h) [2, 3, 4, 6, 7, 8, 9] [128, 192, 256, 1024] (fun e s => [(10, .int .i64 (s.2.2))]) (fun e s => [ovO e 384 [(0, .ref 16768 0 3 0 (W.nSlot0 (s.1)))], (16768, ⟨0, true, 3, .many (W.h1 (s.1) k1_ (.ref 3968 0 1 0 (V.nI (s.2.1))))⟩), (3968, ⟨0, true, 1, .many (V.rI (s.2.1))⟩)]) [(3968, 1)] pin_spec_bound nbOf ?_; rintro ⟨x107, x108, x141⟩ H; unfold spec_bound.b0 at H; (try dsimp only at H); cbv)
   | (refine s_loop hA H (fun s h => hb1  s h) [2, 3, 4, 6] [128, 192, 256] (fun e s => [(7, .ref 1024 0 2 0 (V.nProb (s.2.2.2))), (11, .int .i64 (s.2.2.1))]) (fun e s => [ovO e 384 [(0, .ref 16768 0 3 0 (W.nSlot0 (s.1)))], (1024, ⟨0, true, 2, .many (V.rProb (s.2.2.2))⟩), (16768, ⟨0, true, 3, .many (W.h2 (s.1) k2_ (.ref 8320 0 2 0 (V.nPair (s.2.1))))⟩), (8320, ⟨0, true, 2, .many (V.rPair (s.2.1))⟩)]) [(8320, 2)] pin_spec_bound nbOf ?_; rintro ⟨x404, x405, x463, x464⟩ H; unfold spec_bound.b1 at H; (try dsimp only at H); cbv)
  | (with_reducible refine s_next H pin_spec_bound nbOf)
  | (with_reducible refine s_joint 0 hA H [2, 3, 4, 6, 7, 8, 9, 10] [128, 192, 256, 1024] (fun e s => []) (fun e s => [ovO e 384 [(0, .ref 16768 0 3 0 (W.nSlot0 (s.1)))], (16768, ⟨0, true, 3, .many (W.h1 (s.1) k1_ (.ref 3968 0 1 0 (V.nI (s.2))))⟩), (3968, ⟨0, true, 1, .many (V.rI (s.2))⟩)]) (fun J0 H => ?_) ?_; rotate_left; (rintro ⟨x203, x204⟩ H; (try dsimp only at H); cbv); rotate_left; cbv)
  | (with_reducible refine s_meet H [] pin_spec_bound nbOf)
  | (with_reducible refine s_joint 1 hA H [2, 3, 4, 6] [128, 192, 256] (fun e s => [(7, .ref 1024 0 2 0 (V.nProb (s.2.2)))]) (fun e s => [ovO e 384 [(0, .ref 16768 0 3 0 (W.nSlot0 (s.1)))], (1024, ⟨0, true, 2, .many (V.rProb (s.2.2))⟩), (16768, ⟨0, true, 3, .many (W.h1 (s.1) k1_ (.ref 3968 0 1 0 (V.nI (s.2.1))))⟩), (3968, ⟨0, true, 1, .many (V.rI (s.2.1))⟩)]) (fun J1 H => ?_) ?_; rotate_left; (rintro ⟨x224, x225, x226⟩ H; (try dsimp only at H); cbv); rotate_left; cbv)
  | (with_reducible refine s_meet H [] pin_spec_bound nbOf)
  | (with_reducible refine s_joint 2 hA H [2, 3, 4, 6, 11] [128, 192, 256] (fun e s => [(7, .ref 1024 0 2 0 (V.nProb (s.2.2)))]) (fun e s => [ovO e 384 [(0, .ref 16768 0 3 0 (W.nSlot0 (s.1)))], (1024, ⟨0, true, 2, .many (V.rProb (s.2.2))⟩), (16768, ⟨0, true, 3, .many (W.h2 (s.1) k2_ (.ref 8320 0 2 0 (V.nPair (s.2.1))))⟩), (8320, ⟨0, true, 2, .many (V.rPair (s.2.1))⟩)]) (fun J2 H => ?_) ?_; rotate_left; (rintro ⟨x575, x576, x577⟩ H; (try dsimp only at H); cbv); rotate_left; cbv)
  | (with_reducible refine s_meet H [] pin_spec_bound nbOf)
  | (with_reducible refine s_joint 3 hA H [4] [1024] (fun e s => [(5, rgV (toO e.o) (e.s 7))]) (fun e s => [ovO e 256 [(0, .ref 16768 0 3 0 (V.nSlot s))], (16768, ⟨0, true, 3, .many (V.rSlot s)⟩)]) (fun J3 H => ?_) ?_; rotate_left; (rintro x605 H; (try dsimp only at H); cbv); rotate_left; cbv)
  | (with_reducible refine s_meet H [] pin_spec_bound nbOf)
  | with_reducible first
   | (refine s_ci hA H (by (try simp only [hV.rI, hV.rPair, hV.rParam, hV.rProb, hV.rSlot]); with_unfolding_all exact spec_placeCount.ok hm hz hG) rfl (fun _ H => ?_); cbv)
   | (refine s_ci hA H (by (try simp only [hV.rI, hV.rPair, hV.rParam, hV.rProb, hV.rSlot]); with_unfolding_all exact spec_kindAt.ok hm hz hG) rfl (fun _ H => ?_); cbv)
   | (refine s_ci hA H (by (try simp only [hV.rI, hV.rPair, hV.rParam, hV.rProb, hV.rSlot]); with_unfolding_all exact spec_takesName.ok hm hz hG) rfl (fun _ H => ?_); cbv)
   | (refine indep_of hA ?_; cbv)
  | ((with_reducible refine side ?_); exact sideOf)
  | with_reducible first
   | (refine s_tkG hV.rI hV.nI ?_; cbv)
   | (refine s_tkG hV.rPair hV.nPair ?_; cbv)
   | (refine s_tkG hV.rParam hV.nParam ?_; cbv)
   | (refine s_tkG hV.rProb hV.nProb ?_; cbv)
   | (refine s_tkG hV.rSlot hV.nSlot ?_; cbv)
   | (refine s_tk1 ?_; cbv)
  | (with_reducible refine And.intro ?_ ?_)
  | ((with_reducible refine s_cn H (fun hb H => ?_) (fun hb H => ?_)) <;> (revert H; subst hb; intro H; cbv))
  | (intro ys hys; subst hys; rfl)
  | rfl
  | (intro h_; cases h_; done)
  | (with_reducible refine s_pl ?_; with_unfolding_all simp [plainV, plainA, plainC, plRI hV, plRPair hV, plRParam hV, plRProb hV])
  | (intro ys hys; subst hys; cbv)
  | (intro ys hys; subst hys))
theorem spec_bound.ok {a1 : List Param} {a2 : List Int} {a3 : List Pair} (hp : VN a1 ∧ a2.length ≤ 8 ∧ a3.length ≤ 8) : FnOK pg G 79 [.agg [.sl (a1.map eParam)], .agg [.sl (a2.map eI), .sl (a3.map ePair)]] [] (.tup [.agg [.fr 3 ((((fun (s : Sig) (f : Flat) => ((⟨boundV s.params f⟩ : Bind), (bindS s.params f).bad)) ⟨a1⟩ ⟨a2, a3⟩).1.slots).map eSlot)], .fr 2 ((((fun (s : Sig) (f : Flat) => ((⟨boundV s.params f⟩ : Bind), (bindS s.params f).bad)) ⟨a1⟩ ⟨a2, a3⟩).2).map eProb)]) [] true := by
 obtain ⟨hv, hp2, hp3⟩ := hp
 have hp1 := hv.len
 have hle := nPlaces_le a1
 have hge := rest_ge hv.toVP
 refine @spec_bound.w G hm hz hG a1 a2 a3 (restIx a1) (mapIx a1)
  (fun v w s => v = (nPlaces a1 : Int) ∧ w = kindAt a1 2 ∧ 0 ≤ s.2.2 ∧ s.2.2 ≤ a2.length ∧ s.1 = slots0 a1.length (nPlaces a1) (a2.take s.2.2.toNat) ∧ s.2.1 = hole1 a1 (a2.take s.2.2.toNat))
  (fun _ _ s => a2.length - s.2.2.toNat) (fun _ _ _ => ((⟨boundV a1 ⟨a2, a3⟩⟩ : Bind), (bindS a1 ⟨a2, a3⟩).bad))
  (fun s => 0 ≤ s.2.2.1 ∧ s.2.2.1 ≤ a3.length ∧ (⟨s.1, s.2.1, s.2.2.2⟩ : BSt) = (a3.take s.2.2.1.toNat).foldl (bindStep a1) (bind0 a1 ⟨a2, a3⟩))
  (fun s => a3.length - s.2.2.1.toNat) (fun _ => ((⟨boundV a1 ⟨a2, a3⟩⟩ : Bind), (bindS a1 ⟨a2, a3⟩).bad)) ?_ ?_ _ ?_
 ·rintro v w ⟨sl, is, i⟩ ⟨hv1, hw1, h0, h1, hsl, his⟩
  simp only at h0 h1 hsl his
  have hsll : sl.length = a1.length := by rw [hsl, slots0_len]
  simp only [spec_bound.b0, cn_ite]
  refine ln_ok fun hB => ?_
  refine ite_ok (fun h => ?_) (fun h => ?_)
  ·have hlt : i.toNat < a2.length := by omega
   obtain ⟨x, hx⟩ : ∃ x, a2[i.toNat]? = some x := ⟨_, List.getElem?_eq_getElem hlt⟩
   have htk : a2.take (i + 1).toNat = a2.take i.toNat ++ [x] := by rw [show (i + 1).toNat = i.toNat + 1 by omega, take_snoc hx]
   have hl : (a2.take i.toNat).length = i.toNat := by rw [List.length_take]; omega
   have eset := @slots0_snoc a1.length (nPlaces a1) (a2.take i.toNat) x
   rw [← htk, hl, ← hsl] at eset
   refine lj_ok (fun s => s.1 = slots0 a1.length (nPlaces a1) (a2.take (i + 1).toNat) ∧ s.2 = hole1 a1 (a2.take (i + 1).toNat)) (fun J hJ => ?_) ?_
   ·refine ite_ok (fun c => ?_) (fun c => ?_)
    ·have hin : i.toNat < nPlaces a1 := by omega
     rw [if_pos hin] at eset
     obtain ⟨s0, hs0⟩ : ∃ s0, sl[i.toNat]? = some s0 := ⟨_, List.getElem?_eq_getElem (by omega)⟩
     rw [ixI_ok h0 hx, ia_ok (by omega), rnSlot0_ok hs0, gd_ok (by omega)]
     refine hJ _ ⟨eset.symm, ?_⟩
     show is = _
     rw [his]
     unfold hole1
     split
     ·rw [List.drop_eq_nil_of_le (by omega), List.drop_eq_nil_of_le (by rw [List.length_take]; omega)]
     ·rfl
    ·have hin : ¬ i.toNat < nPlaces a1 := by omega
     rw [if_neg hin] at eset
     refine ite_ok (fun c2 => ?_) (fun c2 => ?_)
     ·rw [hw1] at c2 ⊢
      obtain ⟨r1, r2, p, r3, r4⟩ := rest_at c2
      obtain ⟨s0, hs0⟩ : ∃ s0, sl[restIx a1]? = some s0 := ⟨_, List.getElem?_eq_getElem (by omega)⟩
      have hil : is.length ≤ 8 := by
       have hl8 : (a2.take i.toNat).length ≤ 8 := by rw [hl]; omega
       rw [his]; unfold hole1; rw [if_pos c2, List.length_drop]; omega
      rw [ia_ok (by omega), gd_ok r1, r1, rnSlot0_ok hs0, ixI_ok h0 hx, gd_ok (by omega)]
      simp only [lv]
      rw [ia_ok (by omega), r1, rnSlot0_ok hs0, gd_ok rfl]
      refine hJ _ ⟨?_, ?_⟩
      ·simp only [eta_Slot0, set_self hs0]; exact eset.symm
      ·show is ++ [x] = _
       rw [his, htk]
       unfold hole1
       rw [if_pos c2, if_pos c2, List.drop_append_of_le_length (by omega)]
     ·refine hJ _ ⟨eset.symm, ?_⟩
      show is = _
      rw [his]
      unfold hole1
      rw [← hw1, if_neg c2, if_neg c2]
   ·rintro ⟨sl', is'⟩ ⟨h3, h4⟩
    simp only at h3 h4
    rw [arr_ok (by omega), LI_ok ⟨⟨hv1, hw1, by simp only; omega, by simp only; omega, h3, h4⟩, by simp only; omega⟩]
  ·have hi : i = a2.length := by omega
   rw [take_len hi] at hsl his
   refine lj_ok (fun s => s = (sl, is, if leftGo a1 a2 = [] then [] else [⟨0, []⟩])) (fun J hJ => ?_) ?_
   ·refine ln_ok fun hB => ?_
    refine ite_ok (fun c1 => ?_) (fun c1 => ?_)
    ·refine ite_ok (fun c2 => ?_) (fun c2 => ?_)
     ·rw [gd_ok (by omega)]
      refine hJ _ ?_
      rw [if_neg (by rw [left_sp hv.toVP]; omega)]; rfl
     ·refine hJ _ ?_
      rw [if_pos (by rw [left_sp hv.toVP]; omega)]
    ·refine hJ _ ?_
     rw [if_pos (by rw [left_sp hv.toVP]; omega)]
   ·rintro ⟨sl', is', wr⟩ hs
    simp only [Prod.mk.injEq] at hs
    obtain ⟨rfl, rfl, rfl⟩ := hs
    simp only [cv]
    rw [EI_ok ⟨Int.le_refl 0, by simp only; omega, by simp only [Int.toNat_zero, List.take_zero, List.foldl_nil, bind0]; rw [slots_sp hv.toVP, hsl, his]⟩]
 ·rintro ⟨sl, ps, i, bad⟩ ⟨h0, h1, hst⟩
  simp only at h0 h1 hst
  have hsll : sl.length = a1.length := by
   have := foldS_len a1 (a3.take i.toNat) (bind0 a1 ⟨a2, a3⟩)
   rw [← hst] at this
   simpa [bind0, slotsGo_len] using this
  obtain ⟨hps, hbd⟩ := foldS_ps a1 (a3.take i.toNat) (bind0 a1 ⟨a2, a3⟩)
  rw [← hst] at hps hbd
  have hb0 : (bind0 a1 ⟨a2, a3⟩).ps.length = 0 ∧ (bind0 a1 ⟨a2, a3⟩).bad.length ≤ 1 := by unfold bind0; simp only; split <;> simp
  have htk : (a3.take i.toNat).length ≤ 8 := by rw [List.length_take]; omega
  simp only at hps hbd
  simp only [spec_bound.b1, cn_ite]
  refine ln_ok fun hB => ?_
  refine ite_ok (fun h => ?_) (fun h => ?_)
  ·have hlt : i.toNat < a3.length := by omega
   obtain ⟨q, hq⟩ : ∃ q, a3[i.toNat]? = some q := ⟨_, List.getElem?_eq_getElem hlt⟩
   have hnext : (a3.take (i + 1).toNat).foldl (bindStep a1) (bind0 a1 ⟨a2, a3⟩) = bindStep a1 ⟨sl, ps, bad⟩ q := by
    rw [show (i + 1).toNat = i.toNat + 1 by omega, take_snoc hq, List.foldl_append, ← hst]; rfl
   refine lj_ok (fun s => (⟨s.1, s.2.1, s.2.2⟩ : BSt) = bindStep a1 ⟨sl, ps, bad⟩ q) (fun J hJ => ?_) ?_
   ·rw [ixPair_ok h0 hq]
    simp only [lv]
    refine ite_ok (fun c => ?_) (fun c => ?_)
    ·rw [gd_ok (by omega)]
     exact hJ _ (by simp [bindStep, c])
    ·obtain ⟨p, hp⟩ : ∃ p, a1[(takesV a1 q.name).toNat]? = some p := ⟨_, List.getElem?_eq_getElem (by have := @takes_lt a1 q.name; omega)⟩
     have hlt2 := (List.getElem?_eq_some_iff.1 hp).1
     obtain ⟨s0, hs0⟩ : ∃ s0, sl[(takesV a1 q.name).toNat]? = some s0 := ⟨_, List.getElem?_eq_getElem (by omega)⟩
     rw [ixParam_ok (by omega) hp]
     refine ite_ok (fun k => ?_) (fun k => ?_)
     ·have hm4 := takes_map (by omega) hp k
      rw [ia_ok (by omega), gd_ok hm4, rnSlot0_ok hs0, gd_ok (by omega), ia_ok (by omega), rnSlot0_ok hs0, gd_ok hm4]
      refine hJ _ ?_
      simp only [eta_Slot0, eta_Pair, set_self hs0]
      simp [bindStep, c, hp, k]
     ·have hne : (takesV a1 q.name).toNat ≠ mapIx a1 := fun e => by rw [e] at hp; exact k (mapIx_at hp)
      rw [ia_ok (by omega), rnSlot0_ok hs0]
      refine ite_ok (fun g => ?_) (fun g => ?_)
      ·rw [gd_ok (by omega)]
       exact hJ _ (by simp [bindStep, c, hp, k, hs0, g])
      ·rw [ia_ok (by omega), rnSlot0_ok hs0, gd_ok hne]
       exact hJ _ (by simp [bindStep, c, hp, k, hs0, g])
   ·rintro ⟨sl', ps', bad'⟩ hs
    simp only at hs
    rw [arr_ok (by omega), LI_ok ⟨⟨by simp only; omega, by simp only; omega, by simp only; rw [hnext]; exact hs⟩, by simp only; omega⟩]
  ·have hi : i = a3.length := by omega
   rw [take_len hi] at hst
   have eB : bindS a1 ⟨a2, a3⟩ = ⟨sl, ps, bad⟩ := hst.symm
   refine lj_ok (fun s => s = boundV a1 ⟨a2, a3⟩) (fun J hJ => ?_) (fun s hs => ?_)
   ·simp only [cv]
    exact hJ _ (by rw [boundV, eB])
   ·subst hs; rw [eB]
 ·simp only [spec_bound.f, lv, cv]
  rw [gd_ok hp1]
  have e0 : (List.replicate a1.length (⟨false⟩ : Slot00)).map up00 = slots0 a1.length (nPlaces a1) [] := by
   rw [List.map_replicate]
   refine List.ext_getElem? fun k => ?_
   rw [slots0_get, List.getElem?_replicate]
   split <;> simp [slot0At, up00]
  rw [e0, EI_ok ⟨placesN_eq a1, by trivial, Int.le_refl 0, by simp only; omega, by trivial, by simp [hole1]⟩]
end
end Go.Proofs.YtchpopejojghmaaGreatDoor.M
