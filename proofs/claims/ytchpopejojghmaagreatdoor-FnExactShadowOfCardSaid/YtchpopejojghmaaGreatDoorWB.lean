/- What a call gives to the parameters: the walk of the program. -/
import Derived.Test.YtchpopejojghmaaGreatDoorW2
import Derived.Test.YtchpopejojghmaaGreatDoorHO
set_option linter.unusedVariables false
set_option linter.unusedSimpArgs false
set_option linter.unusedSectionVars false
namespace Go.Proofs.YtchpopejojghmaaGreatDoor.M
open Go Go.Proofs
set_option maxRecDepth 100000
def on_LProb {R : Type} (v : (List Prob)) (f : (List Prob) → Option R) : Option R := f v
section
variable {A : Bx} {P : Program} {G : Glob} {rg : Option Nat} {own : Nat} {o : Nat → EObj} {g : FuncId} {vs : List C} {sh : Bool} {K : C → List (Nat × EObj) → Prop} {R : Type} {r : R} {V : Vx} {v : (List Prob)} {f : (List Prob) → Option R}
theorem s_cLProb (hV : IsV V) (hA : IsBx true rg P G A) (H : on_LProb v f = some r) (hok : FnOK P G g vs [] (.sl (v.map eProb)) [] sh) (hc : vs.all closedArg = true) (h : ∀ c0, f c0 = some r → K (.sl (V.rProb c0)) []) : A.call own o g vs K := by
 refine callT_plain hA hok hc ?_
 have := h (v) H
 simp only [hV.rProb] at this
 exact this
theorem s_wLProb (hA : IsBx true rg P G A) (H : on_LProb v f = some r) (hids : callIds vs = []) (h : ∀ U, U = callS P G own o g → closeVs o [] vs fun bs => U bs (vs.flatMap topRefs) K) : A.call own o g vs K := callT_sh hA hids h
variable {U : List C → List Nat → (C → List (Nat × EObj) → Prop) → Prop} {bs : List C} {tops : List Nat}
theorem s_tLProb (hU : U = callS P G own o g) (hV : IsV V) (H : on_LProb v f = some r) (hok : FnOK P G g bs [] (.sl (v.map eProb)) [] true) (hfr : topsF o [] tops) (h : ∀ c0, f c0 = some r → K (.sl (V.rProb c0)) (freezeE o tops ++ [])) : U bs tops K := by
 refine callS_of hU hok (fun i hi => (topsF_sound hfr i hi).2) ?_
 have := h (v) H
 simp only [hV.rProb] at this
 exact this
end
noncomputable def impl_bind.b2 (a1 : List Param) (a2 : List Int) (a3 : List Pair) (k2_ : Nat) (v1194 : Int) (h2 : ((List Slot) × Int × (List Prob)) → Option (Bind × (List Prob))) (z_ : Bind × (List Prob)) (x1195 : List Slot) (x1266 : Int) (x1267 : List Prob) : Option (Bind × (List Prob)) := (if x1266 < v1194 then (ixParam a1 x1266 fun v1375 v1376 v1377 v1378 => (ia x1195.length x1266 fun j1389 => (rnSlot x1195 j1389 fun v1390 v1391 v1392 => (on_LPair ((fun (l : List Pair) => l) v1392) fun v1393 => (ia x1195.length x1266 fun j1394 => (rnSlot x1195 j1394 fun v1395 v1396 v1397 => (lv (x1195.set j1394 ⟨v1395, v1396, v1393⟩) fun v1398 => (cn (singleP (⟨v1375, v1376, v1377, v1378⟩)) (cn v1377 (arr .i64 (x1266 + 1) fun v1399 => (h2 (v1398, v1399, x1267))) (ia v1398.length x1266 fun j1400 => (rnSlot v1398 j1400 fun v1401 v1402 v1403 => (cn v1401 (arr .i64 (x1266 + 1) fun v1404 => (h2 (v1398, v1404, x1267))) (gd ((x1267.length + 1) * 24 ≤ 140737488355328) (lv (x1267 ++ [⟨3, v1375⟩]) fun v1405 => (arr .i64 (x1266 + 1) fun v1406 => (h2 (v1398, v1406, v1405))))))))) (arr .i64 (x1266 + 1) fun v1407 => (h2 (v1398, v1407, x1267))))))))))) else (on_LProb ((fun (l : List Prob) => l) x1267) fun v1409 => (some (⟨x1195⟩, v1409))))
noncomputable def impl_bind.b1 (a1 : List Param) (a2 : List Int) (a3 : List Pair) (k2_ : Nat) (v781 : Int) (h1 : ((List Slot0) × (List Pair) × Int × (List Prob)) → Option (Bind × (List Prob))) (h2 : Int → ((List Slot) × Int × (List Prob)) → Option (Bind × (List Prob))) (z_ : Bind × (List Prob)) (x782 : List Slot0) (x783 : List Pair) (x840 : Int) (x841 : List Prob) : Option (Bind × (List Prob)) := (if x840 < v781 then (lj 3 (fun J3 => (ixPair a3 x840 fun v955 v956 => (lv ((fun (s : Sig) (n : Str) => takesV s.params n) (⟨a1⟩) v955) fun v957 => (if v957 < 0 then (gd ((x841.length + 1) * 24 ≤ 140737488355328) (lv (x841 ++ [⟨1, v955⟩]) fun v958 => (J3 (x782, x783, v958)))) else (ixParam a1 v957 fun v959 v960 v961 v962 => (if v960 = 4 then (ia x782.length v957 fun j963 => (gd (j963 = k2_) (rnSlot0 x782 j963 fun v964 v965 => (gd ((x783.length + 1) * 24 ≤ 140737488355328) (lv (x783 ++ [⟨v955, v956⟩]) fun v966 => (ia x782.length v957 fun j967 => (rnSlot0 x782 j967 fun v968 v969 => (gd (j967 = k2_) (lv (x782.set j967 ⟨v968, v969⟩) fun v970 => (J3 (v970, v966, x841))))))))))) else (ia x782.length v957 fun j971 => (rnSlot0 x782 j971 fun v972 v973 => (cn v972 (gd ((x841.length + 1) * 24 ≤ 140737488355328) (lv (x841 ++ [⟨2, v955⟩]) fun v974 => (J3 (x782, x783, v974)))) (ia x782.length v957 fun j975 => (rnSlot0 x782 j975 fun v976 v977 => (gd (j975 ≠ k2_) (lv (x782.set j975 ⟨true, [v956]⟩) fun v978 => (J3 (v978, x783, x841))))))))))))))) (fun (x950, x951, x952) => (arr .i64 (x840 + 1) fun v979 => (h1 (x950, x951, v979, x952))))) else (ln' z_ (a1.length) fun v1194 => (cv (upP x782 k2_ x783) fun v1410 => (h2 v1194 (v1410, 0, x841)))))
noncomputable def impl_bind.b0 (a1 : List Param) (a2 : List Int) (a3 : List Pair) (k2_ : Nat) (v296 : Int) (h0 : ((List Slot0) × (List Int) × Int) → Option (Bind × (List Prob))) (h1 : Int → ((List Slot0) × (List Pair) × Int × (List Prob)) → Option (Bind × (List Prob))) (z_ : Bind × (List Prob)) (x297 : List Slot0) (x392 : List Int) (x393 : Int) : Option (Bind × (List Prob)) := (if x393 < v296 then (ixParam a1 x393 fun v538 v539 v540 v541 => (lj 0 (fun J0 => (cn (placedP (⟨v538, v539, v540, v541⟩)) (ln' z_ (x392.length) fun v570 => (if 0 < v570 then (lj 1 (fun J1 => (ixI x392 0 fun v582 => (ia x297.length x393 fun j583 => (rnSlot0 x297 j583 fun v584 v585 => (lv (x297.set j583 ⟨true, [v582]⟩) fun v586 => (J1 v586)))))) (fun x581 => (gd (0 ≤ (1 : Int) ∧ 1 ≤ x392.length) (lv (x392.drop 1) fun v587 => (J0 (x581, v587)))))) else (J0 (x297, x392)))) (J0 (x297, x392)))) (fun (x568, x569) => (if v539 = 2 then (gd (x569.length * 8 ≤ 140737488355328) (on_LI ((fun (l : List Int) => l) x569) fun v593 => (ia x568.length x393 fun j594 => (rnSlot0 x568 j594 fun v595 v596 => (lv (x568.set j594 ⟨v595, v593⟩) fun v597 => (arr .i64 (x393 + 1) fun v598 => (h0 (v597, [], v598)))))))) else (arr .i64 (x393 + 1) fun v599 => (h0 (x568, x569, v599))))))) else (lj 2 (fun J2 => (ln' z_ (x392.length) fun v606 => (if 0 < v606 then (gd (1 * 24 ≤ 140737488355328) (lv ([⟨0, ([] : Str)⟩] : List Prob) fun v607 => (J2 (x297, v607)))) else (J2 (x297, []))))) (fun (x604, x605) => (ln' z_ (a3.length) fun v781 => (h1 v781 (x604, [], 0, x605))))))
noncomputable def impl_bind.f (a1 : List Param) (a2 : List Int) (a3 : List Pair) (k2_ : Nat) (h0 : Int → ((List Slot0) × (List Int) × Int) → Option (Bind × (List Prob))) (z_ : Bind × (List Prob)) : Option (Bind × (List Prob)) := (ln' z_ (a1.length) fun v7 => (gd (0 ≤ v7 ∧ v7.toNat * 56 ≤ 140737488355328) (lv (List.replicate v7.toNat ⟨false⟩) fun v8 => (ln' z_ (a1.length) fun v296 => (cv (v8.map up00) fun v1411 => (h0 v296 (v1411, a2, 0)))))))
theorem pin_impl_bind {e : ESt} {ns : List (Nat × Nat)} {ps : List (Nat × C)} {os : List (Nat × EObj)} (hs : pinPZ (pinZ e.o (os.map Prod.fst) ns) e.s ps := by first | (cbv <;> (repeat' (first | trivial | refine And.intro ?_ ?_)) <;> (first | rfl | assumption | omega | exact n00_0' hW (by assumption) | exact nL' hW (by assumption) | exact nP' hV hW (by assumption) | exact Eq.symm (by assumption) | exact clI hV _ | exact clPair hV _ | exact clParam hV _ | exact clProb hV _ | exact clSlot hV _ | with_unfolding_all exact hV.nI [] | with_unfolding_all exact (hV.nI []).symm | with_unfolding_all exact hV.nPair [] | with_unfolding_all exact (hV.nPair []).symm | with_unfolding_all exact hV.nParam [] | with_unfolding_all exact (hV.nParam []).symm | with_unfolding_all exact hV.nProb [] | with_unfolding_all exact (hV.nProb []).symm | with_unfolding_all exact hV.nSlot [] | with_unfolding_all exact (hV.nSlot []).symm | with_unfolding_all exact hV.rI _ | with_unfolding_all exact hV.rPair _ | with_unfolding_all exact hV.rParam _ | with_unfolding_all exact hV.rProb _ | with_unfolding_all exact hV.rSlot _ | with_unfolding_all exact (hV.nI _).trans (Eq.trans (by simp only [hV.nI] at *; omega) (hV.nI _).symm) | with_unfolding_all exact (hV.nPair _).trans (Eq.trans (by simp only [hV.nPair] at *; omega) (hV.nPair _).symm) | with_unfolding_all exact (hV.nParam _).trans (Eq.trans (by simp only [hV.nParam] at *; omega) (hV.nParam _).symm) | with_unfolding_all exact (hV.nProb _).trans (Eq.trans (by simp only [hV.nProb] at *; omega) (hV.nProb _).symm) | with_unfolding_all exact (hV.nSlot _).trans (Eq.trans (by simp only [hV.nSlot] at *; omega) (hV.nSlot _).symm) | simp [closedCell])) | fail) (ho : ∀ B : (Nat → EObj) → List (List C) → List (List C) → Prop, (∀ o rows rows', rowsZ (pinZ o (os.map Prod.fst) ns) rows rows' → B o rows rows') → pinOZ (pinZ e.o (os.map Prod.fst) ns) B e.o ns os := by intro B hB; first | (cbv <;> (repeat' (first | trivial | refine And.intro ?_ ?_ | exact pin_0 hB hV hW | refine pin_0Z hB hV hW (by assumption) (by assumption) ?_ | refine pin_h2Z hB hV hW (by assumption) (by assumption) (by assumption) ?_ ?_ | refine pin_h2 hB hV hW ?_ | refine pin_h1Z hB hV hW (by assumption) (by assumption) (by assumption) ?_ ?_ | refine pin_h1 hB hV hW ?_ | exact pin_00_0' hB hV hW (by assumption) | refine pin_00_h1' hB hV hW (by assumption) ?_ | refine pin_0_h2 hB hV hW ?_ | refine pin_h2_S' hB hV hW (by assumption) ?_ | refine pin_h1_h2' hB hV hW (by assumption) ?_ ?_ | refine pin_same hB ?_ | refine pin_nil hB ?_ | refine pin_dirty hB (by assumption) (by assumption) ?_ ?_ | exact pinL_n | refine pinL_c ?_ ?_ | exact pzr rfl rfl rfl (nrI hV _) (clI hV _) | exact pzr rfl rfl rfl (nrPair hV _) (clPair hV _) | exact pzr rfl rfl rfl (nrParam hV _) (clParam hV _) | exact pzr rfl rfl rfl (nrProb hV _) (clProb hV _) | exact pzr rfl rfl rfl (nrSlot hV _) (clSlot hV _) | (refine pz_go ?_; cbv) | (refine pinL_go ?_; cbv))) <;> (first | exact n00_0' hW (by assumption) | exact nL' hW (by assumption) | exact nP' hV hW (by assumption) | exact Eq.symm (by assumption) | exact clI hV _ | exact clPair hV _ | exact clParam hV _ | exact clProb hV _ | exact clSlot hV _ | with_unfolding_all exact hV.rI _ | with_unfolding_all exact hV.rPair _ | with_unfolding_all exact hV.rParam _ | with_unfolding_all exact hV.rProb _ | with_unfolding_all exact hV.rSlot _ | with_unfolding_all exact hV.nI [] | with_unfolding_all exact (hV.nI []).symm | with_unfolding_all exact hV.nPair [] | with_unfolding_all exact (hV.nPair []).symm | with_unfolding_all exact hV.nParam [] | with_unfolding_all exact (hV.nParam []).symm | with_unfolding_all exact hV.nProb [] | with_unfolding_all exact (hV.nProb []).symm | with_unfolding_all exact hV.nSlot [] | with_unfolding_all exact (hV.nSlot []).symm | assumption | omega | rfl | with_unfolding_all exact (hV.nI _).trans (Eq.trans (by simp only [hV.nI] at *; omega) (hV.nI _).symm) | with_unfolding_all exact (hV.nPair _).trans (Eq.trans (by simp only [hV.nPair] at *; omega) (hV.nPair _).symm) | with_unfolding_all exact (hV.nParam _).trans (Eq.trans (by simp only [hV.nParam] at *; omega) (hV.nParam _).symm) | with_unfolding_all exact (hV.nProb _).trans (Eq.trans (by simp only [hV.nProb] at *; omega) (hV.nProb _).symm) | with_unfolding_all exact (hV.nSlot _).trans (Eq.trans (by simp only [hV.nSlot] at *; omega) (hV.nSlot _).symm) | simp [closedCell])) | fail) : PinnedZ e ns ps os := ⟨hs, ho⟩
section
variable {G : Glob} (hm : Hm) (hz : Hz) (hG : GF G)
include hm hz hG
set_option maxHeartbeats 8000000 in
theorem impl_bind.w {a1 : List Param} {a2 : List Int} {a3 : List Pair} {k2_ : Nat} (inv0 : Int → ((List Slot0) × (List Int) × Int) → Prop) (mu0 : Int → ((List Slot0) × (List Int) × Int) → Nat) (res0 : Int → ((List Slot0) × (List Int) × Int) → Bind × (List Prob)) (inv1 : Int → ((List Slot0) × (List Pair) × Int × (List Prob)) → Prop) (mu1 : Int → ((List Slot0) × (List Pair) × Int × (List Prob)) → Nat) (res1 : Int → ((List Slot0) × (List Pair) × Int × (List Prob)) → Bind × (List Prob)) (inv2 : Int → ((List Slot) × Int × (List Prob)) → Prop) (mu2 : Int → ((List Slot) × Int × (List Prob)) → Nat) (res2 : Int → ((List Slot) × Int × (List Prob)) → Bind × (List Prob)) (hb0 : ∀ (v296 : Int), ∀ (s_ : (List Slot0) × (List Int) × Int), inv0 v296 s_ → impl_bind.b0 a1 a2 a3 k2_ v296 (LI (inv0 v296) (mu0 v296) (res0 v296) (mu0 v296 s_)) (fun v781 => EI (inv1 v781) (mu1 v781) (res1 v781)) (res0 v296 s_) s_.1 s_.2.1 s_.2.2 = some (res0 v296 s_)) (hb1 : ∀ (v781 : Int), ∀ (s_ : (List Slot0) × (List Pair) × Int × (List Prob)), inv1 v781 s_ → impl_bind.b1 a1 a2 a3 k2_ v781 (LI (inv1 v781) (mu1 v781) (res1 v781) (mu1 v781 s_)) (fun v1194 => EI (inv2 v1194) (mu2 v1194) (res2 v1194)) (res1 v781 s_) s_.1 s_.2.1 s_.2.2.1 s_.2.2.2 = some (res1 v781 s_)) (hb2 : ∀ (v1194 : Int), ∀ (s_ : (List Slot) × Int × (List Prob)), inv2 v1194 s_ → impl_bind.b2 a1 a2 a3 k2_ v1194 (LI (inv2 v1194) (mu2 v1194) (res2 v1194) (mu2 v1194 s_)) (res2 v1194 s_) s_.1 s_.2.1 s_.2.2 = some (res2 v1194 s_)) {r : Bind × (List Prob)} (H : impl_bind.f a1 a2 a3 k2_ (fun v296 => EI (inv0 v296) (mu0 v296) (res0 v296)) r = some r) : FnOK pg G 83 [.agg [.sl (a1.map eParam)], .agg [.sl (a2.map eI), .sl (a3.map ePair)]] [] (.tup [.agg [.sl ((r.1.slots).map eSlot)], .sl ((r.2).map eProb)]) [] true := by
 obtain ⟨V, hV⟩ := exV
 obtain ⟨W, hW⟩ := exW
 have e0_I : V.rI [] = [] := hV.rI []
 have e1_I : ∀ x r, V.rI (x :: r) = eI x :: V.rI r := fun x r => by rw [hV.rI, hV.rI]; rfl
 have e0_Pair : V.rPair [] = [] := hV.rPair []
 have e1_Pair : ∀ x r, V.rPair (x :: r) = ePair x :: V.rPair r := fun x r => by rw [hV.rPair, hV.rPair]; rfl
 have e0_Param : V.rParam [] = [] := hV.rParam []
 have e1_Param : ∀ x r, V.rParam (x :: r) = eParam x :: V.rParam r := fun x r => by rw [hV.rParam, hV.rParam]; rfl
 have e0_Prob : V.rProb [] = [] := hV.rProb []
 have e1_Prob : ∀ x r, V.rProb (x :: r) = eProb x :: V.rProb r := fun x r => by rw [hV.rProb, hV.rProb]; rfl
 have e0_Slot : V.rSlot [] = [] := hV.rSlot []
 simp only [← hV.rI, ← hV.rPair, ← hV.rParam, ← hV.rProb, ← hV.rSlot]
 refine fn_okS (tt0 := tyG [ty3, ty4, ty9, ty27, ty29, ty39, ty45, ty47, ty51, ty53, ty65, ty98, ty102, ty136, ty146]) (fn := Tryz.f83) (body := bodyOf Tryz.f83) (ext := []) hm (tyG_sub ⟨tt3, tt4, tt9, tt27, tt29, tt39, tt45, tt47, tt51, tt53, tt65, tt98, tt102, tt136, tt146, trivial⟩) hz 0 [10, 9, 16, 27] (by unfold pg; exact Tryz.func83) rfl rfl (by simp [Tryz.f83]) (by simp [EObj.toObj]) (by cbv) ?_
 intro A F hA hF
 unfold impl_bind.f at H
 cbv
 repeat' (first
  | (with_reducible refine s_cv H (fun _ hx_ H => ?_))
  | with_reducible first
   | (refine s_rnh1m hV hW H (fun _ _ hm_ H => ?_); cbv)
   | (refine s_rnh2m hV hW H (fun _ _ hm_ H => ?_); cbv)
   | (refine s_rnh1 hV hW H (fun _ _ _ H => ?_); cbv)
   | (refine s_rnh2 hV hW H (fun _ _ _ H => ?_); cbv)
   | (refine s_rnSlot0 hV hW H (fun _ _ H => ?_); cbv)
   | (refine s_seth1m hV hW H (fun _ hs_ H => ?_); cbv)
   | (refine s_seth2m hV hW H (fun _ hs_ H => ?_); cbv)
   | (refine s_seth1Z hV hW H (fun _ hs_ H hj_ hx_ zs_ hd_ => ?_); cbv)
   | (refine s_seth2Z hV hW H (fun _ hs_ H hj_ hx_ zs_ hd_ => ?_); cbv)
   | (refine s_setSlot0 hV hW H (fun _ hs_ H => ?_); cbv)
   | (refine s_setZSlot0 hV hW H (fun _ hs_ H hx_ zs_ hd_ => ?_); cbv)
   | (refine s_mkSlot00 hW H (fun _ H => ?_); cbv)
   | (refine s_ia H (by first | exact hW.nSlot0 _ | exact lenh1 hW | exact lenh2 hW | exact len0 hW) (fun _ H => ?_); cbv)
  | ((with_reducible refine side ?_); first | exact wh1 hW | exact wh2 hW | exact wSlot0 hW | (simp only [lenh1 hW, lenh2 hW, len0 hW, hW.nSlot0] at *; omega))
  | (with_reducible refine s_gd H (fun hg H => ?_))
  | (cases H; (try simp only [e0_I, e0_Pair, e0_Param, e0_Prob, e0_Slot, e1_I, eI, e1_Pair, ePair, e1_Param, eParam, e1_Prob, eProb] at hF); with_reducible refine fin_close hF rfl (by simp [expIds, posCells, C.cells, idOf]) ?_; cbv)
  | ((with_reducible first | refine s_lt H ?_ ?_ | refine s_le H ?_ ?_ | refine s_eq H ?_ ?_ | refine s_ne H ?_ ?_) <;> intro H <;> cbv)
  | with_reducible first
   | (refine s_ln H lnOf (fun _ H => ?_); cbv)
   | (refine s_ixI hV H (fun _ H => ?_); cbv)
   | (refine s_ixPair hV H (fun _ _ H => ?_); cbv)
   | (refine s_ixParam hV H (fun _ _ _ _ H => ?_); cbv)
   | (refine s_rnSlot hV H (fun _ _ _ H => ?_); cbv)
   | (refine s_ia H lnOf (fun _ H => ?_); cbv)
   | (refine s_ar H (fun _ H => ?_); cbv)
   | (refine s_setI hV H (fun _ hs_ H => ?_); cbv)
   | (refine s_apI hV H (fun _ H => ?_); cbv)
   | (refine s_apL hV.rI hV.nI H (fun _ H => ?_); cbv)
   | (refine s_bnI hV H (fun _ H => ?_); cbv)
   | (refine s_drL hV.rI H (fun _ H => ?_); cbv)
   | (refine s_drLn hV.rI (by with_unfolding_all rfl) H (fun _ H => ?_); cbv)
   | (refine s_mkL hV.rI hV.nI (by cbv) H (fun _ H => ?_); cbv)
   | (refine s_setPair hV H (fun _ hs_ H => ?_); cbv)
   | (refine s_apPair hV H (fun _ H => ?_); cbv)
   | (refine s_apL hV.rPair hV.nPair H (fun _ H => ?_); cbv)
   | (refine s_bnPair hV H (fun _ H => ?_); cbv)
   | (refine s_drL hV.rPair H (fun _ H => ?_); cbv)
   | (refine s_drLn hV.rPair (by with_unfolding_all rfl) H (fun _ H => ?_); cbv)
   | (refine s_mkL hV.rPair hV.nPair (by cbv) H (fun _ H => ?_); cbv)
   | (refine s_setParam hV H (fun _ hs_ H => ?_); cbv)
   | (refine s_apParam hV H (fun _ H => ?_); cbv)
   | (refine s_apL hV.rParam hV.nParam H (fun _ H => ?_); cbv)
   | (refine s_bnParam hV H (fun _ H => ?_); cbv)
   | (refine s_drL hV.rParam H (fun _ H => ?_); cbv)
   | (refine s_drLn hV.rParam (by with_unfolding_all rfl) H (fun _ H => ?_); cbv)
   | (refine s_mkL hV.rParam hV.nParam (by cbv) H (fun _ H => ?_); cbv)
   | (refine s_setProb hV H (fun _ hs_ H => ?_); cbv)
   | (refine s_apProb hV H (fun _ H => ?_); cbv)
   | (refine s_apL hV.rProb hV.nProb H (fun _ H => ?_); cbv)
   | (refine s_bnProb hV H (fun _ H => ?_); cbv)
   | (refine s_drL hV.rProb H (fun _ H => ?_); cbv)
   | (refine s_drLn hV.rProb (by with_unfolding_all rfl) H (fun _ H => ?_); cbv)
   | (refine s_mkL hV.rProb hV.nProb (by cbv) H (fun _ H => ?_); cbv)
   | (refine s_setSlot hV H (fun _ hs_ H => ?_); cbv)
   | (refine s_setZSlot hV H (fun _ hs_ H hk_ zs_ hd_ => ?_); cbv)
   | (refine s_apSlot hV H (fun _ H => ?_); cbv)
   | (refine s_apL hV.rSlot hV.nSlot H (fun _ H => ?_); cbv)
   | (refine s_apZSlot hV H (fun _ _ H hk_ zs_ hd_ => ?_); cbv)
   | (refine s_bnZSlot hV H (fun _ _ H hk_ zs_ hd_ => ?_); cbv)
   | (refine s_a0ZSlot hV H (fun _ _ H hk_ zs_ hd_ => ?_); cbv)
   | (refine s_bnSlot hV H (fun _ H => ?_); cbv)
   | (refine s_drL hV.rSlot H (fun _ H => ?_); cbv)
   | (refine s_drLn hV.rSlot (by with_unfolding_all rfl) H (fun _ H => ?_); cbv)
   | (refine s_mkL hV.rSlot hV.nSlot (by cbv) H (fun _ H => ?_); cbv)
   | (refine s_lv H (fun _ H => ?_); cbv)
   | (refine s_lvn (by with_unfolding_all rfl) H (fun _ H => ?_); cbv)
   | (refine s_loop hA H (fun s h => hb0 _ s h) [2, 3, 4, 6, 7, 24, 25] [128, 192, 256] (fun e s => [(8, .sl (V.rI (s.2.1))), (26, .int .i64 (s.2.2))]) (fun e s => [ovO e 384 [(0, .ref 1216 0 3 0 (W.nSlot0 (s.1)))], (1216, ⟨0, true, 3, .many (W.rSlot0 (s.1))⟩)]) [] pin_impl_bind nbOf ?_; rintro ⟨x297, x392, x393⟩ H; unfold impl_bind.b0 at H; (try dsimp only at H); cbv)
   | (refine s_loop hA H (fun s h => hb1 _ s h) [2, 68, 4, 6, 69] [128, 256] (fun e s => [(70, .int .i64 (s.2.2.1)), (7, .ref 4224 0 2 0 (V.nProb (s.2.2.2)))]) (fun e s => [(4224, ⟨0, true, 2, .many (V.rProb (s.2.2.2))⟩), ovO e 384 [(0, .ref 1216 0 3 0 (W.nSlot0 (s.1)))], (1216, ⟨0, true, 3, .many (W.h2 (s.1) k2_ (.ref 7296 0 2 0 (V.nPair (s.2.1))))⟩), (7296, ⟨0, true, 2, .many (V.rPair (s.2.1))⟩)]) [(7296, 2)] pin_impl_bind nbOf ?_; rintro ⟨x782, x783, x840, x841⟩ H; unfold impl_bind.b1 at H; (try dsimp only at H); cbv)
   | (refine s_loop hA H (fun s h => hb2 _ s h) [132, 6, 4, 133] [256] (fun e s => [(7, .ref 4224 0 2 0 (V.nProb (s.2.2))), (134, .int .i64 (s.2.1))]) (fun e s => [(4224, ⟨0, true, 2, .many (V.rProb (s.2.2))⟩), ovO e 384 [(0, .ref 1216 0 3 0 (V.nSlot (s.1)))], (1216, ⟨0, true, 3, .many (V.rSlot (s.1))⟩)]) [] pin_impl_bind nbOf ?_; rintro ⟨x1195, x1266, x1267⟩ H; unfold impl_bind.b2 at H; (try dsimp only at H); cbv)
  | (with_reducible refine s_next H pin_impl_bind nbOf)
  | (with_reducible refine s_joint 0 hA H [2, 3, 4, 6, 7, 9, 10, 24, 25, 26] [128, 192, 256, 640] (fun e s => [(8, .sl (V.rI (s.2)))]) (fun e s => [ovO e 384 [(0, .ref 1216 0 3 0 (W.nSlot0 (s.1)))], (1216, ⟨0, true, 3, .many (W.rSlot0 (s.1))⟩)]) (fun J0 H => ?_) ?_; rotate_left; (rintro ⟨x568, x569⟩ H; (try dsimp only at H); cbv); rotate_left; cbv)
  | (with_reducible refine s_meet H [] pin_impl_bind nbOf)
  | (with_reducible refine s_joint 1 hA H [2, 3, 4, 6, 7, 8, 9, 10, 24, 25, 26] [128, 192, 256, 640] (fun e s => []) (fun e s => [ovO e 384 [(0, .ref 1216 0 3 0 (W.nSlot0 s))], (1216, ⟨0, true, 3, .many (W.rSlot0 s)⟩)]) (fun J1 H => ?_) ?_; rotate_left; (rintro x581 H; (try dsimp only at H); cbv); rotate_left; cbv)
  | (with_reducible refine s_meet H [] pin_impl_bind nbOf)
  | (with_reducible refine s_joint 2 hA H [2, 3, 4, 6] [128, 192, 256] (fun e s => [(7, .ref 4224 0 2 0 (V.nProb (s.2)))]) (fun e s => [ovO e 384 [(0, .ref 1216 0 3 0 (W.nSlot0 (s.1)))], (4224, ⟨0, true, 2, .many (V.rProb (s.2))⟩), (1216, ⟨0, true, 3, .many (W.rSlot0 (s.1))⟩)]) (fun J2 H => ?_) ?_; rotate_left; (rintro ⟨x604, x605⟩ H; (try dsimp only at H); cbv); rotate_left; cbv)
  | (with_reducible refine s_meet H [] pin_impl_bind nbOf)
  | (with_reducible refine s_meet H [(4224, 2)] pin_impl_bind nbOf)
  | (with_reducible refine s_joint 3 hA H [2, 68, 4, 6, 69, 70] [128, 256] (fun e s => [(7, .ref 4224 0 2 0 (V.nProb (s.2.2)))]) (fun e s => [ovO e 384 [(0, .ref 1216 0 3 0 (W.nSlot0 (s.1)))], (4224, ⟨0, true, 2, .many (V.rProb (s.2.2))⟩), (1216, ⟨0, true, 3, .many (W.h2 (s.1) k2_ (.ref 7296 0 2 0 (V.nPair (s.2.1))))⟩), (7296, ⟨0, true, 2, .many (V.rPair (s.2.1))⟩)]) (fun J3 H => ?_) ?_; rotate_left; (rintro ⟨x950, x951, x952⟩ H; (try dsimp only at H); cbv); rotate_left; cbv)
  | (with_reducible refine s_meet H [] pin_impl_bind nbOf)
  | with_reducible first
   | (refine s_cb hA H (by (try simp only [hV.rI, hV.rPair, hV.rParam, hV.rProb, hV.rSlot]); with_unfolding_all exact impl_Param_placed.ok hm hz hG) rfl (fun H => ?_) (fun H => ?_) <;> cbv)
   | (refine s_cLI hV hA H (by (try simp only [hV.rI, hV.rPair, hV.rParam, hV.rProb, hV.rSlot]); (first | (have hk_ := impl_clone_int.ok hm hz hG hg; with_unfolding_all exact hk_) | (with_unfolding_all exact impl_clone_int.ok hm hz hG (by first | assumption | omega)))) rfl (fun _ H => ?_); cbv)
   | (refine s_ci hA H (by (try simp only [hV.rI, hV.rPair, hV.rParam, hV.rProb, hV.rSlot]); with_unfolding_all exact impl_Signature_takes.ok hm hz hG) rfl (fun _ H => ?_); cbv)
   | (refine s_cLPair hV hA H (by (try simp only [hV.rI, hV.rPair, hV.rParam, hV.rProb, hV.rSlot]); with_unfolding_all exact slices_Clip_Pair.ok hm hz hG) rfl (fun _ H => ?_); cbv)
   | (refine s_cb hA H (by (try simp only [hV.rI, hV.rPair, hV.rParam, hV.rProb, hV.rSlot]); with_unfolding_all exact impl_Param_single.ok hm hz hG) rfl (fun H => ?_) (fun H => ?_) <;> cbv)
   | (refine s_cLProb hV hA H (by (try simp only [hV.rI, hV.rPair, hV.rParam, hV.rProb, hV.rSlot]); with_unfolding_all exact slices_Clip_Problem.ok hm hz hG) rfl (fun _ H => ?_); cbv)
   | (refine s_tLProb (by assumption) hV H (by (try simp only [hV.rI, hV.rPair, hV.rParam, hV.rProb, hV.rSlot]); with_unfolding_all exact slices_Clip_Problem.ok hm hz hG) (by first | (cbv <;> (repeat' (first | trivial | refine And.intro ?_ ?_)) <;> (first | rfl | exact clI hV _ | with_unfolding_all exact clPair hV _ | with_unfolding_all exact clParam hV _ | with_unfolding_all exact clProb hV _ | with_unfolding_all exact clSlot hV _ | simp [closedCell])) | fail) (fun _ H => ?_); cbv)
   | (refine s_wLProb (g := 134) hA H rfl (fun U hU => ?_); cbv)
   | (refine indep_of hA ?_; cbv)
  | ((with_reducible refine side ?_); exact sideOf)
  | with_reducible first
   | (refine s_tkG hV.rI hV.nI ?_; cbv)
   | (refine s_tkG hV.rPair hV.nPair ?_; cbv)
   | (refine s_tkG hV.rParam hV.nParam ?_; cbv)
   | (refine s_tkG hV.rProb hV.nProb ?_; cbv)
   | (refine s_tkG hV.rSlot hV.nSlot ?_; cbv)
   | (refine s_tkP hV.rI ?_; cbv)
   | (refine s_drP hV.rI hV.nI ?_; cbv)
   | (refine s_tkP hV.rPair ?_; cbv)
   | (refine s_drP hV.rPair hV.nPair ?_; cbv)
   | (refine s_tkP hV.rParam ?_; cbv)
   | (refine s_drP hV.rParam hV.nParam ?_; cbv)
   | (refine s_tkP hV.rProb ?_; cbv)
   | (refine s_drP hV.rProb hV.nProb ?_; cbv)
   | (refine s_tkP hV.rSlot ?_; cbv)
   | (refine s_drP hV.rSlot hV.nSlot ?_; cbv)
   | (refine s_eqn ?_; cbv)
   | (refine s_eqn2 ?_; cbv)
   | (refine s_tk1 ?_; cbv)
  | (with_reducible refine And.intro ?_ ?_)
  | ((with_reducible refine s_cn H (fun hb H => ?_) (fun hb H => ?_)) <;> (revert H; subst hb; intro H; cbv))
  | (intro ys hys; subst hys; rfl)
  | rfl)
theorem impl_bind.ok {a1 : List Param} {a2 : List Int} {a3 : List Pair} (hp : a1.length ≤ 8 ∧ a2.length ≤ 8 ∧ a3.length ≤ 8) : FnOK pg G 83 [.agg [.sl (a1.map eParam)], .agg [.sl (a2.map eI), .sl (a3.map ePair)]] [] (.tup [.agg [.sl ((((fun (s : Sig) (f : Flat) => ((⟨boundV s.params f⟩ : Bind), wrongV s.params f)) ⟨a1⟩ ⟨a2, a3⟩).1.slots).map eSlot)], .sl ((((fun (s : Sig) (f : Flat) => ((⟨boundV s.params f⟩ : Bind), wrongV s.params f)) ⟨a1⟩ ⟨a2, a3⟩).2).map eProb)]) [] true := by
 obtain ⟨hp1, hp2, hp3⟩ := hp
 refine @impl_bind.w G hm hz hG a1 a2 a3 (mapIx a1)
  (fun v s => v = a1.length ∧ 0 ≤ s.2.2 ∧ s.2.2 ≤ a1.length ∧ s.2.1.length ≤ 8 ∧ ∃ done : List Slot0, done.length = s.2.2.toNat ∧ s.1 = done ++ List.replicate (a1.length - s.2.2.toNat) ⟨false, []⟩ ∧ slotsGo a1 a2 = done ++ slotsGo (a1.drop s.2.2.toNat) s.2.1 ∧ leftGo a1 a2 = leftGo (a1.drop s.2.2.toNat) s.2.1)
  (fun _ s => a1.length - s.2.2.toNat) (fun _ _ => ((⟨boundV a1 ⟨a2, a3⟩⟩ : Bind), wrongV a1 ⟨a2, a3⟩))
  (fun v s => v = a3.length ∧ 0 ≤ s.2.2.1 ∧ s.2.2.1 ≤ a3.length ∧ (⟨s.1, s.2.1, s.2.2.2⟩ : BSt) = (a3.take s.2.2.1.toNat).foldl (bindStep a1) (bind0 a1 ⟨a2, a3⟩))
  (fun _ s => a3.length - s.2.2.1.toNat) (fun _ _ => ((⟨boundV a1 ⟨a2, a3⟩⟩ : Bind), wrongV a1 ⟨a2, a3⟩))
  (fun v s => v = a1.length ∧ 0 ≤ s.2.1 ∧ s.2.1 ≤ a1.length ∧ s.1 = boundV a1 ⟨a2, a3⟩ ∧ s.2.2.length ≤ 9 + s.2.1.toNat ∧ s.2.2 ++ missGo (a1.drop s.2.1.toNat) (s.1.drop s.2.1.toNat) = wrongV a1 ⟨a2, a3⟩)
  (fun _ s => a1.length - s.2.1.toNat) (fun _ _ => ((⟨boundV a1 ⟨a2, a3⟩⟩ : Bind), wrongV a1 ⟨a2, a3⟩)) ?_ ?_ ?_ _ ?_
 ·rintro v ⟨sl, left, i⟩ ⟨hv, h0, h1, hl8, done, hd, hsl, hgo, hlf⟩
  simp only at h0 h1 hl8 hd hsl hgo hlf
  have hsll : sl.length = a1.length := by rw [hsl, List.length_append, List.length_replicate, hd]; omega
  simp only [impl_bind.b0, cn_ite]
  refine ite_ok (fun h => ?_) (fun h => ?_)
  ·have hlt : i.toNat < a1.length := by omega
   obtain ⟨p, hp⟩ : ∃ p, a1[i.toNat]? = some p := ⟨_, List.getElem?_eq_getElem hlt⟩
   have hdr : a1.drop i.toNat = p :: a1.drop (i + 1).toNat := by
    obtain ⟨_, e⟩ := List.getElem?_eq_some_iff.1 hp
    rw [List.drop_eq_getElem_cons hlt, e, show (i + 1).toNat = i.toNat + 1 by omega]
   have hrep : List.replicate (a1.length - i.toNat) (⟨false, []⟩ : Slot0) = ⟨false, []⟩ :: List.replicate (a1.length - (i + 1).toNat) ⟨false, []⟩ := by
    rw [show a1.length - i.toNat = (a1.length - (i + 1).toNat) + 1 by omega, List.replicate_succ]
   rw [hrep] at hsl
   have hat : sl[i.toNat]? = some ⟨false, []⟩ := by rw [hsl, List.getElem?_append_right (by omega), hd, Nat.sub_self]; rfl
   have hset : ∀ x : Slot0, sl.set i.toNat x = (done ++ [x]) ++ List.replicate (a1.length - (i + 1).toNat) ⟨false, []⟩ := fun x => by
    rw [hsl, List.set_append_right _ _ (by omega), hd, Nat.sub_self, List.set_cons_zero]; simp
   rw [hdr, slotsGo_cons] at hgo
   rw [hdr, leftGo] at hlf
   have fin : ∀ (x : Slot0) (sl' : List Slot0) (left' : List Int), sl' = sl.set i.toNat x → left'.length ≤ 8 → slotsGo a1 a2 = done ++ x :: slotsGo (a1.drop (i + 1).toNat) left' → leftGo a1 a2 = leftGo (a1.drop (i + 1).toNat) left' →
     (arr .i64 (i + 1) fun u => LI (fun s : List Slot0 × List Int × Int => v = a1.length ∧ 0 ≤ s.2.2 ∧ s.2.2 ≤ a1.length ∧ s.2.1.length ≤ 8 ∧ ∃ done : List Slot0, done.length = s.2.2.toNat ∧ s.1 = done ++ List.replicate (a1.length - s.2.2.toNat) ⟨false, []⟩ ∧ slotsGo a1 a2 = done ++ slotsGo (a1.drop s.2.2.toNat) s.2.1 ∧ leftGo a1 a2 = leftGo (a1.drop s.2.2.toNat) s.2.1) (fun s => a1.length - s.2.2.toNat) (fun _ => ((⟨boundV a1 ⟨a2, a3⟩⟩ : Bind), wrongV a1 ⟨a2, a3⟩)) (a1.length - i.toNat) (sl', left', u)) = some ((⟨boundV a1 ⟨a2, a3⟩⟩ : Bind), wrongV a1 ⟨a2, a3⟩) := by
    rintro x sl' left' rfl h8 e1 e2
    rw [arr_ok (by omega), LI_ok ⟨⟨hv, by simp only; omega, by simp only; omega, h8, done ++ [x], by simp only [List.length_append, List.length_cons, List.length_nil]; omega, hset x, by rw [e1]; simp, e2⟩, by simp only; omega⟩]
   rw [ixParam_ok h0 hp]
   refine lj_ok (fun s => (placedP p = true ∧ (match left with | [] => s = (sl, []) | y :: t => s = (sl.set i.toNat ⟨true, [y]⟩, t))) ∨ (placedP p = false ∧ s = (sl, left))) (fun J hJ => ?_) ?_
   ·refine ite_ok (fun c => ?_) (fun c => hJ _ (.inr ⟨Bool.eq_false_iff.2 c, rfl⟩))
    refine ln_ok fun hB => ?_
    cases left with
    | nil => rw [if_neg (by simp)]; exact hJ _ (.inl ⟨c, rfl⟩)
    | cons y t =>
     rw [if_pos (by simp)]
     refine lj_ok (fun s => s = sl.set i.toNat ⟨true, [y]⟩) (fun J2 hJ2 => ?_) fun s hs => ?_
     ·rw [ixI_ok (x := y) (by decide) rfl, ia_ok (by omega), rnSlot0_ok hat]
      exact hJ2 _ rfl
     ·subst hs
      rw [gd_ok (by simp)]
      exact hJ _ (.inl ⟨c, rfl⟩)
   ·rintro ⟨sl', left'⟩ hs
    simp only
    rcases hs with ⟨hpl, hs⟩ | ⟨hpl, hs⟩
    ·have k2 : ¬ p.kind = 2 := by simp only [placedP, Bool.or_eq_true, decide_eq_true_eq] at hpl; omega
     rw [if_neg k2]
     rw [if_pos hpl] at hgo hlf
     cases left with
     | nil =>
      simp only [Prod.mk.injEq] at hs
      obtain ⟨rfl, rfl⟩ := hs
      exact fin _ _ _ (set_self hat).symm hl8 hgo hlf
     | cons y t =>
      simp only [Prod.mk.injEq] at hs
      obtain ⟨rfl, rfl⟩ := hs
      exact fin _ _ _ rfl (by simp at hl8; omega) hgo hlf
    ·simp only [Prod.mk.injEq] at hs
     obtain ⟨rfl, rfl⟩ := hs
     have hpl' : ¬ placedP p = true := by rw [hpl]; simp
     rw [if_neg hpl'] at hgo hlf
     refine ite_ok (fun k => ?_) (fun k => ?_)
     ·rw [if_pos k] at hgo hlf
      rw [gd_ok (by omega)]
      simp only [on_LI]
      rw [ia_ok (by omega), rnSlot0_ok hat]
      exact fin _ _ _ rfl (by simp) hgo hlf
     ·rw [if_neg k] at hgo hlf
      exact fin _ _ _ (set_self hat).symm hl8 hgo hlf
  ·have hi : i = a1.length := by omega
   have hdn : a1.drop i.toNat = [] := List.drop_eq_nil_of_le (by omega)
   rw [hdn] at hgo hlf
   have e1 : slotsGo a1 a2 = sl := by rw [hgo, hsl, show a1.length - i.toNat = 0 by omega]; simp [slotsGo]
   have e2 : leftGo a1 a2 = left := by rw [hlf, leftGo]
   refine lj_ok (fun s => s = (sl, if left = [] then [] else [⟨0, []⟩])) (fun J hJ => ?_) ?_
   ·refine ln_ok fun hB => ?_
    cases left with
    | nil => rw [if_neg (by simp)]; exact hJ _ rfl
    | cons y t =>
     rw [if_pos (by simp), gd_ok (by omega)]
     exact hJ _ rfl
   ·rintro ⟨sl', wr⟩ hs
    simp only [Prod.mk.injEq] at hs
    obtain ⟨rfl, rfl⟩ := hs
    refine ln_ok fun hB => ?_
    rw [EI_ok ⟨rfl, Int.le_refl 0, by simp only; omega, by simp [bind0, e1, e2]⟩]
 ·rintro v ⟨sl, ps, i, bad⟩ ⟨hv, h0, h1, hst⟩
  simp only at h0 h1 hst
  have hsll : sl.length = a1.length := by
   have := foldS_len a1 (a3.take i.toNat) (bind0 a1 ⟨a2, a3⟩)
   rw [← hst] at this
   simpa [bind0, slotsGo_len] using this
  obtain ⟨hps, hbd⟩ := foldS_ps a1 (a3.take i.toNat) (bind0 a1 ⟨a2, a3⟩)
  rw [← hst] at hps hbd
  have hb0 : (bind0 a1 ⟨a2, a3⟩).ps.length = 0 ∧ (bind0 a1 ⟨a2, a3⟩).bad.length ≤ 1 := by unfold bind0; simp only; split <;> simp
  have htk : (a3.take i.toNat).length ≤ 8 := by rw [List.length_take]; omega
  simp only at hps hbd
  simp only [impl_bind.b1, cn_ite]
  refine ite_ok (fun h => ?_) (fun h => ?_)
  ·have hlt : i.toNat < a3.length := by omega
   obtain ⟨q, hq⟩ : ∃ q, a3[i.toNat]? = some q := ⟨_, List.getElem?_eq_getElem hlt⟩
   have hnext : (a3.take (i + 1).toNat).foldl (bindStep a1) (bind0 a1 ⟨a2, a3⟩) = bindStep a1 ⟨sl, ps, bad⟩ q := by
    rw [show (i + 1).toNat = i.toNat + 1 by omega, take_snoc hq, List.foldl_append, ← hst]; rfl
   refine lj_ok (fun s => (⟨s.1, s.2.1, s.2.2⟩ : BSt) = bindStep a1 ⟨sl, ps, bad⟩ q) (fun J hJ => ?_) ?_
   ·rw [ixPair_ok h0 hq]
    simp only [lv, eta_Pair]
    refine ite_ok (fun c => ?_) (fun c => ?_)
    ·rw [gd_ok (by omega)]
     exact hJ _ (by simp [bindStep, c])
    ·obtain ⟨p, hp⟩ : ∃ p, a1[(takesV a1 q.name).toNat]? = some p := ⟨_, List.getElem?_eq_getElem (by have := @takes_lt a1 q.name; omega)⟩
     have hlt2 := (List.getElem?_eq_some_iff.1 hp).1
     obtain ⟨s0, hs0⟩ : ∃ s0, sl[(takesV a1 q.name).toNat]? = some s0 := ⟨_, List.getElem?_eq_getElem (by omega)⟩
     rw [ixParam_ok (by omega) hp]
     refine ite_ok (fun k => ?_) (fun k => ?_)
     ·have hm4 := takes_map (by omega) hp k
      rw [ia_ok (by omega), gd_ok hm4, rnSlot0_ok hs0, gd_ok (by omega), ia_ok (by omega), rnSlot0_ok hs0, gd_ok hm4]
      refine hJ _ ?_
      simp only [eta_Slot0, set_self hs0]
      simp [bindStep, c, hp, k]
     ·have hne : (takesV a1 q.name).toNat ≠ mapIx a1 := fun e => by rw [e] at hp; exact k (mapIx_at hp)
      rw [ia_ok (by omega), rnSlot0_ok hs0]
      refine ite_ok (fun g => ?_) (fun g => ?_)
      ·rw [gd_ok (by omega)]
       exact hJ _ (by simp [bindStep, c, hp, k, hs0, g])
      ·rw [ia_ok (by omega), rnSlot0_ok hs0, gd_ok hne]
       exact hJ _ (by simp [bindStep, c, hp, k, hs0, g])
   ·rintro ⟨sl', ps', bad'⟩ hs
    simp only at hs
    rw [arr_ok (by omega), LI_ok ⟨⟨hv, by simp only; omega, by simp only; omega, by simp only; rw [hnext]; exact hs⟩, by simp only; omega⟩]
  ·have hi : i = a3.length := by omega
   rw [take_len hi] at hst
   have eB : bindS a1 ⟨a2, a3⟩ = ⟨sl, ps, bad⟩ := hst.symm
   refine ln_ok fun hB => ?_
   rw [show ∀ {α R : Type} (v : α) (f : α → Option R), cv v f = f v from fun _ _ => rfl]
   have eU : upP sl (mapIx a1) ps = boundV a1 ⟨a2, a3⟩ := by rw [boundV, eB]
   rw [EI_ok ⟨rfl, Int.le_refl 0, by simp only; omega, eU, by simp only; omega, by simp only [Int.toNat_zero, List.drop_zero]; rw [wrongV, eB, eU]⟩]
 ·rintro v ⟨sl, i, wr⟩ ⟨hv, h0, h1, rfl, hwl, hw⟩
  simp only at h0 h1 hwl hw
  have hbl : (boundV a1 ⟨a2, a3⟩).length = a1.length := by unfold boundV; simp [upP, bindS, foldS_len, slotsGo_len]
  simp only [impl_bind.b2, cn_ite]
  refine ite_ok (fun h => ?_) (fun h => ?_)
  ·have hlt : i.toNat < a1.length := by omega
   obtain ⟨p, hp⟩ : ∃ p, a1[i.toNat]? = some p := ⟨_, List.getElem?_eq_getElem hlt⟩
   obtain ⟨s, hs⟩ : ∃ s, (boundV a1 ⟨a2, a3⟩)[i.toNat]? = some s := ⟨_, List.getElem?_eq_getElem (by omega)⟩
   have hd1 : a1.drop i.toNat = p :: a1.drop (i + 1).toNat := by
    obtain ⟨_, e⟩ := List.getElem?_eq_some_iff.1 hp
    rw [List.drop_eq_getElem_cons hlt, e, show (i + 1).toNat = i.toNat + 1 by omega]
   have hd2 : (boundV a1 ⟨a2, a3⟩).drop i.toNat = s :: (boundV a1 ⟨a2, a3⟩).drop (i + 1).toNat := by
    obtain ⟨hl2, e⟩ := List.getElem?_eq_some_iff.1 hs
    rw [List.drop_eq_getElem_cons hl2, e, show (i + 1).toNat = i.toNat + 1 by omega]
   rw [hd1, hd2, missGo] at hw
   have fin : ∀ wr', wr'.length ≤ 9 + (i + 1).toNat → wr' ++ missGo (a1.drop (i + 1).toNat) ((boundV a1 ⟨a2, a3⟩).drop (i + 1).toNat) = wrongV a1 ⟨a2, a3⟩ →
     (arr .i64 (i + 1) fun u => LI (fun s : List Slot × Int × List Prob => v = a1.length ∧ 0 ≤ s.2.1 ∧ s.2.1 ≤ a1.length ∧ s.1 = boundV a1 ⟨a2, a3⟩ ∧ s.2.2.length ≤ 9 + s.2.1.toNat ∧ s.2.2 ++ missGo (a1.drop s.2.1.toNat) (s.1.drop s.2.1.toNat) = wrongV a1 ⟨a2, a3⟩) (fun s => a1.length - s.2.1.toNat) (fun _ => ((⟨boundV a1 ⟨a2, a3⟩⟩ : Bind), wrongV a1 ⟨a2, a3⟩)) (a1.length - i.toNat) (boundV a1 ⟨a2, a3⟩, u, wr')) = some ((⟨boundV a1 ⟨a2, a3⟩⟩ : Bind), wrongV a1 ⟨a2, a3⟩) := by
    intro wr' hl' hw'
    rw [arr_ok (by omega), LI_ok ⟨⟨hv, by simp only; omega, by simp only; omega, rfl, hl', hw'⟩, by simp only; omega⟩]
   have eset : (boundV a1 ⟨a2, a3⟩).set i.toNat ⟨s.given, s.list, s.pairs⟩ = boundV a1 ⟨a2, a3⟩ := set_self hs
   rw [ixParam_ok h0 hp, ia_ok (by omega), rnSlot_ok hs]
   simp only [on_LPair]
   rw [ia_ok (by omega), rnSlot_ok hs]
   simp only [lv, eset, eta_Param]
   have no : ¬ (singleP p = true ∧ p.hasDefault = false ∧ s.given = false) → (arr .i64 (i + 1) fun u => LI (fun s : List Slot × Int × List Prob => v = a1.length ∧ 0 ≤ s.2.1 ∧ s.2.1 ≤ a1.length ∧ s.1 = boundV a1 ⟨a2, a3⟩ ∧ s.2.2.length ≤ 9 + s.2.1.toNat ∧ s.2.2 ++ missGo (a1.drop s.2.1.toNat) (s.1.drop s.2.1.toNat) = wrongV a1 ⟨a2, a3⟩) (fun s => a1.length - s.2.1.toNat) (fun _ => ((⟨boundV a1 ⟨a2, a3⟩⟩ : Bind), wrongV a1 ⟨a2, a3⟩)) (a1.length - i.toNat) (boundV a1 ⟨a2, a3⟩, u, wr)) = some ((⟨boundV a1 ⟨a2, a3⟩⟩ : Bind), wrongV a1 ⟨a2, a3⟩) := fun c => by
    rw [if_neg c] at hw
    exact fin wr (by omega) hw
   refine ite_ok (fun c1 => ?_) (fun c1 => no fun c => c1 c.1)
   refine ite_ok (fun c2 => no fun c => by rw [c.2.1] at c2; cases c2) (fun c2 => ?_)
   rw [ia_ok (by omega), rnSlot_ok hs]
   refine ite_ok (fun c3 => no fun c => by rw [c.2.2] at c3; cases c3) (fun c3 => ?_)
   rw [gd_ok (by omega)]
   rw [if_pos ⟨c1, Bool.eq_false_iff.2 c2, Bool.eq_false_iff.2 c3⟩] at hw
   exact fin _ (by simp; omega) (by simpa using hw)
  ·have hi : i = a1.length := by omega
   rw [List.drop_eq_nil_of_le (by omega : a1.length ≤ i.toNat)] at hw
   simp only [missGo, List.append_nil] at hw
   simp only [on_LProb]
   rw [hw]
 ·simp only [impl_bind.f, lv, cv]
  refine ln_ok fun hB => ?_
  rw [gd_ok (by omega)]
  refine ln_ok fun hB2 => ?_
  have e0 : (List.replicate ((a1.length : Int).toNat) (⟨false⟩ : Slot00)).map up00 = List.replicate a1.length ⟨false, []⟩ := by rw [List.map_replicate, Int.toNat_natCast]; rfl
  rw [e0, EI_ok ⟨rfl, Int.le_refl 0, by simp only; omega, hp2, [], rfl, by simp, by simp, by simp⟩]
end
end Go.Proofs.YtchpopejojghmaaGreatDoor.M
