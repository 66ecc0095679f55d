/- What is wrong with a call; the first refused shape: the reference. -/
import Derived.Test.YtchpopejojghmaaGreatDoorW6
import Derived.Test.YtchpopejojghmaaGreatDoorW7
import Derived.Test.YtchpopejojghmaaGreatDoorWN
import Derived.Test.YtchpopejojghmaaGreatDoorWB
set_option linter.unusedVariables false
set_option linter.unusedSimpArgs false
set_option linter.unusedSectionVars false
namespace Go.Proofs.YtchpopejojghmaaGreatDoor.M
open Go Go.Proofs
set_option maxRecDepth 100000
noncomputable def spec_missing.b0 (a1 : List Param) (a2 : List Slot)  (h0 : (Int × (List Prob)) → Option ((List Prob))) (z_ : (List Prob)) (x121 : Int) (x122 : List Prob) : Option ((List Prob)) := (ln' z_ (a1.length) fun v152 => (if x121 < v152 then (ixParam a1 x121 fun v169 v170 v171 v172 => (cn (singleP (⟨v169, v170, v171, v172⟩)) (cn v171 (arr .i64 (x121 + 1) fun v173 => (h0 (v173, x122))) (ixSlot a2 x121 fun v174 v175 v176 => (cn v174 (arr .i64 (x121 + 1) fun v177 => (h0 (v177, x122))) (gd ((x122.length + 1) * 24 ≤ 140737488355328) (lv (x122 ++ [⟨3, v169⟩]) fun v178 => (arr .i64 (x121 + 1) fun v179 => (h0 (v179, v178)))))))) (arr .i64 (x121 + 1) fun v180 => (h0 (v180, x122))))) else (some x122)))
noncomputable def spec_missing.f (a1 : List Param) (a2 : List Slot) (h0 : (Int × (List Prob)) → Option ((List Prob))) (z_ : (List Prob)) : Option ((List Prob)) := (h0 (0, []))
theorem pin_spec_missing {e : ESt} {ns : List (Nat × Nat)} {ps : List (Nat × C)} {os : List (Nat × EObj)} (hs : pinPZ (pinZ e.o (os.map Prod.fst) ns) e.s ps := by first | (cbv <;> (repeat' (first | trivial | refine And.intro ?_ ?_)) <;> (first | rfl | assumption | omega | exact clI hV _ | exact clPair hV _ | exact clParam hV _ | exact clProb hV _ | exact clSlot hV _ | with_unfolding_all exact hV.nI [] | with_unfolding_all exact (hV.nI []).symm | with_unfolding_all exact hV.nPair [] | with_unfolding_all exact (hV.nPair []).symm | with_unfolding_all exact hV.nParam [] | with_unfolding_all exact (hV.nParam []).symm | with_unfolding_all exact hV.nProb [] | with_unfolding_all exact (hV.nProb []).symm | with_unfolding_all exact hV.nSlot [] | with_unfolding_all exact (hV.nSlot []).symm | with_unfolding_all exact hV.rI _ | with_unfolding_all exact hV.rPair _ | with_unfolding_all exact hV.rParam _ | with_unfolding_all exact hV.rProb _ | with_unfolding_all exact hV.rSlot _ | with_unfolding_all exact (hV.nI _).trans (Eq.trans (by simp only [hV.nI] at *; omega) (hV.nI _).symm) | with_unfolding_all exact (hV.nPair _).trans (Eq.trans (by simp only [hV.nPair] at *; omega) (hV.nPair _).symm) | with_unfolding_all exact (hV.nParam _).trans (Eq.trans (by simp only [hV.nParam] at *; omega) (hV.nParam _).symm) | with_unfolding_all exact (hV.nProb _).trans (Eq.trans (by simp only [hV.nProb] at *; omega) (hV.nProb _).symm) | with_unfolding_all exact (hV.nSlot _).trans (Eq.trans (by simp only [hV.nSlot] at *; omega) (hV.nSlot _).symm) | simp [closedCell])) | fail) (ho : ∀ B : (Nat → EObj) → List (List C) → List (List C) → Prop, (∀ o rows rows', rowsZ (pinZ o (os.map Prod.fst) ns) rows rows' → B o rows rows') → pinOZ (pinZ e.o (os.map Prod.fst) ns) B e.o ns os := by intro B hB; first | (cbv <;> (repeat' (first | trivial | refine And.intro ?_ ?_ | refine pin_same hB ?_ | refine pin_nil hB ?_ | refine pin_dirty hB (by assumption) (by assumption) ?_ ?_ | exact pinL_n | refine pinL_c ?_ ?_ | exact pzr rfl rfl rfl (nrI hV _) (clI hV _) | exact pzr rfl rfl rfl (nrPair hV _) (clPair hV _) | exact pzr rfl rfl rfl (nrParam hV _) (clParam hV _) | exact pzr rfl rfl rfl (nrProb hV _) (clProb hV _) | exact pzr rfl rfl rfl (nrSlot hV _) (clSlot hV _) | (refine pz_go ?_; cbv) | (refine pinL_go ?_; cbv))) <;> (first | exact clI hV _ | exact clPair hV _ | exact clParam hV _ | exact clProb hV _ | exact clSlot hV _ | with_unfolding_all exact hV.rI _ | with_unfolding_all exact hV.rPair _ | with_unfolding_all exact hV.rParam _ | with_unfolding_all exact hV.rProb _ | with_unfolding_all exact hV.rSlot _ | with_unfolding_all exact hV.nI [] | with_unfolding_all exact (hV.nI []).symm | with_unfolding_all exact hV.nPair [] | with_unfolding_all exact (hV.nPair []).symm | with_unfolding_all exact hV.nParam [] | with_unfolding_all exact (hV.nParam []).symm | with_unfolding_all exact hV.nProb [] | with_unfolding_all exact (hV.nProb []).symm | with_unfolding_all exact hV.nSlot [] | with_unfolding_all exact (hV.nSlot []).symm | assumption | omega | rfl | with_unfolding_all exact (hV.nI _).trans (Eq.trans (by simp only [hV.nI] at *; omega) (hV.nI _).symm) | with_unfolding_all exact (hV.nPair _).trans (Eq.trans (by simp only [hV.nPair] at *; omega) (hV.nPair _).symm) | with_unfolding_all exact (hV.nParam _).trans (Eq.trans (by simp only [hV.nParam] at *; omega) (hV.nParam _).symm) | with_unfolding_all exact (hV.nProb _).trans (Eq.trans (by simp only [hV.nProb] at *; omega) (hV.nProb _).symm) | with_unfolding_all exact (hV.nSlot _).trans (Eq.trans (by simp only [hV.nSlot] at *; omega) (hV.nSlot _).symm) | simp [closedCell])) | fail) : PinnedZ e ns ps os := ⟨hs, ho⟩
section
variable {G : Glob} (hm : Hm) (hz : Hz) (hG : GF G)
include hm hz hG
set_option maxHeartbeats 8000000 in
theorem spec_missing.w {a1 : List Param} {a2 : List Slot} (inv0 : (Int × (List Prob)) → Prop) (mu0 : (Int × (List Prob)) → Nat) (res0 : (Int × (List Prob)) → (List Prob)) (hb0 : ∀ (s_ : Int × (List Prob)), inv0  s_ → spec_missing.b0 a1 a2  (LI (inv0 ) (mu0 ) (res0 ) (mu0  s_)) (res0  s_) s_.1 s_.2 = some (res0  s_)) {r : (List Prob)} (H : spec_missing.f a1 a2 (EI (inv0 ) (mu0 ) (res0 )) r = some r) : FnOK pg G 185 [.agg [.sl (a1.map eParam)], .agg [.sl (a2.map eSlot)]] [] (.sl (r.map eProb)) [] true := by
 obtain ⟨V, hV⟩ := exV
 have e0_I : V.rI [] = [] := hV.rI []
 have e1_I : ∀ x r, V.rI (x :: r) = eI x :: V.rI r := fun x r => by rw [hV.rI, hV.rI]; rfl
 have e0_Pair : V.rPair [] = [] := hV.rPair []
 have e1_Pair : ∀ x r, V.rPair (x :: r) = ePair x :: V.rPair r := fun x r => by rw [hV.rPair, hV.rPair]; rfl
 have e0_Param : V.rParam [] = [] := hV.rParam []
 have e1_Param : ∀ x r, V.rParam (x :: r) = eParam x :: V.rParam r := fun x r => by rw [hV.rParam, hV.rParam]; rfl
 have e0_Prob : V.rProb [] = [] := hV.rProb []
 have e1_Prob : ∀ x r, V.rProb (x :: r) = eProb x :: V.rProb r := fun x r => by rw [hV.rProb, hV.rProb]; rfl
 have e0_Slot : V.rSlot [] = [] := hV.rSlot []
 simp only [← hV.rI, ← hV.rPair, ← hV.rParam, ← hV.rProb, ← hV.rSlot]
 refine fn_okS (tt0 := tyG [ty3, ty4, ty9, ty27, ty29, ty39, ty45, ty51, ty53, ty65, ty98, ty102, ty136, ty146]) (fn := Tryz.f185) (body := bodyOf Tryz.f185) (ext := []) hm (tyG_sub ⟨tt3, tt4, tt9, tt27, tt29, tt39, tt45, tt51, tt53, tt65, tt98, tt102, tt136, tt146, trivial⟩) hz 0 [] (by unfold pg; exact Tryz.func185) rfl rfl (by simp [Tryz.f185]) (by simp [EObj.toObj]) (by cbv) ?_
 intro A F hA hF
 unfold spec_missing.f at H
 cbv
 repeat' (first
  | (with_reducible refine s_gd H (fun hg H => ?_))
  | (cases H; (try simp only [e0_I, e0_Pair, e0_Param, e0_Prob, e0_Slot, e1_I, eI, e1_Pair, ePair, e1_Param, eParam, e1_Prob, eProb] at hF); with_reducible refine fin_close hF rfl (by simp [expIds, posCells, C.cells, idOf]) ?_; cbv)
  | ((with_reducible first | refine s_lt H ?_ ?_ | refine s_le H ?_ ?_ | refine s_eq H ?_ ?_ | refine s_ne H ?_ ?_) <;> intro H <;> cbv)
  | with_reducible first
   | (refine s_ln H lnOf (fun _ H => ?_); cbv)
   | (refine s_ixParam hV H (fun _ _ _ _ H => ?_); cbv)
   | (refine s_ixSlot hV H (fun _ _ _ H => ?_); cbv)
   | (refine s_ar H (fun _ H => ?_); cbv)
   | (refine s_apI hV H (fun _ H => ?_); cbv)
   | (refine s_apL hV.rI hV.nI H (fun _ H => ?_); cbv)
   | (refine s_apPair hV H (fun _ H => ?_); cbv)
   | (refine s_apL hV.rPair hV.nPair H (fun _ H => ?_); cbv)
   | (refine s_apParam hV H (fun _ H => ?_); cbv)
   | (refine s_apL hV.rParam hV.nParam H (fun _ H => ?_); cbv)
   | (refine s_apProb hV H (fun _ H => ?_); cbv)
   | (refine s_apL hV.rProb hV.nProb H (fun _ H => ?_); cbv)
   | (refine s_apSlot hV H (fun _ H => ?_); cbv)
   | (refine s_apL hV.rSlot hV.nSlot H (fun _ H => ?_); cbv)
   | (refine s_apZSlot hV H (fun _ _ H hk_ zs_ hd_ => ?_); cbv)
   | (refine s_bnZSlot hV H (fun _ _ H hk_ zs_ hd_ => ?_); cbv)
   | (refine s_a0ZSlot hV H (fun _ _ H hk_ zs_ hd_ => ?_); cbv)
   | (refine s_lv H (fun _ H => ?_); cbv)
   | (refine s_loop hA H (fun s h => hb0  s h) [2, 3] [128, 192] (fun e s => [(5, .ref 512 0 2 0 (V.nProb (s.2))), (6, .int .i64 (s.1))]) (fun e s => [(512, ⟨0, true, 2, .many (V.rProb (s.2))⟩)]) [] pin_spec_missing nbOf ?_; rintro ⟨x121, x122⟩ H; unfold spec_missing.b0 at H; (try dsimp only at H); cbv)
  | (with_reducible refine s_next H pin_spec_missing nbOf)
  | with_reducible first
   | (refine s_cb hA H (by (try simp only [hV.rI, hV.rPair, hV.rParam, hV.rProb, hV.rSlot]); with_unfolding_all exact spec_isSingle.ok hm hz hG) rfl (fun H => ?_) (fun H => ?_) <;> cbv)
   | (refine indep_of hA ?_; cbv)
  | ((with_reducible refine side ?_); exact sideOf)
  | with_reducible first
   | (refine s_tkG hV.rI hV.nI ?_; cbv)
   | (refine s_tkG hV.rPair hV.nPair ?_; cbv)
   | (refine s_tkG hV.rParam hV.nParam ?_; cbv)
   | (refine s_tkG hV.rProb hV.nProb ?_; cbv)
   | (refine s_tkG hV.rSlot hV.nSlot ?_; cbv)
   | (refine s_tk1 ?_; cbv)
  | (with_reducible refine And.intro ?_ ?_)
  | ((with_reducible refine s_cn H (fun hb H => ?_) (fun hb H => ?_)) <;> (revert H; subst hb; intro H; cbv))
  | (intro ys hys; subst hys; rfl)
  | rfl)
theorem spec_missing.ok {a1 : List Param} {a2 : List Slot} (hp : a1.length ≤ 8 ∧ a2.length = a1.length) : FnOK pg G 185 [.agg [.sl (a1.map eParam)], .agg [.sl (a2.map eSlot)]] [] (.sl ((((fun (s : Sig) (b : Bind) => missGo s.params b.slots) ⟨a1⟩ ⟨a2⟩)).map eProb)) [] true := by
 obtain ⟨p1, p2⟩ := hp
 refine @spec_missing.w G hm hz hG a1 a2 (fun s => 0 ≤ s.1 ∧ s.1 ≤ a1.length ∧ s.2.length ≤ s.1.toNat ∧ s.2 ++ missGo (a1.drop s.1.toNat) (a2.drop s.1.toNat) = missGo a1 a2) (fun s => a1.length - s.1.toNat) (fun _ => missGo a1 a2) ?_ _ ?_
 ·rintro ⟨i, out⟩ ⟨h0, h1, hl, hw⟩
  simp only at h0 h1 hl hw
  simp only [spec_missing.b0]
  refine ln_ok fun hB => ?_
  refine ite_ok (fun h => ?_) (fun h => ?_)
  ·have hlt : i.toNat < a1.length := by omega
   obtain ⟨p, hp⟩ : ∃ p, a1[i.toNat]? = some p := ⟨_, List.getElem?_eq_getElem hlt⟩
   obtain ⟨s, hs⟩ : ∃ s, a2[i.toNat]? = some s := ⟨_, List.getElem?_eq_getElem (by omega)⟩
   have hd1 : a1.drop i.toNat = p :: a1.drop (i + 1).toNat := by
    obtain ⟨_, e⟩ := List.getElem?_eq_some_iff.1 hp
    rw [List.drop_eq_getElem_cons hlt, e, show (i + 1).toNat = i.toNat + 1 by omega]
   have hd2 : a2.drop i.toNat = s :: a2.drop (i + 1).toNat := by
    obtain ⟨hl2, e⟩ := List.getElem?_eq_some_iff.1 hs
    rw [List.drop_eq_getElem_cons hl2, e, show (i + 1).toNat = i.toNat + 1 by omega]
   rw [hd1, hd2, missGo] at hw
   have fin : ∀ out', out'.length ≤ (i + 1).toNat → out' ++ missGo (a1.drop (i + 1).toNat) (a2.drop (i + 1).toNat) = missGo a1 a2 → (arr .i64 (i + 1) fun u => LI (fun s : Int × List Prob => 0 ≤ s.1 ∧ s.1 ≤ a1.length ∧ s.2.length ≤ s.1.toNat ∧ s.2 ++ missGo (a1.drop s.1.toNat) (a2.drop s.1.toNat) = missGo a1 a2) (fun s => a1.length - s.1.toNat) (fun _ => missGo a1 a2) (a1.length - i.toNat) (u, out')) = some (missGo a1 a2) := by
    intro out' e1 e2
    rw [arr_ok (by omega), LI_ok ⟨⟨by simp only; omega, by simp only; omega, e1, e2⟩, by simp only; omega⟩]
   have no : ¬ (singleP p = true ∧ p.hasDefault = false ∧ s.given = false) → _ := fun c => by
    rw [if_neg c] at hw
    exact fin out (by omega) hw
   rw [ixParam_ok h0 hp]
   simp only [eta_Param, cn_ite]
   refine ite_ok (fun c1 => ?_) (fun c1 => no fun c => c1 c.1)
   refine ite_ok (fun c2 => no fun c => by rw [c.2.1] at c2; cases c2) (fun c2 => ?_)
   rw [ixSlot_ok h0 hs]
   refine ite_ok (fun c3 => no fun c => by rw [c.2.2] at c3; cases c3) (fun c3 => ?_)
   rw [gd_ok (by omega)]
   rw [if_pos ⟨c1, Bool.eq_false_iff.2 c2, Bool.eq_false_iff.2 c3⟩] at hw
   exact fin _ (by simp; omega) (by simpa using hw)
  ·rw [List.drop_eq_nil_of_le (by omega : a1.length ≤ i.toNat)] at hw
   simp only [missGo, List.append_nil] at hw
   rw [hw]
 ·simp only [spec_missing.f]
  rw [EI_ok ⟨Int.le_refl 0, by simp only; omega, Nat.le_refl _, rfl⟩]
end
theorem bindS_bad_len {ps : List Param} {f : Flat} (h : f.names.length ≤ 8) : (bindS ps f).bad.length ≤ 9 := by
 have := (foldS_ps ps f.names (bind0 ps f)).2
 have hb0 : (bind0 ps f).bad.length ≤ 1 := by unfold bind0; simp only; split <;> simp
 have e : bindS ps f = f.names.foldl (bindStep ps) (bind0 ps f) := rfl
 rw [e]; omega
theorem boundV_len (ps : List Param) (f : Flat) : (boundV ps f).length = ps.length := by unfold boundV; simp [upP, bindS, foldS_len, slotsGo_len]
def on_Bind_LProb {R : Type} (v : Bind × (List Prob)) (f : (List Slot) → (List Prob) → Option R) : Option R := f (v.1.slots) (v.2)
section
variable {A : Bx} {P : Program} {G : Glob} {rg : Option Nat} {own : Nat} {o : Nat → EObj} {g : FuncId} {vs : List C} {sh : Bool} {K : C → List (Nat × EObj) → Prop} {R : Type} {r : R} {V : Vx} {v : Bind × (List Prob)} {f : (List Slot) → (List Prob) → Option R}
theorem s_cFBind_LProb (hV : IsV V) (hA : IsBx true rg P G A) (H : on_Bind_LProb v f = some r) (hok : FnOK P G g vs [] (.tup [.agg [.fr 3 ((v.1.slots).map eSlot)], .fr 2 ((v.2).map eProb)]) [] sh) (hc : vs.all closedArg = true) (h : ∀ c0 c1, f c0 c1 = some r → K (.tup [.agg [.ref (own + 0) ((o (own + 0)).gen + 1) 3 0 (V.nSlot c0)], .ref (own + 8) ((o (own + 8)).gen + 1) 2 0 (V.nProb c1)]) [(own + 0, ⟨(o (own + 0)).gen + 1, true, 3, .many (V.rSlot c0)⟩), (own + 8, ⟨(o (own + 8)).gen + 1, true, 2, .many (V.rProb c1)⟩)]) : A.call own o g vs K := by
 refine callT_plain hA hok hc ?_
 have := h (v.1.slots) (v.2) H
 rw [show V.nSlot (v.1.slots) = ((v.1.slots).map eSlot).length by rw [hV.nSlot, List.length_map]] at this
 rw [show V.nProb (v.2) = ((v.2).map eProb).length by rw [hV.nProb, List.length_map]] at this
 simp only [hV.rProb, hV.rSlot] at this
 exact this
variable {U : List C → List Nat → (C → List (Nat × EObj) → Prop) → Prop} {bs : List C} {tops : List Nat}
end
noncomputable def spec_problems.f (a1 : List Param) (a2 : List Int) (a3 : List Pair)  (z_ : (List Prob)) : Option ((List Prob)) := (gd (VN a1 ∧ a2.length ≤ 8 ∧ a3.length ≤ 8) (on_Bind_LProb ((fun (s : Sig) (f : Flat) => ((⟨boundV s.params f⟩ : Bind), (bindS s.params f).bad)) (⟨a1⟩) (⟨a2, a3⟩)) fun v6 v7 => (gd (a1.length ≤ 8 ∧ v6.length = a1.length) (on_LProb ((fun (s : Sig) (b : Bind) => missGo s.params b.slots) (⟨a1⟩) (⟨v6⟩)) fun v10 => (gd ((v7.length + v10.length) * 24 ≤ 140737488355328) (lv (v7 ++ v10) fun v11 => (some v11)))))))
section
variable {G : Glob} (hm : Hm) (hz : Hz) (hG : GF G)
include hm hz hG
theorem spec_problems.w {a1 : List Param} {a2 : List Int} {a3 : List Pair}  {r : (List Prob)} (H : spec_problems.f a1 a2 a3  r = some r) : FnOK pg G 151 [.agg [.sl (a1.map eParam)], .agg [.sl (a2.map eI), .sl (a3.map ePair)]] [] (.sl (r.map eProb)) [] true := by
 obtain ⟨V, hV⟩ := exV
 have e0_I : V.rI [] = [] := hV.rI []
 have e1_I : ∀ x r, V.rI (x :: r) = eI x :: V.rI r := fun x r => by rw [hV.rI, hV.rI]; rfl
 have e0_Pair : V.rPair [] = [] := hV.rPair []
 have e1_Pair : ∀ x r, V.rPair (x :: r) = ePair x :: V.rPair r := fun x r => by rw [hV.rPair, hV.rPair]; rfl
 have e0_Param : V.rParam [] = [] := hV.rParam []
 have e1_Param : ∀ x r, V.rParam (x :: r) = eParam x :: V.rParam r := fun x r => by rw [hV.rParam, hV.rParam]; rfl
 have e0_Prob : V.rProb [] = [] := hV.rProb []
 have e1_Prob : ∀ x r, V.rProb (x :: r) = eProb x :: V.rProb r := fun x r => by rw [hV.rProb, hV.rProb]; rfl
 have e0_Slot : V.rSlot [] = [] := hV.rSlot []
 simp only [← hV.rI, ← hV.rPair, ← hV.rParam, ← hV.rProb, ← hV.rSlot]
 refine fn_okS (tt0 := tyG [ty3, ty4, ty9, ty27, ty29, ty39, ty45, ty47, ty51, ty53, ty65, ty98, ty102, ty136, ty146]) (fn := Tryz.f151) (body := bodyOf Tryz.f151) (ext := []) hm (tyG_sub ⟨tt3, tt4, tt9, tt27, tt29, tt39, tt45, tt47, tt51, tt53, tt65, tt98, tt102, tt136, tt146, trivial⟩) hz 0 [] (by unfold pg; exact Tryz.func151) rfl rfl (by simp [Tryz.f151]) (by simp [EObj.toObj]) (by cbv) ?_
 intro A F hA hF
 unfold spec_problems.f at H
 cbv
 repeat' (first
  | (with_reducible refine s_gd H (fun hg H => ?_))
  | (cases H; (try simp only [e0_I, e0_Pair, e0_Param, e0_Prob, e0_Slot, e1_I, eI, e1_Pair, ePair, e1_Param, eParam, e1_Prob, eProb] at hF); with_reducible refine fin_close hF rfl (by simp [expIds, posCells, C.cells, idOf]) ?_; cbv)
  | with_reducible first
   | (refine s_apI hV H (fun _ H => ?_); cbv)
   | (refine s_apL hV.rI hV.nI H (fun _ H => ?_); cbv)
   | (refine s_apPair hV H (fun _ H => ?_); cbv)
   | (refine s_apL hV.rPair hV.nPair H (fun _ H => ?_); cbv)
   | (refine s_apParam hV H (fun _ H => ?_); cbv)
   | (refine s_apL hV.rParam hV.nParam H (fun _ H => ?_); cbv)
   | (refine s_apProb hV H (fun _ H => ?_); cbv)
   | (refine s_apL hV.rProb hV.nProb H (fun _ H => ?_); cbv)
   | (refine s_apSlot hV H (fun _ H => ?_); cbv)
   | (refine s_apL hV.rSlot hV.nSlot H (fun _ H => ?_); cbv)
   | (refine s_apZSlot hV H (fun _ _ H hk_ zs_ hd_ => ?_); cbv)
   | (refine s_bnZSlot hV H (fun _ _ H hk_ zs_ hd_ => ?_); cbv)
   | (refine s_a0ZSlot hV H (fun _ _ H hk_ zs_ hd_ => ?_); cbv)
   | (refine s_lv H (fun _ H => ?_); cbv)
   | (refine s_cFBind_LProb hV hA H (by (try simp only [hV.rI, hV.rPair, hV.rParam, hV.rProb, hV.rSlot]); (first | (have hk_ := spec_bound.ok hm hz hG hg; with_unfolding_all exact hk_) | (with_unfolding_all exact spec_bound.ok hm hz hG (by first | assumption | omega)))) rfl (fun _ _ H => ?_); cbv)
   | (refine s_cLProb hV hA H (by (try simp only [hV.rI, hV.rPair, hV.rParam, hV.rProb, hV.rSlot]); (first | (have hk_ := spec_missing.ok hm hz hG hg; with_unfolding_all exact hk_) | (with_unfolding_all exact spec_missing.ok hm hz hG (by first | assumption | omega)))) rfl (fun _ H => ?_); cbv)
   | (refine s_tLProb (by assumption) hV H (by (try simp only [hV.rI, hV.rPair, hV.rParam, hV.rProb, hV.rSlot]); (first | (have hk_ := spec_missing.ok hm hz hG hg; with_unfolding_all exact hk_) | (with_unfolding_all exact spec_missing.ok hm hz hG (by first | assumption | omega)))) (by first | (cbv <;> (repeat' (first | trivial | refine And.intro ?_ ?_)) <;> (first | rfl | exact clI hV _ | with_unfolding_all exact clPair hV _ | with_unfolding_all exact clParam hV _ | with_unfolding_all exact clProb hV _ | with_unfolding_all exact clSlot hV _ | simp [closedCell])) | fail) (fun _ H => ?_); cbv)
   | (refine s_wLProb (g := 185) hA H rfl (fun U hU => ?_); cbv)
   | (refine indep_of hA ?_; cbv)
  | ((with_reducible refine side ?_); exact sideOf)
  | with_reducible first
   | (refine s_tkG hV.rI hV.nI ?_; cbv)
   | (refine s_tkG hV.rPair hV.nPair ?_; cbv)
   | (refine s_tkG hV.rParam hV.nParam ?_; cbv)
   | (refine s_tkG hV.rProb hV.nProb ?_; cbv)
   | (refine s_tkG hV.rSlot hV.nSlot ?_; cbv)
   | (refine s_tk1 ?_; cbv)
  | (with_reducible refine And.intro ?_ ?_)
  | (intro ys hys; subst hys; rfl)
  | rfl)
theorem spec_problems.ok {a1 : List Param} {a2 : List Int} {a3 : List Pair} (hp : VN a1 ∧ a2.length ≤ 8 ∧ a3.length ≤ 8) : FnOK pg G 151 [.agg [.sl (a1.map eParam)], .agg [.sl (a2.map eI), .sl (a3.map ePair)]] [] (.sl ((((fun (s : Sig) (f : Flat) => wrongV s.params f) ⟨a1⟩ ⟨a2, a3⟩)).map eProb)) [] true := by
 refine spec_problems.w hm hz hG ?_
 have hv := hp.1
 have h8 := hv.len
 have hb := @bindS_bad_len a1 ⟨a2, a3⟩ hp.2.2
 have hms := missGo_len a1 (boundV a1 ⟨a2, a3⟩)
 simp only [spec_problems.f]
 rw [gd_ok hp]
 simp only [on_Bind_LProb]
 rw [gd_ok ⟨h8, boundV_len _ _⟩]
 simp only [on_LProb]
 rw [gd_ok (by omega)]
 rfl
end
noncomputable def spec_accepts.f (a1 : List Param) (a2 : List Int) (a3 : List Pair)  (z_ : Bool) : Option (Bool) := (gd (VN a1 ∧ a2.length ≤ 8 ∧ a3.length ≤ 8) (on_LProb ((fun (s : Sig) (f : Flat) => wrongV s.params f) (⟨a1⟩) (⟨a2, a3⟩)) fun v4 => (ln' z_ (v4.length) fun v5 => (if v5 = 0 then (some true) else (some false)))))
section
variable {G : Glob} (hm : Hm) (hz : Hz) (hG : GF G)
include hm hz hG
theorem spec_accepts.w {a1 : List Param} {a2 : List Int} {a3 : List Pair}  {r : Bool} (H : spec_accepts.f a1 a2 a3  r = some r) : FnOK pg G 106 [.agg [.sl (a1.map eParam)], .agg [.sl (a2.map eI), .sl (a3.map ePair)]] [] (.bool r) [] false := by
 obtain ⟨V, hV⟩ := exV
 simp only [← hV.rI, ← hV.rPair, ← hV.rParam, ← hV.rProb]
 refine fn_ok (tt0 := tyG [ty3, ty4, ty9, ty27, ty29, ty39, ty45, ty47, ty65, ty98, ty136, ty146]) (fn := Tryz.f106) (body := bodyOf Tryz.f106) (ext := []) hm (tyG_sub ⟨tt3, tt4, tt9, tt27, tt29, tt39, tt45, tt47, tt65, tt98, tt136, tt146, trivial⟩) hz 0 true [] (by unfold pg; exact Tryz.func106) rfl rfl (by simp [Tryz.f106]) (by simp [EObj.toObj]) (by cbv) ?_
 intro A F hA hF
 unfold spec_accepts.f at H
 cbv
 repeat' (first
  | (with_reducible refine s_gd H (fun hg H => ?_))
  | (cases H; exact fin_plain hF rfl rfl rfl rfl)
  | ((with_reducible first | refine s_lt H ?_ ?_ | refine s_le H ?_ ?_ | refine s_eq H ?_ ?_ | refine s_ne H ?_ ?_) <;> intro H <;> cbv)
  | with_reducible first
   | (refine s_ln H lnOf (fun _ H => ?_); cbv)
   | (refine s_lv H (fun _ H => ?_); cbv)
   | (refine s_cLProb hV hA H (by (try simp only [hV.rI, hV.rPair, hV.rParam, hV.rProb]); (first | (have hk_ := spec_problems.ok hm hz hG hg; with_unfolding_all exact hk_) | (with_unfolding_all exact spec_problems.ok hm hz hG (by first | assumption | omega)))) rfl (fun _ H => ?_); cbv)
   | (refine indep_of hA ?_; cbv)
  | ((with_reducible refine side ?_); exact sideOf)
  | with_reducible first
   | (refine s_tkG hV.rI hV.nI ?_; cbv)
   | (refine s_tkG hV.rPair hV.nPair ?_; cbv)
   | (refine s_tkG hV.rParam hV.nParam ?_; cbv)
   | (refine s_tkG hV.rProb hV.nProb ?_; cbv)
   | (refine s_tk1 ?_; cbv)
  | (with_reducible refine And.intro ?_ ?_)
  | (intro ys hys; subst hys; rfl)
  | rfl)
theorem spec_accepts.ok {a1 : List Param} {a2 : List Int} {a3 : List Pair} (hp : VN a1 ∧ a2.length ≤ 8 ∧ a3.length ≤ 8) : FnOK pg G 106 [.agg [.sl (a1.map eParam)], .agg [.sl (a2.map eI), .sl (a3.map ePair)]] [] (.bool (((fun (s : Sig) (f : Flat) => decide (wrongV s.params f = [])) ⟨a1⟩ ⟨a2, a3⟩))) [] false := by
 refine spec_accepts.w hm hz hG ?_
 simp only [spec_accepts.f]
 rw [gd_ok hp]
 simp only [on_LProb]
 refine ln_ok fun hB => ?_
 refine ite_ok (fun c => ?_) (fun c => ?_)
 ·rw [List.eq_nil_of_length_eq_zero (l := wrongV a1 ⟨a2, a3⟩) (by omega)]; rfl
 ·rw [decide_eq_false (fun e => c (by rw [e]; rfl))]
end
def freshN (pn : List Str) : Str := (gens.find? fun g => !pn.contains g).getD []
def firstN (A B : List Param) (n : Nat) : Str := ((sortT (parNames A B ++ [freshN (parNames A B)])).find? (refP A B n)).getD []
theorem gens_next : ∀ k : Nat, k < 39 → gens[k + 1]? = gens[k]?.map nextName := by decide
theorem gens_idx : ∀ k : Nat, k < 40 → gens.findIdx (fun g => some g == gens[k]?) = k := by decide
theorem fresh_at {pn : List Str} {k : Nat} {s : Str} (hs : gens[k]? = some s) (h1 : ∀ j g, j < k → gens[j]? = some g → pn.contains g = true) (h2 : pn.contains s = false) : freshN pn = s := by
 unfold freshN
 have : gens.find? (fun g => !pn.contains g) = some s := by
  obtain ⟨hk, e⟩ := List.getElem?_eq_some_iff.1 hs
  rw [List.find?_eq_some_iff_getElem]
  refine ⟨by rw [h2]; rfl, k, hk, e, fun j hj => ?_⟩
  have := h1 j _ hj (List.getElem?_eq_getElem (by omega))
  rw [this]; rfl
 rw [this]; rfl
theorem fresh_more {pn : List Str} {k : Nat} {s : Str} (hl : pn.length ≤ 39) (hs : gens[k]? = some s) (h1 : ∀ j g, j < k → gens[j]? = some g → pn.contains g = true) (h2 : pn.contains s = true) : k < 39 := by
 apply Classical.byContradiction
 intro hk
 obtain ⟨g, hg⟩ := fresh_ex hl
 rw [List.find?_eq_some_iff_getElem] at hg
 obtain ⟨hp, j, hj, e, _⟩ := hg
 have hj40 : j < 40 := by rw [gens_len] at hj; exact hj
 have : pn.contains g = true := by
  by_cases c : j < k
  ·exact h1 j g c (by rw [List.getElem?_eq_getElem hj, e])
  ·have hk2 := (List.getElem?_eq_some_iff.1 hs).1
   rw [gens_len] at hk2
   have : j = k := by omega
   subst this
   rw [List.getElem?_eq_getElem hj, e] at hs
   cases hs; exact h2
 rw [this] at hp; cases hp
theorem parNames_len {A B : List Param} (ha : VN A) (hb : VN B) : (parNames A B).length ≤ 16 := by
 have := ha.len; have := hb.len; unfold parNames; rw [List.length_append, List.length_map, List.length_map]; omega
theorem dropS {l : List Str} {i : Int} {x : Str} (h0 : 0 ≤ i) (hx : l[i.toNat]? = some x) : l.drop i.toNat = x :: l.drop (i + 1).toNat := by
 obtain ⟨hl, e⟩ := List.getElem?_eq_some_iff.1 hx
 rw [List.drop_eq_getElem_cons hl, e, show (i + 1).toNat = i.toNat + 1 by omega]
noncomputable def spec_firstName.b3 (a1 : List Param) (a2 : List Param) (a3 : Int) (v163 : List Str) (v164 : List Str) (h3 : (Int) → Option (Str)) (z_ : Str) (x177 : Int) : Option (Str) := (ln' z_ (v163.length) fun v190 => (if x177 < v190 then (ia v163.length x177 fun j191 => (rnS v163 j191 fun v192 => (gd (0 ≤ a3) (cn ((fun (s : Sig) (n : Int) (x : Str) => allowsS s.params n.toNat x) (⟨a1⟩) a3 v192) (ia v163.length x177 fun j193 => (rnS v163 j193 fun v194 => (cn ((fun (l : List Str) (s : Str) => l.contains s) v164 v194) (arr .i64 (x177 + 1) fun v195 => (h3 v195)) (ia v163.length x177 fun j196 => (rnS v163 j196 fun v197 => (gd (0 ≤ a3) (cn ((fun (s : Sig) (n : Int) (x : Str) => allowsS s.params n.toNat x) (⟨a2⟩) a3 v197) (arr .i64 (x177 + 1) fun v198 => (h3 v198)) (ia v163.length x177 fun j199 => (rnS v163 j199 fun v200 => (some v200)))))))))) (arr .i64 (x177 + 1) fun v201 => (h3 v201)))))) else (some (([] : Str)))))
noncomputable def spec_firstName.b2 (a1 : List Param) (a2 : List Param) (a3 : Int) (x131 : List Str) (h2 : (Str) → Option (Str)) (h3 : (List Str) → (List Str) → (Int) → Option (Str)) (z_ : Str) (x157 : Str) : Option (Str) := (cn ((fun (l : List Str) (s : Str) => l.contains s) x131 x157) (gd (isName x157 = true) (lv (nextName x157) fun v159 => (h2 v159))) (gd ((x131.length + 1) * 16 ≤ 140737488355328) (lv (x131 ++ [x157]) fun v162 => (gd (v162.length ≤ 1000000) (on_LS (sortT v162) fun v163 => (gd (0 ≤ a3 ∧ a1.length ≤ 1000) (on_LS ((fun (s : Sig) (n : Int) => needsT s.params n.toNat) (⟨a1⟩) a3) fun v164 => (h3 v163 v164 0))))))))
noncomputable def spec_firstName.b1 (a1 : List Param) (a2 : List Param) (a3 : Int)  (h1 : (Int × (List Str)) → Option (Str)) (h2 : (List Str) → (Str) → Option (Str)) (z_ : Str) (x130 : Int) (x131 : List Str) : Option (Str) := (ln' z_ (a2.length) fun v144 => (if x130 < v144 then (ixParam a2 x130 fun v150 v151 v152 v153 => (gd ((x131.length + 1) * 16 ≤ 140737488355328) (lv (x131 ++ [v150]) fun v154 => (arr .i64 (x130 + 1) fun v155 => (h1 (v155, v154)))))) else (h2 x131 [97])))
noncomputable def spec_firstName.b0 (a1 : List Param) (a2 : List Param) (a3 : Int)  (h0 : (Int × (List Str)) → Option (Str)) (h1 : (Int × (List Str)) → Option (Str)) (z_ : Str) (x54 : Int) (x55 : List Str) : Option (Str) := (ln' z_ (a1.length) fun v68 => (if x54 < v68 then (ixParam a1 x54 fun v74 v75 v76 v77 => (gd ((x55.length + 1) * 16 ≤ 140737488355328) (lv (x55 ++ [v74]) fun v78 => (arr .i64 (x54 + 1) fun v79 => (h0 (v79, v78)))))) else (h1 (0, x55))))
noncomputable def spec_firstName.f (a1 : List Param) (a2 : List Param) (a3 : Int) (h0 : (Int × (List Str)) → Option (Str)) (z_ : Str) : Option (Str) := (h0 (0, []))
theorem pin_spec_firstName {e : ESt} {ns : List (Nat × Nat)} {ps : List (Nat × C)} {os : List (Nat × EObj)} (hs : pinPZ (pinZ e.o (os.map Prod.fst) ns) e.s ps := by first | (cbv <;> (repeat' (first | trivial | refine And.intro ?_ ?_)) <;> (first | rfl | assumption | omega | exact clS hV _ | exact clParam hV _ | with_unfolding_all exact hV.nS [] | with_unfolding_all exact (hV.nS []).symm | with_unfolding_all exact hV.nParam [] | with_unfolding_all exact (hV.nParam []).symm | with_unfolding_all exact hV.rS _ | with_unfolding_all exact hV.rParam _ | with_unfolding_all exact (hV.nS _).trans (Eq.trans (by simp only [hV.nS] at *; omega) (hV.nS _).symm) | with_unfolding_all exact (hV.nParam _).trans (Eq.trans (by simp only [hV.nParam] at *; omega) (hV.nParam _).symm) | simp [closedCell])) | fail) (ho : ∀ B : (Nat → EObj) → List (List C) → List (List C) → Prop, (∀ o rows rows', rowsZ (pinZ o (os.map Prod.fst) ns) rows rows' → B o rows rows') → pinOZ (pinZ e.o (os.map Prod.fst) ns) B e.o ns os := by intro B hB; first | (cbv <;> (repeat' (first | trivial | refine And.intro ?_ ?_ | refine pin_same hB ?_ | refine pin_nil hB ?_ | refine pin_dirty hB (by assumption) (by assumption) ?_ ?_ | exact pinL_n | refine pinL_c ?_ ?_ | exact pzr rfl rfl rfl (nrS hV _) (clS hV _) | exact pzr rfl rfl rfl (nrParam hV _) (clParam hV _) | (refine pz_go ?_; cbv) | (refine pinL_go ?_; cbv))) <;> (first | exact clS hV _ | exact clParam hV _ | with_unfolding_all exact hV.rS _ | with_unfolding_all exact hV.rParam _ | with_unfolding_all exact hV.nS [] | with_unfolding_all exact (hV.nS []).symm | with_unfolding_all exact hV.nParam [] | with_unfolding_all exact (hV.nParam []).symm | assumption | omega | rfl | with_unfolding_all exact (hV.nS _).trans (Eq.trans (by simp only [hV.nS] at *; omega) (hV.nS _).symm) | with_unfolding_all exact (hV.nParam _).trans (Eq.trans (by simp only [hV.nParam] at *; omega) (hV.nParam _).symm) | simp [closedCell])) | fail) : PinnedZ e ns ps os := ⟨hs, ho⟩
section
variable {G : Glob} (hm : Hm) (hz : Hz) (hG : GF G)
include hm hz hG
set_option maxHeartbeats 8000000 in
theorem spec_firstName.w {a1 : List Param} {a2 : List Param} {a3 : Int} (inv0 : (Int × (List Str)) → Prop) (mu0 : (Int × (List Str)) → Nat) (res0 : (Int × (List Str)) → Str) (inv1 : (Int × (List Str)) → Prop) (mu1 : (Int × (List Str)) → Nat) (res1 : (Int × (List Str)) → Str) (inv2 : (List Str) → (Str) → Prop) (mu2 : (List Str) → (Str) → Nat) (res2 : (List Str) → (Str) → Str) (inv3 : (List Str) → (List Str) → (Int) → Prop) (mu3 : (List Str) → (List Str) → (Int) → Nat) (res3 : (List Str) → (List Str) → (Int) → Str) (hb0 : ∀ (s_ : Int × (List Str)), inv0  s_ → spec_firstName.b0 a1 a2 a3  (LI (inv0 ) (mu0 ) (res0 ) (mu0  s_)) (EI (inv1 ) (mu1 ) (res1 )) (res0  s_) s_.1 s_.2 = some (res0  s_)) (hb1 : ∀ (s_ : Int × (List Str)), inv1  s_ → spec_firstName.b1 a1 a2 a3  (LI (inv1 ) (mu1 ) (res1 ) (mu1  s_)) (fun x131 => EI (inv2 x131) (mu2 x131) (res2 x131)) (res1  s_) s_.1 s_.2 = some (res1  s_)) (hb2 : ∀ (x131 : List Str), ∀ (s_ : Str), inv2 x131 s_ → spec_firstName.b2 a1 a2 a3 x131 (LI (inv2 x131) (mu2 x131) (res2 x131) (mu2 x131 s_)) (fun v163 v164 => EI (inv3 v163 v164) (mu3 v163 v164) (res3 v163 v164)) (res2 x131 s_) s_ = some (res2 x131 s_)) (hb3 : ∀ (v163 : List Str), ∀ (v164 : List Str), ∀ (s_ : Int), inv3 v163 v164 s_ → spec_firstName.b3 a1 a2 a3 v163 v164 (LI (inv3 v163 v164) (mu3 v163 v164) (res3 v163 v164) (mu3 v163 v164 s_)) (res3 v163 v164 s_) s_ = some (res3 v163 v164 s_)) {r : Str} (H : spec_firstName.f a1 a2 a3 (EI (inv0 ) (mu0 ) (res0 )) r = some r) : FnOK pg G 141 [.agg [.sl (a1.map eParam)], .agg [.sl (a2.map eParam)], .int .i64 a3] [] (.str ⟨⟨r⟩⟩) [] false := by
 obtain ⟨V, hV⟩ := exV
 simp only [← hV.rS, ← hV.rParam]
 refine fn_ok (tt0 := tyG [ty3, ty4, ty9, ty27, ty29, ty65, ty68]) (fn := Tryz.f141) (body := bodyOf Tryz.f141) (ext := []) hm (tyG_sub ⟨tt3, tt4, tt9, tt27, tt29, tt65, tt68, trivial⟩) hz 0 true [] (by unfold pg; exact Tryz.func141) rfl rfl (by simp [Tryz.f141]) (by simp [EObj.toObj]) (by cbv) ?_
 intro A F hA hF
 unfold spec_firstName.f at H
 cbv
 repeat' (first
  | (with_reducible refine s_gd H (fun hg H => ?_))
  | (cases H; exact fin_plain hF rfl rfl rfl rfl)
  | ((with_reducible first | refine s_lt H ?_ ?_ | refine s_le H ?_ ?_ | refine s_eq H ?_ ?_ | refine s_ne H ?_ ?_) <;> intro H <;> cbv)
  | with_reducible first
   | (refine s_ln H lnOf (fun _ H => ?_); cbv)
   | (refine s_rnS hV H (fun _ H => ?_); cbv)
   | (refine s_ixParam hV H (fun _ _ _ _ H => ?_); cbv)
   | (refine s_ia H lnOf (fun _ H => ?_); cbv)
   | (refine s_ar H (fun _ H => ?_); cbv)
   | (refine s_apS hV H (fun _ H => ?_); cbv)
   | (refine s_apL hV.rS hV.nS H (fun _ H => ?_); cbv)
   | (refine s_apParam hV H (fun _ H => ?_); cbv)
   | (refine s_apL hV.rParam hV.nParam H (fun _ H => ?_); cbv)
   | (refine s_lv H (fun _ H => ?_); cbv)
   | (refine s_loop hA H (fun s h => hb0  s h) [2, 3, 4] [192, 256] (fun e s => [(7, .ref 832 0 1 0 (V.nS (s.2))), (8, .int .i64 (s.1))]) (fun e s => [(832, ⟨0, true, 1, .many (V.rS (s.2))⟩)]) [] pin_spec_firstName nbOf ?_; rintro ⟨x54, x55⟩ H; unfold spec_firstName.b0 at H; (try dsimp only at H); cbv)
   | (refine s_loop hA H (fun s h => hb1  s h) [2, 3, 4] [192, 256] (fun e s => [(7, .ref 832 0 1 0 (V.nS (s.2))), (9, .int .i64 (s.1))]) (fun e s => [(832, ⟨0, true, 1, .many (V.rS (s.2))⟩)]) [] pin_spec_firstName nbOf ?_; rintro ⟨x130, x131⟩ H; unfold spec_firstName.b1 at H; (try dsimp only at H); cbv)
   | (refine s_loop hA H (fun s h => hb2 _ s h) [2, 3, 4, 7] [192, 256, 832] (fun e s => [(10, .str ⟨⟨s⟩⟩)]) (fun e s => []) [] pin_spec_firstName nbOf ?_; rintro x157 H; unfold spec_firstName.b2 at H; (try dsimp only at H); cbv)
   | (refine s_loop hA H (fun s h => hb3 _ _ s h) [2, 3, 4, 7, 11] [192, 256, 3520, 3712] (fun e s => [(12, .int .i64 s)]) (fun e s => []) [] pin_spec_firstName nbOf ?_; rintro x177 H; unfold spec_firstName.b3 at H; (try dsimp only at H); cbv)
  | (with_reducible refine s_next H pin_spec_firstName nbOf)
  | with_reducible first
   | (refine s_cb hA H (by (try simp only [hV.rS, hV.rParam]); with_unfolding_all exact spec_hasText.ok hm hz hG) rfl (fun H => ?_) (fun H => ?_) <;> cbv)
   | (refine s_rb (by assumption) H (by (try simp only [hV.rS, hV.rParam]); with_unfolding_all exact spec_hasText.ok hm hz hG) (fun H => ?_) (fun H => ?_) <;> cbv)
   | (refine s_cs hA H (by (try simp only [hV.rS, hV.rParam]); (first | (have hk_ := spec_nextName.ok hm hz hG hg; with_unfolding_all exact hk_) | (with_unfolding_all exact spec_nextName.ok hm hz hG (by first | assumption | omega)))) rfl (fun _ H => ?_); cbv)
   | (refine s_cFLS hV hA H (by (try simp only [hV.rS, hV.rParam]); (first | (have hk_ := spec_sortedTexts.ok hm hz hG hg; with_unfolding_all exact hk_) | (with_unfolding_all exact spec_sortedTexts.ok hm hz hG (by first | assumption | omega)))) rfl (fun _ H => ?_); cbv)
   | (refine s_rFLS (by assumption) hV H (by (try simp only [hV.rS, hV.rParam]); (first | (have hk_ := spec_sortedTexts.ok hm hz hG hg; with_unfolding_all exact hk_) | (with_unfolding_all exact spec_sortedTexts.ok hm hz hG (by first | assumption | omega)))) (fun _ H => ?_); cbv)
   | (refine callT_cl (g := 104) hA (fun U hU => ?_); cbv)
   | (refine s_cFLS hV hA H (by (try simp only [hV.rS, hV.rParam]); (first | (have hk_ := spec_needs.ok hm hz hG hg; with_unfolding_all exact hk_) | (with_unfolding_all exact spec_needs.ok hm hz hG (by first | assumption | omega)))) rfl (fun _ H => ?_); cbv)
   | (refine s_cb hA H (by (try simp only [hV.rS, hV.rParam]); (first | (have hk_ := spec_allows.ok hm hz hG hg; with_unfolding_all exact hk_) | (with_unfolding_all exact spec_allows.ok hm hz hG (by first | assumption | omega)))) rfl (fun H => ?_) (fun H => ?_) <;> cbv)
   | (refine callT_cl hA (fun U hU => ?_); cbv)
   | (refine indep_of hA ?_; cbv)
  | ((with_reducible refine side ?_); exact sideOf)
  | with_reducible first
   | (refine s_tkG hV.rS hV.nS ?_; cbv)
   | (refine s_tkG hV.rParam hV.nParam ?_; cbv)
   | (refine s_tk1 ?_; cbv)
  | (with_reducible refine And.intro ?_ ?_)
  | ((with_reducible refine s_cn H (fun hb H => ?_) (fun hb H => ?_)) <;> (revert H; subst hb; intro H; cbv))
  | (intro ys hys; subst hys; rfl)
  | rfl)
theorem spec_firstName.ok {a1 : List Param} {a2 : List Param} {a3 : Int} (hp : VN a1 ∧ VN a2 ∧ 0 ≤ a3) : FnOK pg G 141 [.agg [.sl (a1.map eParam)], .agg [.sl (a2.map eParam)], .int .i64 a3] [] (.str ⟨⟨(((fun (a b : Sig) (n : Int) => firstN a.params b.params n.toNat) ⟨a1⟩ ⟨a2⟩ a3))⟩⟩) [] false := by
 obtain ⟨va, vb, p3⟩ := hp
 have la := va.len
 have lb := vb.len
 have lp := parNames_len va vb
 refine @spec_firstName.w G hm hz hG a1 a2 a3
  (fun s => 0 ≤ s.1 ∧ s.1 ≤ a1.length ∧ s.2 = (a1.take s.1.toNat).map (·.name)) (fun s => a1.length - s.1.toNat) (fun _ => firstN a1 a2 a3.toNat)
  (fun s => 0 ≤ s.1 ∧ s.1 ≤ a2.length ∧ s.2 = a1.map (·.name) ++ (a2.take s.1.toNat).map (·.name)) (fun s => a2.length - s.1.toNat) (fun _ => firstN a1 a2 a3.toNat)
  (fun (l : List Str) (s : Str) => l = parNames a1 a2 ∧ ∃ k : Nat, gens[k]? = some s ∧ ∀ (j : Nat) (g : Str), j < k → gens[j]? = some g → l.contains g = true) (fun (_ : List Str) (s : Str) => 40 - gens.findIdx (fun g => some g == some s)) (fun _ _ => firstN a1 a2 a3.toNat)
  (fun l nd i => l.length ≤ 100 ∧ nd = needsT a1 a3.toNat ∧ 0 ≤ i ∧ i ≤ l.length ∧ ((l.drop i.toNat).find? (refP a1 a2 a3.toNat)).getD [] = firstN a1 a2 a3.toNat) (fun l _ i => l.length - i.toNat) (fun _ _ _ => firstN a1 a2 a3.toNat) ?_ ?_ ?_ ?_ _ ?_
 ·rintro ⟨i, out⟩ ⟨h0, h1, ho⟩
  simp only at h0 h1 ho
  have hol : out.length ≤ a1.length := by rw [ho]; exact map_take_le
  simp only [spec_firstName.b0]
  refine ln_ok fun hB => ?_
  refine ite_ok (fun h => ?_) (fun h => ?_)
  ·obtain ⟨p, hp⟩ : ∃ p, a1[i.toNat]? = some p := ⟨_, List.getElem?_eq_getElem (by omega)⟩
   rw [ixParam_ok h0 hp, gd_ok (by omega)]
   simp only [lv]
   rw [arr_ok (by omega), LI_ok ⟨⟨by simp only; omega, by simp only; omega, by simp only; rw [ho, ← map_take_snoc (f := fun p : Param => p.name) h0 hp]⟩, by simp only; omega⟩]
  ·rw [take_len (by omega)] at ho
   rw [EI_ok ⟨Int.le_refl 0, by simp only; omega, by simp [ho]⟩]
 ·rintro ⟨i, out⟩ ⟨h0, h1, ho⟩
  simp only at h0 h1 ho
  have hol : out.length ≤ 16 := by
   rw [ho, List.length_append, List.length_map, List.length_map, List.length_take]; omega
  simp only [spec_firstName.b1]
  refine ln_ok fun hB => ?_
  refine ite_ok (fun h => ?_) (fun h => ?_)
  ·obtain ⟨p, hp⟩ : ∃ p, a2[i.toNat]? = some p := ⟨_, List.getElem?_eq_getElem (by omega)⟩
   rw [ixParam_ok h0 hp, gd_ok (by omega)]
   simp only [lv]
   rw [arr_ok (by omega), LI_ok ⟨⟨by simp only; omega, by simp only; omega, by simp only; rw [ho, List.append_assoc, ← map_take_snoc (f := fun p : Param => p.name) h0 hp]⟩, by simp only; omega⟩]
  ·rw [take_len (by omega)] at ho
   rw [EI_ok ⟨ho, 0, by decide, fun j g hj => by omega⟩]
 ·rintro l s ⟨hl, k, hs, hk⟩
  have hk40 : k < 40 := by have := (List.getElem?_eq_some_iff.1 hs).1; rw [gens_len] at this; exact this
  have hi := gens_idx k hk40
  rw [hs] at hi
  simp only [spec_firstName.b2, cn_ite]
  have hsn : isName s = true := gens_name s (List.mem_of_getElem? hs)
  refine ite_ok (fun c => ?_) (fun c => ?_)
  ·have hk39 := fresh_more (by rw [hl]; omega) hs hk c
   rw [gd_ok hsn]
   simp only [lv]
   have hnx := gens_next k hk39
   rw [hs] at hnx
   have hi2 := gens_idx (k + 1) (by omega)
   rw [hnx] at hi2
   rw [LI_ok ⟨⟨hl, k + 1, hnx, fun j g hj hg => by
    by_cases e : j = k
    ·subst e; rw [hs] at hg; cases hg; exact c
    ·exact hk j g (by omega) hg⟩, by simp only [Option.map_some] at hi2; omega⟩]
  ·have hf := fresh_at hs hk (Bool.eq_false_iff.2 c)
   have hll : l.length ≤ 16 := by rw [hl]; exact lp
   rw [gd_ok (by omega)]
   simp only [lv]
   rw [gd_ok (by simp; omega)]
   simp only [on_LS]
   rw [gd_ok ⟨p3, by omega⟩]
   have hsl := sortT_len (l ++ [s])
   rw [List.length_append, List.length_singleton] at hsl
   rw [EI_ok ⟨by omega, by trivial, Int.le_refl 0, by omega, by simp only [Int.toNat_zero, List.drop_zero]; rw [firstN, ← hl, hf]⟩]
 ·rintro l nd i ⟨hl, hnd, h0, h1, hf⟩
  simp only [spec_firstName.b3, cn_ite]
  refine ln_ok fun hB => ?_
  refine ite_ok (fun h => ?_) (fun h => ?_)
  ·obtain ⟨x, hx⟩ : ∃ x, l[i.toNat]? = some x := ⟨_, List.getElem?_eq_getElem (by omega)⟩
   rw [dropS h0 hx, List.find?_cons] at hf
   have next : refP a1 a2 a3.toNat x = false → (arr .i64 (i + 1) fun u => LI (fun i : Int => l.length ≤ 100 ∧ nd = needsT a1 a3.toNat ∧ 0 ≤ i ∧ i ≤ l.length ∧ ((l.drop i.toNat).find? (refP a1 a2 a3.toNat)).getD [] = firstN a1 a2 a3.toNat) (fun i => l.length - i.toNat) (fun _ => firstN a1 a2 a3.toNat) (l.length - i.toNat) u) = some (firstN a1 a2 a3.toNat) := by
    intro e
    rw [e] at hf
    rw [arr_ok (by omega), LI_ok ⟨⟨hl, hnd, by omega, by omega, hf⟩, by omega⟩]
   rw [ia_ok (by omega), rnS_ok hx, gd_ok p3]
   refine ite_ok (fun c1 => ?_) (fun c1 => next (by simp [refP, c1]))
   rw [ia_ok (by omega), rnS_ok hx]
   refine ite_ok (fun c2 => next (by rw [hnd] at c2; simp only [refP, c2, Bool.not_true, Bool.and_false, Bool.false_and])) (fun c2 => ?_)
   rw [ia_ok (by omega), rnS_ok hx, gd_ok p3]
   refine ite_ok (fun c3 => next (by simp [refP, c3])) (fun c3 => ?_)
   rw [ia_ok (by omega), rnS_ok hx]
   have : refP a1 a2 a3.toNat x = true := by
    rw [hnd] at c2
    simp only [refP, c1, Bool.eq_false_iff.2 c2, Bool.eq_false_iff.2 c3, Bool.not_false, Bool.and_true]
   rw [this] at hf
   rw [← hf]; rfl
  ·rw [List.drop_eq_nil_of_le (by omega)] at hf
   rw [← hf]; rfl
 ·simp only [spec_firstName.f]
  rw [EI_ok ⟨Int.le_refl 0, by simp only; omega, by simp⟩]
end
def shOf (n : Int) : Option (List Str) → Shape × Bool
 | some y => (⟨n, y⟩, true)
 | none => (⟨0, []⟩, false)
theorem needsT_len {A : List Param} (h : VN A) (n : Nat) : (needsT A n).length ≤ 8 := by
 refine Nat.le_trans (sortT_len _) ?_
 unfold needL
 rw [List.length_map]
 refine Nat.le_trans (List.length_filter_le _ _) ?_
 rw [List.length_zipIdx]; exact h.len
theorem flatV_names (n : Int) (l : List Str) : (flatV n l).names.map (·.name) = l := by unfold flatV; simp [Function.comp_def]
theorem acc_flat {B : List Param} (hb : VN B) {n : Int} {l : List Str} (hl : l.Nodup) : wrongV B (flatV n l) = [] ↔ accS B n.toNat l := by
 have := @acc_iff B hb.toVP (flatV n l) (by rw [flatV_names]; exact hl)
 rw [flatV_names] at this
 rw [this]; unfold flatV; simp
def on_Flat {R : Type} (v : Flat) (f : (List Int) → (List Pair) → Option R) : Option R := f (v.places) (v.names)
section
variable {A : Bx} {P : Program} {G : Glob} {rg : Option Nat} {own : Nat} {o : Nat → EObj} {g : FuncId} {vs : List C} {sh : Bool} {K : C → List (Nat × EObj) → Prop} {R : Type} {r : R} {V : Vx} {v : Flat} {f : (List Int) → (List Pair) → Option R}
theorem s_cFFlat (hV : IsV V) (hA : IsBx true rg P G A) (H : on_Flat v f = some r) (hok : FnOK P G g vs [] (.agg [.fr 1 ((v.places).map eI), .fr 2 ((v.names).map ePair)]) [] sh) (hc : vs.all closedArg = true) (h : ∀ c0 c1, f c0 c1 = some r → K (.agg [.ref (own + 0) ((o (own + 0)).gen + 1) 1 0 (V.nI c0), .ref (own + 1) ((o (own + 1)).gen + 1) 2 0 (V.nPair c1)]) [(own + 0, ⟨(o (own + 0)).gen + 1, true, 1, .many (V.rI c0)⟩), (own + 1, ⟨(o (own + 1)).gen + 1, true, 2, .many (V.rPair c1)⟩)]) : A.call own o g vs K := by
 refine callT_plain hA hok hc ?_
 have := h (v.places) (v.names) H
 rw [show V.nI (v.places) = ((v.places).map eI).length by rw [hV.nI, List.length_map]] at this
 rw [show V.nPair (v.names) = ((v.names).map ePair).length by rw [hV.nPair, List.length_map]] at this
 simp only [hV.rI, hV.rPair] at this
 exact this
theorem s_rFFlat {U : List C → List EObj → (C → List (Nat × EObj) → Prop) → Prop} {bs : List C} {ext : List EObj} (hU : U = callR P G own o g) (hV : IsV V) (H : on_Flat v f = some r) (hok : FnOK P G g bs (ext.map EObj.toObj) (.agg [.fr 1 ((v.places).map eI), .fr 2 ((v.names).map ePair)]) (ext.map EObj.toObj) false) (h : ∀ c0 c1, f c0 c1 = some r → K (.agg [.ref (own + 0) ((o (own + 0)).gen + 1) 1 0 (V.nI c0), .ref (own + 1) ((o (own + 1)).gen + 1) 2 0 (V.nPair c1)]) [(own + 0, ⟨(o (own + 0)).gen + 1, true, 1, .many (V.rI c0)⟩), (own + 1, ⟨(o (own + 1)).gen + 1, true, 2, .many (V.rPair c1)⟩)]) : U bs ext K := by
 refine callR_of hU hok ?_
 have := h (v.places) (v.names) H
 rw [show V.nI (v.places) = ((v.places).map eI).length by rw [hV.nI, List.length_map]] at this
 rw [show V.nPair (v.names) = ((v.names).map ePair).length by rw [hV.nPair, List.length_map]] at this
 simp only [hV.rI, hV.rPair] at this
 exact this
variable {U : List C → List Nat → (C → List (Nat × EObj) → Prop) → Prop} {bs : List C} {tops : List Nat}
end
noncomputable def spec_refusedAt.f (a1 : List Param) (a2 : List Param) (a3 : Int)  (z_ : Shape × Bool) : Option (Shape × Bool) := (gd (0 ≤ a3 ∧ a1.length ≤ 1000000 ∧ a3 ≤ 1000000) (cn ((fun (s : Sig) (n : Int) => takesCountB s.params n.toNat) (⟨a1⟩) a3) (gd (0 ≤ a3 ∧ a1.length ≤ 1000) (on_LS ((fun (s : Sig) (n : Int) => needsT s.params n.toNat) (⟨a1⟩) a3) fun v5 => (gd (0 ≤ a3 ∧ a3 ≤ 1000 ∧ v5.length ≤ 1000) (on_Flat ((fun (x : Shape) => flatV x.count x.names) (⟨a3, v5⟩)) fun v8 v9 => (gd (VN a2 ∧ v8.length ≤ 8 ∧ v9.length ≤ 8) (cn ((fun (s : Sig) (f : Flat) => decide (wrongV s.params f = [])) (⟨a2⟩) (⟨v8, v9⟩)) (ln' z_ (v5.length) fun v11 => (if 8 ≤ v11 then (some (⟨0, []⟩, false)) else (gd (VN a1 ∧ VN a2 ∧ 0 ≤ a3) (lv ((fun (a b : Sig) (n : Int) => firstN a.params b.params n.toNat) (⟨a1⟩) (⟨a2⟩) a3) fun v12 => (if v12 = ([] : Str) then (some (⟨0, []⟩, false)) else (gd ((v5.length + 1) * 16 ≤ 140737488355328) (lv (v5 ++ [v12]) fun v15 => (gd (v15.length ≤ 1000000) (on_LS (sortT v15) fun v16 => (some (⟨a3, v16⟩, true))))))))))) (some (⟨a3, v5⟩, true)))))))) (some (⟨0, []⟩, false))))
section
variable {G : Glob} (hm : Hm) (hz : Hz) (hG : GF G)
include hm hz hG
theorem spec_refusedAt.w {a1 : List Param} {a2 : List Param} {a3 : Int}  {r : Shape × Bool} (H : spec_refusedAt.f a1 a2 a3  r = some r) : FnOK pg G 94 [.agg [.sl (a1.map eParam)], .agg [.sl (a2.map eParam)], .int .i64 a3] [] (.tup [.agg [.int .i64 (r.1.count), .sl ((r.1.names).map eS)], .bool (r.2)]) [] true := by
 obtain ⟨V, hV⟩ := exV
 have e0_I : V.rI [] = [] := hV.rI []
 have e1_I : ∀ x r, V.rI (x :: r) = eI x :: V.rI r := fun x r => by rw [hV.rI, hV.rI]; rfl
 have e0_S : V.rS [] = [] := hV.rS []
 have e1_S : ∀ x r, V.rS (x :: r) = eS x :: V.rS r := fun x r => by rw [hV.rS, hV.rS]; rfl
 have e0_Pair : V.rPair [] = [] := hV.rPair []
 have e1_Pair : ∀ x r, V.rPair (x :: r) = ePair x :: V.rPair r := fun x r => by rw [hV.rPair, hV.rPair]; rfl
 have e0_Param : V.rParam [] = [] := hV.rParam []
 have e1_Param : ∀ x r, V.rParam (x :: r) = eParam x :: V.rParam r := fun x r => by rw [hV.rParam, hV.rParam]; rfl
 simp only [← hV.rI, ← hV.rS, ← hV.rPair, ← hV.rParam]
 refine fn_okS (tt0 := tyG [ty3, ty4, ty9, ty27, ty29, ty39, ty45, ty47, ty65, ty68, ty70, ty136]) (fn := Tryz.f94) (body := bodyOf Tryz.f94) (ext := []) hm (tyG_sub ⟨tt3, tt4, tt9, tt27, tt29, tt39, tt45, tt47, tt65, tt68, tt70, tt136, trivial⟩) hz 0 [] (by unfold pg; exact Tryz.func94) rfl rfl (by simp [Tryz.f94]) (by simp [EObj.toObj]) (by cbv) ?_
 intro A F hA hF
 unfold spec_refusedAt.f at H
 cbv
 repeat' (first
  | (with_reducible refine s_gd H (fun hg H => ?_))
  | (cases H; (try simp only [e0_I, e0_S, e0_Pair, e0_Param, e1_I, eI, e1_S, eS, e1_Pair, ePair, e1_Param, eParam] at hF); with_reducible refine fin_close hF rfl (by simp [expIds, posCells, C.cells, idOf]) ?_; cbv)
  | ((with_reducible first | refine s_lt H ?_ ?_ | refine s_le H ?_ ?_ | refine s_eq H ?_ ?_ | refine s_ne H ?_ ?_) <;> intro H <;> cbv)
  | with_reducible first
   | (refine s_ln H lnOf (fun _ H => ?_); cbv)
   | (refine s_apI hV H (fun _ H => ?_); cbv)
   | (refine s_apL hV.rI hV.nI H (fun _ H => ?_); cbv)
   | (refine s_apS hV H (fun _ H => ?_); cbv)
   | (refine s_apL hV.rS hV.nS H (fun _ H => ?_); cbv)
   | (refine s_apPair hV H (fun _ H => ?_); cbv)
   | (refine s_apL hV.rPair hV.nPair H (fun _ H => ?_); cbv)
   | (refine s_apParam hV H (fun _ H => ?_); cbv)
   | (refine s_apL hV.rParam hV.nParam H (fun _ H => ?_); cbv)
   | (refine s_lv H (fun _ H => ?_); cbv)
   | (refine s_cb hA H (by (try simp only [hV.rI, hV.rS, hV.rPair, hV.rParam]); (first | (have hk_ := spec_takesCount.ok hm hz hG hg; with_unfolding_all exact hk_) | (with_unfolding_all exact spec_takesCount.ok hm hz hG (by first | assumption | omega)))) rfl (fun H => ?_) (fun H => ?_) <;> cbv)
   | (refine s_cFLS hV hA H (by (try simp only [hV.rI, hV.rS, hV.rPair, hV.rParam]); (first | (have hk_ := spec_needs.ok hm hz hG hg; with_unfolding_all exact hk_) | (with_unfolding_all exact spec_needs.ok hm hz hG (by first | assumption | omega)))) rfl (fun _ H => ?_); cbv)
   | (refine s_cFFlat hV hA H (by (try simp only [hV.rI, hV.rS, hV.rPair, hV.rParam]); (first | (have hk_ := spec_flatOf.ok hm hz hG hg; with_unfolding_all exact hk_) | (with_unfolding_all exact spec_flatOf.ok hm hz hG (by first | assumption | omega)))) rfl (fun _ _ H => ?_); cbv)
   | (refine s_rFFlat (by assumption) hV H (by (try simp only [hV.rI, hV.rS, hV.rPair, hV.rParam]); (first | (have hk_ := spec_flatOf.ok hm hz hG hg; with_unfolding_all exact hk_) | (with_unfolding_all exact spec_flatOf.ok hm hz hG (by first | assumption | omega)))) (fun _ _ H => ?_); cbv)
   | (refine callT_cl (g := 107) hA (fun U hU => ?_); cbv)
   | (refine s_cb hA H (by (try simp only [hV.rI, hV.rS, hV.rPair, hV.rParam]); (first | (have hk_ := spec_accepts.ok hm hz hG hg; with_unfolding_all exact hk_) | (with_unfolding_all exact spec_accepts.ok hm hz hG (by first | assumption | omega)))) rfl (fun H => ?_) (fun H => ?_) <;> cbv)
   | (refine s_rb (by assumption) H (by (try simp only [hV.rI, hV.rS, hV.rPair, hV.rParam]); (first | (have hk_ := spec_accepts.ok hm hz hG hg; with_unfolding_all exact hk_) | (with_unfolding_all exact spec_accepts.ok hm hz hG (by first | assumption | omega)))) (fun H => ?_) (fun H => ?_) <;> cbv)
   | (refine s_cs hA H (by (try simp only [hV.rI, hV.rS, hV.rPair, hV.rParam]); (first | (have hk_ := spec_firstName.ok hm hz hG hg; with_unfolding_all exact hk_) | (with_unfolding_all exact spec_firstName.ok hm hz hG (by first | assumption | omega)))) rfl (fun _ H => ?_); cbv)
   | (refine s_cFLS hV hA H (by (try simp only [hV.rI, hV.rS, hV.rPair, hV.rParam]); (first | (have hk_ := spec_sortedTexts.ok hm hz hG hg; with_unfolding_all exact hk_) | (with_unfolding_all exact spec_sortedTexts.ok hm hz hG (by first | assumption | omega)))) rfl (fun _ H => ?_); cbv)
   | (refine s_rFLS (by assumption) hV H (by (try simp only [hV.rI, hV.rS, hV.rPair, hV.rParam]); (first | (have hk_ := spec_sortedTexts.ok hm hz hG hg; with_unfolding_all exact hk_) | (with_unfolding_all exact spec_sortedTexts.ok hm hz hG (by first | assumption | omega)))) (fun _ H => ?_); cbv)
   | (refine callT_cl (g := 104) hA (fun U hU => ?_); cbv)
   | (refine callT_cl hA (fun U hU => ?_); cbv)
   | (refine indep_of hA ?_; cbv)
  | ((with_reducible refine side ?_); exact sideOf)
  | with_reducible first
   | (refine s_tkG hV.rI hV.nI ?_; cbv)
   | (refine s_tkG hV.rS hV.nS ?_; cbv)
   | (refine s_tkG hV.rPair hV.nPair ?_; cbv)
   | (refine s_tkG hV.rParam hV.nParam ?_; cbv)
   | (refine s_tk1 ?_; cbv)
  | (with_reducible refine And.intro ?_ ?_)
  | ((with_reducible refine s_cn H (fun hb H => ?_) (fun hb H => ?_)) <;> (revert H; subst hb; intro H; cbv))
  | (intro ys hys; subst hys; rfl)
  | rfl)
theorem spec_refusedAt.ok {a1 : List Param} {a2 : List Param} {a3 : Int} (hp : VN a1 ∧ VN a2 ∧ 0 ≤ a3 ∧ a3 ≤ 8) : FnOK pg G 94 [.agg [.sl (a1.map eParam)], .agg [.sl (a2.map eParam)], .int .i64 a3] [] (.tup [.agg [.int .i64 (((fun (a b : Sig) (n : Int) => shOf n (refAt a.params b.params n.toNat)) ⟨a1⟩ ⟨a2⟩ a3).1.count), .sl ((((fun (a b : Sig) (n : Int) => shOf n (refAt a.params b.params n.toNat)) ⟨a1⟩ ⟨a2⟩ a3).1.names).map eS)], .bool (((fun (a b : Sig) (n : Int) => shOf n (refAt a.params b.params n.toNat)) ⟨a1⟩ ⟨a2⟩ a3).2)]) [] true := by
 obtain ⟨va, vb, p0, p1⟩ := hp
 have la := va.len
 have nl := needsT_len va a3.toNat
 refine spec_refusedAt.w hm hz hG ?_
 simp only [spec_refusedAt.f, cn_ite]
 rw [gd_ok ⟨p0, by omega, by omega⟩]
 unfold refAt
 refine ite_ok (fun c1 => ?_) (fun c1 => by rw [if_neg c1]; rfl)
 rw [if_pos c1, gd_ok ⟨p0, by omega⟩]
 simp only [on_LS]
 rw [gd_ok ⟨p0, by omega, by omega⟩]
 simp only [on_Flat]
 rw [gd_ok ⟨vb, by unfold flatV; simp; omega, by unfold flatV; simp; omega⟩]
 have hA := @acc_flat a2 vb a3 (needsT a1 a3.toNat) (asc_nodup (asc_sortT _))
 refine ite_ok (fun c2 => ?_) (fun c2 => ?_)
 ·rw [if_pos ((accB_iff vb.toVP).2 (hA.1 (of_decide_eq_true c2)))]
  refine ln_ok fun hB => ?_
  refine ite_ok (fun c3 => by rw [if_neg (by omega)]; rfl) (fun c3 => ?_)
  rw [if_pos (by omega), gd_ok ⟨va, vb, p0⟩]
  have lp := parNames_len va vb
  obtain ⟨f, hf⟩ := fresh_ex (pn := parNames a1 a2) (by omega)
  have e1 : freshN (parNames a1 a2) = f := by unfold freshN; rw [hf]; rfl
  have e2 : firstN a1 a2 a3.toNat = ((sortT (parNames a1 a2 ++ gens)).find? (refP a1 a2 a3.toNat)).getD [] := by rw [firstN, e1, ref_cand hf]
  simp only [lv]
  cases ec : (sortT (parNames a1 a2 ++ gens)).find? (refP a1 a2 a3.toNat) with
  | none =>
   rw [ec] at e2
   rw [if_pos (by rw [e2]; rfl)]; rfl
  | some x =>
   rw [ec] at e2
   obtain ⟨m, _, _⟩ := (find_asc (asc_sortT _)).1 ec
   have hx := cand_name va vb m
   simp only [Option.getD_some] at e2
   rw [if_neg (by rw [e2]; intro h; rw [h] at hx; cases hx), gd_ok (by omega)]
   rw [gd_ok (by simp; omega), e2]
   try simp only [on_LS]
   rw [sortT_snoc]
   unfold needsT
   rw [sortT_asc (asc_sortT _)]
   rfl
 ·rw [if_neg (fun h => c2 (decide_eq_true (hA.2 ((accB_iff vb.toVP).1 h))))]
  rfl
end
noncomputable def spec_twoSignatures.f (a1 : List Param) (a2 : List Param)  (z_ : Bool) : Option (Bool) := (cn ((fun (s : Sig) => validParams s.params) (⟨a1⟩)) (cn ((fun (s : Sig) => validParams s.params) (⟨a2⟩)) (some true) (some false)) (some false))
section
variable {G : Glob} (hm : Hm) (hz : Hz) (hG : GF G)
include hm hz hG
theorem spec_twoSignatures.w {a1 : List Param} {a2 : List Param}  {r : Bool} (H : spec_twoSignatures.f a1 a2  r = some r) : FnOK pg G 55 [.agg [.sl (a1.map eParam)], .agg [.sl (a2.map eParam)]] [] (.bool r) [] false := by
 obtain ⟨V, hV⟩ := exV
 simp only [← hV.rParam]
 refine fn_ok (tt0 := tyG [ty3, ty4, ty9, ty27, ty29, ty65]) (fn := Tryz.f55) (body := bodyOf Tryz.f55) (ext := []) hm (tyG_sub ⟨tt3, tt4, tt9, tt27, tt29, tt65, trivial⟩) hz 0 true [] (by unfold pg; exact Tryz.func55) rfl rfl (by simp [Tryz.f55]) (by simp [EObj.toObj]) (by cbv) ?_
 intro A F hA hF
 unfold spec_twoSignatures.f at H
 cbv
 repeat' (first
  | (cases H; exact fin_plain hF rfl rfl rfl rfl)
  | with_reducible first
   | (refine s_lv H (fun _ H => ?_); cbv)
   | (refine s_cb hA H (by (try simp only [hV.rParam]); with_unfolding_all exact spec_validSignature.ok hm hz hG) rfl (fun H => ?_) (fun H => ?_) <;> cbv)
   | (refine indep_of hA ?_; cbv)
  | ((with_reducible refine side ?_); exact sideOf)
  | with_reducible first
   | (refine s_tkG hV.rParam hV.nParam ?_; cbv)
   | (refine s_tk1 ?_; cbv)
  | (with_reducible refine And.intro ?_ ?_)
  | ((with_reducible refine s_cn H (fun hb H => ?_) (fun hb H => ?_)) <;> (revert H; subst hb; intro H; cbv))
  | (intro ys hys; subst hys; rfl)
  | rfl)
theorem spec_twoSignatures.ok {a1 : List Param} {a2 : List Param}  : FnOK pg G 55 [.agg [.sl (a1.map eParam)], .agg [.sl (a2.map eParam)]] [] (.bool (((fun (a b : Sig) => validParams a.params && validParams b.params) ⟨a1⟩ ⟨a2⟩))) [] false := by
 refine spec_twoSignatures.w hm hz hG ?_
 simp only [spec_twoSignatures.f, cn_ite]
 repeat' split
 all_goals simp_all
end
def frV (A B : List Param) : Shape × Bool :=
 if (validParams A && validParams B) = true then (match refusedV A B with | some y => (⟨(y.1 : Int), y.2⟩, true) | none => (⟨0, []⟩, false)) else (⟨0, []⟩, false)
def frOf : Option (Nat × List Str) → Shape × Bool
 | some y => (⟨(y.1 : Int), y.2⟩, true)
 | none => (⟨0, []⟩, false)
theorem frV_eq (A B : List Param) : frV A B = if (validParams A && validParams B) = true then frOf (refusedV A B) else (⟨0, []⟩, false) := by
 unfold frV; split
 ·cases refusedV A B <;> rfl
 ·rfl
def on_Shape_B {R : Type} (v : Shape × Bool) (f : Int → (List Str) → Bool → Option R) : Option R := f (v.1.count) (v.1.names) (v.2)
section
variable {A : Bx} {P : Program} {G : Glob} {rg : Option Nat} {own : Nat} {o : Nat → EObj} {g : FuncId} {vs : List C} {sh : Bool} {K : C → List (Nat × EObj) → Prop} {R : Type} {r : R} {V : Vx} {v : Shape × Bool} {f : Int → (List Str) → Bool → Option R}
theorem s_cShape_B (hV : IsV V) (hA : IsBx true rg P G A) (H : on_Shape_B v f = some r) (hok : FnOK P G g vs [] (.tup [.agg [.int .i64 (v.1.count), .sl ((v.1.names).map eS)], .bool (v.2)]) [] sh) (hc : vs.all closedArg = true) (h : ∀ c0 c1 c2, f c0 c1 c2 = some r → K (.tup [.agg [.int .i64 c0, .sl (V.rS c1)], .bool c2]) []) : A.call own o g vs K := by
 refine callT_plain hA hok hc ?_
 have := h (v.1.count) (v.1.names) (v.2) H
 simp only [hV.rS] at this
 exact this
variable {U : List C → List Nat → (C → List (Nat × EObj) → Prop) → Prop} {bs : List C} {tops : List Nat}
end
noncomputable def spec_FirstRefused.b0 (a1 : List Param) (a2 : List Param)  (h0 : (Int) → Option (Shape × Bool)) (z_ : Shape × Bool) (x56 : Int) : Option (Shape × Bool) := (if x56 ≤ 8 then (gd (VN a1 ∧ VN a2 ∧ 0 ≤ x56 ∧ x56 ≤ 8) (on_Shape_B ((fun (a b : Sig) (n : Int) => shOf n (refAt a.params b.params n.toNat)) (⟨a1⟩) (⟨a2⟩) x56) fun v79 v80 v81 => (cn v81 (some (⟨v79, v80⟩, true)) (arr .i64 (x56 + 1) fun v82 => (h0 v82))))) else (some (⟨0, []⟩, false)))
noncomputable def spec_FirstRefused.f (a1 : List Param) (a2 : List Param) (h0 : (Int) → Option (Shape × Bool)) (z_ : Shape × Bool) : Option (Shape × Bool) := (cn ((fun (a b : Sig) => validParams a.params && validParams b.params) (⟨a1⟩) (⟨a2⟩)) (h0 0) (some (⟨0, []⟩, false)))
section
variable {G : Glob} (hm : Hm) (hz : Hz) (hG : GF G)
include hm hz hG
set_option maxHeartbeats 8000000 in
theorem spec_FirstRefused.w {a1 : List Param} {a2 : List Param} (inv0 : (Int) → Prop) (mu0 : (Int) → Nat) (res0 : (Int) → Shape × Bool) (hb0 : ∀ (s_ : Int), inv0  s_ → spec_FirstRefused.b0 a1 a2  (LI (inv0 ) (mu0 ) (res0 ) (mu0  s_)) (res0  s_) s_ = some (res0  s_)) {r : Shape × Bool} (H : spec_FirstRefused.f a1 a2 (EI (inv0 ) (mu0 ) (res0 )) r = some r) : FnOK pg G 44 [.agg [.sl (a1.map eParam)], .agg [.sl (a2.map eParam)]] [] (.tup [.agg [.int .i64 (r.1.count), .sl ((r.1.names).map eS)], .bool (r.2)]) [] true := by
 obtain ⟨V, hV⟩ := exV
 have e0_S : V.rS [] = [] := hV.rS []
 have e1_S : ∀ x r, V.rS (x :: r) = eS x :: V.rS r := fun x r => by rw [hV.rS, hV.rS]; rfl
 have e0_Param : V.rParam [] = [] := hV.rParam []
 have e1_Param : ∀ x r, V.rParam (x :: r) = eParam x :: V.rParam r := fun x r => by rw [hV.rParam, hV.rParam]; rfl
 simp only [← hV.rS, ← hV.rParam]
 refine fn_okS (tt0 := tyG [ty3, ty4, ty9, ty27, ty29, ty65, ty68, ty70]) (fn := Tryz.f44) (body := bodyOf Tryz.f44) (ext := []) hm (tyG_sub ⟨tt3, tt4, tt9, tt27, tt29, tt65, tt68, tt70, trivial⟩) hz 0 [] (by unfold pg; exact Tryz.func44) rfl rfl (by simp [Tryz.f44]) (by simp [EObj.toObj]) (by cbv) ?_
 intro A F hA hF
 unfold spec_FirstRefused.f at H
 cbv
 repeat' (first
  | (with_reducible refine s_gd H (fun hg H => ?_))
  | (cases H; (try simp only [e0_S, e0_Param, e1_S, eS, e1_Param, eParam] at hF); with_reducible refine fin_close hF rfl (by simp [expIds, posCells, C.cells, idOf]) ?_; cbv)
  | ((with_reducible first | refine s_lt H ?_ ?_ | refine s_le H ?_ ?_ | refine s_eq H ?_ ?_ | refine s_ne H ?_ ?_) <;> intro H <;> cbv)
  | with_reducible first
   | (refine s_ar H (fun _ H => ?_); cbv)
   | (refine s_lv H (fun _ H => ?_); cbv)
   | (refine s_loop hA H (fun s h => hb0  s h) [2, 3, 4] [128, 192, 256] (fun e s => [(6, .int .i64 s)]) (fun e s => []) [] pin_spec_firstName nbOf ?_; rintro x56 H; unfold spec_FirstRefused.b0 at H; (try dsimp only at H); cbv)
  | (with_reducible refine s_next H pin_spec_firstName nbOf)
  | with_reducible first
   | (refine s_cb hA H (by (try simp only [hV.rS, hV.rParam]); with_unfolding_all exact spec_twoSignatures.ok hm hz hG) rfl (fun H => ?_) (fun H => ?_) <;> cbv)
   | (refine s_cShape_B hV hA H (by (try simp only [hV.rS, hV.rParam]); (first | (have hk_ := spec_refusedAt.ok hm hz hG hg; with_unfolding_all exact hk_) | (with_unfolding_all exact spec_refusedAt.ok hm hz hG (by first | assumption | omega)))) rfl (fun _ _ _ H => ?_); cbv)
   | (refine indep_of hA ?_; cbv)
  | ((with_reducible refine side ?_); exact sideOf)
  | with_reducible first
   | (refine s_tkG hV.rS hV.nS ?_; cbv)
   | (refine s_tkG hV.rParam hV.nParam ?_; cbv)
   | (refine s_tk1 ?_; cbv)
  | (with_reducible refine And.intro ?_ ?_)
  | ((with_reducible refine s_cn H (fun hb H => ?_) (fun hb H => ?_)) <;> (revert H; subst hb; intro H; cbv))
  | (intro ys hys; subst hys; rfl)
  | rfl)
theorem spec_FirstRefused.ok {a1 : List Param} {a2 : List Param}  : FnOK pg G 44 [.agg [.sl (a1.map eParam)], .agg [.sl (a2.map eParam)]] [] (.tup [.agg [.int .i64 (((fun (a b : Sig) => frV a.params b.params) ⟨a1⟩ ⟨a2⟩).1.count), .sl ((((fun (a b : Sig) => frV a.params b.params) ⟨a1⟩ ⟨a2⟩).1.names).map eS)], .bool (((fun (a b : Sig) => frV a.params b.params) ⟨a1⟩ ⟨a2⟩).2)]) [] true := by
 refine @spec_FirstRefused.w G hm hz hG a1 a2 (fun n => VN a1 ∧ VN a2 ∧ 0 ≤ n ∧ n ≤ 9 ∧ frV a1 a2 = frOf (firstRef a1 a2 (9 - n.toNat) n.toNat)) (fun n => 9 - n.toNat) (fun _ => frV a1 a2) ?_ _ ?_
 ·rintro n ⟨va, vb, h0, h1, hf⟩
  simp only [spec_FirstRefused.b0, cn_ite]
  refine ite_ok (fun c => ?_) (fun c => ?_)
  ·rw [show 9 - n.toNat = (9 - (n.toNat + 1)) + 1 by omega, firstRef] at hf
   rw [gd_ok ⟨va, vb, h0, by omega⟩]
   simp only [on_Shape_B]
   cases e : refAt a1 a2 n.toNat with
   | some y =>
    rw [e] at hf
    simp only [shOf, if_true]
    rw [hf]; simp only [frOf]; rw [show ((n.toNat : Nat) : Int) = n by omega]
   | none =>
    rw [e] at hf
    simp only [shOf, Bool.false_eq_true, if_false]
    rw [arr_ok (by omega), LI_ok ⟨⟨va, vb, by omega, by omega, by rw [show (n + 1).toNat = n.toNat + 1 by omega]; simpa only using hf⟩, by omega⟩]
  ·rw [show 9 - n.toNat = 0 by omega, firstRef] at hf
   rw [hf]; rfl
 ·simp only [spec_FirstRefused.f, cn_ite]
  refine ite_ok (fun c => ?_) (fun c => ?_)
  ·have c' := c
   simp only [Bool.and_eq_true] at c'
   rw [EI_ok ⟨validParams_VN c'.1, validParams_VN c'.2, Int.le_refl 0, by decide, by rw [frV_eq, if_pos c]; rfl⟩]
  ·rw [frV_eq, if_neg c]
end
def fitsV (A B : List Param) : Bool := !(frV A B).2
noncomputable def spec_fits.f (a1 : List Param) (a2 : List Param)  (z_ : Bool) : Option (Bool) := (on_Shape_B ((fun (a b : Sig) => frV a.params b.params) (⟨a1⟩) (⟨a2⟩)) fun v6 v7 v8 => (cn v8 (some false) (some true)))
section
variable {G : Glob} (hm : Hm) (hz : Hz) (hG : GF G)
include hm hz hG
theorem spec_fits.w {a1 : List Param} {a2 : List Param}  {r : Bool} (H : spec_fits.f a1 a2  r = some r) : FnOK pg G 56 [.agg [.sl (a1.map eParam)], .agg [.sl (a2.map eParam)]] [] (.bool r) [] false := by
 obtain ⟨V, hV⟩ := exV
 simp only [← hV.rS, ← hV.rParam]
 refine fn_ok (tt0 := tyG [ty3, ty4, ty9, ty27, ty29, ty65, ty68, ty70]) (fn := Tryz.f56) (body := bodyOf Tryz.f56) (ext := []) hm (tyG_sub ⟨tt3, tt4, tt9, tt27, tt29, tt65, tt68, tt70, trivial⟩) hz 0 true [] (by unfold pg; exact Tryz.func56) rfl rfl (by simp [Tryz.f56]) (by simp [EObj.toObj]) (by cbv) ?_
 intro A F hA hF
 unfold spec_fits.f at H
 cbv
 repeat' (first
  | (cases H; exact fin_plain hF rfl rfl rfl rfl)
  | with_reducible first
   | (refine s_lv H (fun _ H => ?_); cbv)
   | (refine s_cShape_B hV hA H (by (try simp only [hV.rS, hV.rParam]); with_unfolding_all exact spec_FirstRefused.ok hm hz hG) rfl (fun _ _ _ H => ?_); cbv)
   | (refine indep_of hA ?_; cbv)
  | ((with_reducible refine side ?_); exact sideOf)
  | with_reducible first
   | (refine s_tkG hV.rS hV.nS ?_; cbv)
   | (refine s_tkG hV.rParam hV.nParam ?_; cbv)
   | (refine s_tk1 ?_; cbv)
  | (with_reducible refine And.intro ?_ ?_)
  | ((with_reducible refine s_cn H (fun hb H => ?_) (fun hb H => ?_)) <;> (revert H; subst hb; intro H; cbv))
  | (intro ys hys; subst hys; rfl)
  | rfl)
theorem spec_fits.ok {a1 : List Param} {a2 : List Param}  : FnOK pg G 56 [.agg [.sl (a1.map eParam)], .agg [.sl (a2.map eParam)]] [] (.bool (((fun (a b : Sig) => fitsV a.params b.params) ⟨a1⟩ ⟨a2⟩))) [] false := by
 refine spec_fits.w hm hz hG ?_
 simp only [spec_fits.f, on_Shape_B, cn_ite, fitsV]
 split <;> simp_all
end
def FitsV (A B : List Param) : Bool := validParams A && validParams B && fitsV A B
noncomputable def spec_Fits.f (a1 : List Param) (a2 : List Param)  (z_ : Bool) : Option (Bool) := (cn ((fun (a b : Sig) => validParams a.params && validParams b.params) (⟨a1⟩) (⟨a2⟩)) (cn ((fun (a b : Sig) => fitsV a.params b.params) (⟨a1⟩) (⟨a2⟩)) (some true) (some false)) (some false))
section
variable {G : Glob} (hm : Hm) (hz : Hz) (hG : GF G)
include hm hz hG
theorem spec_Fits.w {a1 : List Param} {a2 : List Param}  {r : Bool} (H : spec_Fits.f a1 a2  r = some r) : FnOK pg G 16 [.agg [.sl (a1.map eParam)], .agg [.sl (a2.map eParam)]] [] (.bool r) [] false := by
 obtain ⟨V, hV⟩ := exV
 simp only [← hV.rParam]
 refine fn_ok (tt0 := tyG [ty3, ty4, ty9, ty27, ty29, ty65]) (fn := Tryz.f16) (body := bodyOf Tryz.f16) (ext := []) hm (tyG_sub ⟨tt3, tt4, tt9, tt27, tt29, tt65, trivial⟩) hz 0 true [] (by unfold pg; exact Tryz.func16) rfl rfl (by simp [Tryz.f16]) (by simp [EObj.toObj]) (by cbv) ?_
 intro A F hA hF
 unfold spec_Fits.f at H
 cbv
 repeat' (first
  | (cases H; exact fin_plain hF rfl rfl rfl rfl)
  | with_reducible first
   | (refine s_lv H (fun _ H => ?_); cbv)
   | (refine s_cb hA H (by (try simp only [hV.rParam]); with_unfolding_all exact spec_twoSignatures.ok hm hz hG) rfl (fun H => ?_) (fun H => ?_) <;> cbv)
   | (refine s_cb hA H (by (try simp only [hV.rParam]); with_unfolding_all exact spec_fits.ok hm hz hG) rfl (fun H => ?_) (fun H => ?_) <;> cbv)
   | (refine indep_of hA ?_; cbv)
  | ((with_reducible refine side ?_); exact sideOf)
  | with_reducible first
   | (refine s_tkG hV.rParam hV.nParam ?_; cbv)
   | (refine s_tk1 ?_; cbv)
  | (with_reducible refine And.intro ?_ ?_)
  | ((with_reducible refine s_cn H (fun hb H => ?_) (fun hb H => ?_)) <;> (revert H; subst hb; intro H; cbv))
  | (intro ys hys; subst hys; rfl)
  | rfl)
theorem spec_Fits.ok {a1 : List Param} {a2 : List Param}  : FnOK pg G 16 [.agg [.sl (a1.map eParam)], .agg [.sl (a2.map eParam)]] [] (.bool (((fun (a b : Sig) => FitsV a.params b.params) ⟨a1⟩ ⟨a2⟩))) [] false := by
 refine spec_Fits.w hm hz hG ?_
 simp only [spec_Fits.f, cn_ite, FitsV]
 repeat' split
 all_goals simp_all
end
noncomputable def spec_SameShapes.f (a1 : List Param) (a2 : List Param)  (z_ : Bool) : Option (Bool) := (cn ((fun (a b : Sig) => validParams a.params && validParams b.params) (⟨a1⟩) (⟨a2⟩)) (cn ((fun (a b : Sig) => fitsV a.params b.params) (⟨a1⟩) (⟨a2⟩)) (cn ((fun (a b : Sig) => fitsV a.params b.params) (⟨a2⟩) (⟨a1⟩)) (some true) (some false)) (some false)) (some false))
section
variable {G : Glob} (hm : Hm) (hz : Hz) (hG : GF G)
include hm hz hG
theorem spec_SameShapes.w {a1 : List Param} {a2 : List Param}  {r : Bool} (H : spec_SameShapes.f a1 a2  r = some r) : FnOK pg G 20 [.agg [.sl (a1.map eParam)], .agg [.sl (a2.map eParam)]] [] (.bool r) [] false := by
 obtain ⟨V, hV⟩ := exV
 simp only [← hV.rParam]
 refine fn_ok (tt0 := tyG [ty3, ty4, ty9, ty27, ty29, ty65]) (fn := Tryz.f20) (body := bodyOf Tryz.f20) (ext := []) hm (tyG_sub ⟨tt3, tt4, tt9, tt27, tt29, tt65, trivial⟩) hz 0 true [] (by unfold pg; exact Tryz.func20) rfl rfl (by simp [Tryz.f20]) (by simp [EObj.toObj]) (by cbv) ?_
 intro A F hA hF
 unfold spec_SameShapes.f at H
 cbv
 repeat' (first
  | (cases H; exact fin_plain hF rfl rfl rfl rfl)
  | with_reducible first
   | (refine s_lv H (fun _ H => ?_); cbv)
   | (refine s_cb hA H (by (try simp only [hV.rParam]); with_unfolding_all exact spec_twoSignatures.ok hm hz hG) rfl (fun H => ?_) (fun H => ?_) <;> cbv)
   | (refine s_cb hA H (by (try simp only [hV.rParam]); with_unfolding_all exact spec_fits.ok hm hz hG) rfl (fun H => ?_) (fun H => ?_) <;> cbv)
   | (refine indep_of hA ?_; cbv)
  | ((with_reducible refine side ?_); exact sideOf)
  | with_reducible first
   | (refine s_tkG hV.rParam hV.nParam ?_; cbv)
   | (refine s_tk1 ?_; cbv)
  | (with_reducible refine And.intro ?_ ?_)
  | ((with_reducible refine s_cn H (fun hb H => ?_) (fun hb H => ?_)) <;> (revert H; subst hb; intro H; cbv))
  | (intro ys hys; subst hys; rfl)
  | rfl)
theorem spec_SameShapes.ok {a1 : List Param} {a2 : List Param}  : FnOK pg G 20 [.agg [.sl (a1.map eParam)], .agg [.sl (a2.map eParam)]] [] (.bool (((fun (a b : Sig) => FitsV a.params b.params && fitsV b.params a.params) ⟨a1⟩ ⟨a2⟩))) [] false := by
 refine spec_SameShapes.w hm hz hG ?_
 simp only [spec_SameShapes.f, cn_ite, FitsV]
 repeat' split
 all_goals simp_all
end
end Go.Proofs.YtchpopejojghmaaGreatDoor.M
