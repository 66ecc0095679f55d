/- Lists of signatures: sizes, copies, comparison; overloads, and what shadows one of them. -/
import Derived.Test.YtchpopejojghmaaGreatDoorWC
import Derived.Test.YtchpopejojghmaaGreatDoorXS
import Derived.Test.YtchpopejojghmaaGreatDoorHS
set_option linter.unusedVariables false
set_option linter.unusedSimpArgs false
set_option linter.unusedSectionVars false
namespace Go.Proofs.YtchpopejojghmaaGreatDoor.M
open Go Go.Proofs
set_option maxRecDepth 100000
def szSigGo : List Sig → Int → Int
 | [], q => q
 | s :: r, q => if szPars s.params q < 0 then -1 else szSigGo r (szPars s.params q)
def szSigs (l : List Sig) (left : Int) : Int := if left - l.length < 0 then -1 else szSigGo l (left - l.length)
theorem szSigGo_le : ∀ {l : List Sig} {q : Int}, 0 ≤ szSigGo l q → szSigGo l q ≤ q ∧ 0 ≤ q ∧ ∀ s ∈ l, (s.params.length : Int) ≤ q
 | [], q, h => ⟨Int.le_refl _, h, fun s hs => by cases hs⟩
 | s :: r, q, h => by
  unfold szSigGo at h ⊢
  split at h
  ·omega
  ·rename_i c
   rw [if_neg c]
   obtain ⟨h1, h2, h3⟩ := szSigGo_le h
   obtain ⟨h4, h5⟩ := szPars_le (l := s.params) (q := q) (by omega)
   refine ⟨by omega, by omega, fun t ht => ?_⟩
   rcases List.mem_cons.1 ht with rfl | ht
   ·exact h5
   ·have := h3 t ht
    omega
theorem szSigs_le {l : List Sig} {q : Int} (h : 0 ≤ szSigs l q) : szSigs l q ≤ q ∧ (l.length : Int) ≤ q ∧ ∀ s ∈ l, (s.params.length : Int) ≤ q := by
 unfold szSigs at h ⊢
 split at h
 ·omega
 ·rename_i c
  rw [if_neg c]
  obtain ⟨h1, h2, h3⟩ := szSigGo_le h
  refine ⟨by omega, by omega, fun s hs => ?_⟩
  have := h3 s hs
  omega
theorem szSigGo_drop {l : List Sig} {i : Int} {p : Sig} (h0 : 0 ≤ i) (hp : l[i.toNat]? = some p) (q : Int) : szSigGo (l.drop i.toNat) q = if szPars p.params q < 0 then -1 else szSigGo (l.drop (i + 1).toNat) (szPars p.params q) := by
 obtain ⟨hlt, e⟩ := List.getElem?_eq_some_iff.1 hp
 rw [List.drop_eq_getElem_cons hlt, e, show (i + 1).toNat = i.toNat + 1 by omega]; rfl
noncomputable def laws_szSignatureS.b0 (a1 : List Sig) (a2 : Int)  (h0 : (Int × Int) → Option (Int)) (z_ : Int) (x9 : Int) (x10 : Int) : Option (Int) := (ln' z_ (a1.length) fun v15 => (if x10 < v15 then (ixSig a1 x10 fun v16 => (gd (0 ≤ x9 ∧ x9 ≤ 1099511627776) (lv ((fun (s : Sig) (q : Int) => szPars s.params q) (⟨v16⟩) x9) fun v17 => (if v17 < 0 then (some ((-1))) else (arr .i64 (x10 + 1) fun v18 => (h0 (v17, v18))))))) else (some x9)))
noncomputable def laws_szSignatureS.f (a1 : List Sig) (a2 : Int) (h0 : (Int × Int) → Option (Int)) (z_ : Int) : Option (Int) := (ln' z_ (a1.length) fun v3 => (arr .i64 (a2 - v3) fun v4 => (if v4 < 0 then (some ((-1))) else (h0 (v4, 0)))))
theorem pin_laws_szSignatureS {e : ESt} {ns : List (Nat × Nat)} {ps : List (Nat × C)} {os : List (Nat × EObj)} (hs : pinPZ (pinZ e.o (os.map Prod.fst) ns) e.s ps := by first | (cbv <;> (repeat' (first | trivial | refine And.intro ?_ ?_)) <;> (first | rfl | assumption | omega | exact clParam hV _ | exact clSig hV _ | with_unfolding_all exact hV.nParam [] | with_unfolding_all exact (hV.nParam []).symm | with_unfolding_all exact hV.nSig [] | with_unfolding_all exact (hV.nSig []).symm | with_unfolding_all exact hV.rParam _ | with_unfolding_all exact hV.rSig _ | with_unfolding_all exact (hV.nParam _).trans (Eq.trans (by simp only [hV.nParam] at *; omega) (hV.nParam _).symm) | with_unfolding_all exact (hV.nSig _).trans (Eq.trans (by simp only [hV.nSig] at *; omega) (hV.nSig _).symm) | simp [closedCell])) | fail) (ho : ∀ B : (Nat → EObj) → List (List C) → List (List C) → Prop, (∀ o rows rows', rowsZ (pinZ o (os.map Prod.fst) ns) rows rows' → B o rows rows') → pinOZ (pinZ e.o (os.map Prod.fst) ns) B e.o ns os := by intro B hB; first | (cbv <;> (repeat' (first | trivial | refine And.intro ?_ ?_ | refine pin_same hB ?_ | refine pin_nil hB ?_ | refine pin_dirty hB (by assumption) (by assumption) ?_ ?_ | exact pinL_n | refine pinL_c ?_ ?_ | exact pzr rfl rfl rfl (nrParam hV _) (clParam hV _) | exact pzr rfl rfl rfl (nrSig hV _) (clSig hV _) | (refine pz_go ?_; cbv) | (refine pinL_go ?_; cbv))) <;> (first | exact clParam hV _ | exact clSig hV _ | with_unfolding_all exact hV.rParam _ | with_unfolding_all exact hV.rSig _ | with_unfolding_all exact hV.nParam [] | with_unfolding_all exact (hV.nParam []).symm | with_unfolding_all exact hV.nSig [] | with_unfolding_all exact (hV.nSig []).symm | assumption | omega | rfl | with_unfolding_all exact (hV.nParam _).trans (Eq.trans (by simp only [hV.nParam] at *; omega) (hV.nParam _).symm) | with_unfolding_all exact (hV.nSig _).trans (Eq.trans (by simp only [hV.nSig] at *; omega) (hV.nSig _).symm) | simp [closedCell])) | fail) : PinnedZ e ns ps os := ⟨hs, ho⟩
section
variable {G : Glob} (hm : Hm) (hz : Hz) (hG : GF G)
include hm hz hG
set_option maxHeartbeats 8000000 in
theorem laws_szSignatureS.w {a1 : List Sig} {a2 : Int} (inv0 : (Int × Int) → Prop) (mu0 : (Int × Int) → Nat) (res0 : (Int × Int) → Int) (hb0 : ∀ (s_ : Int × Int), inv0  s_ → laws_szSignatureS.b0 a1 a2  (LI (inv0 ) (mu0 ) (res0 ) (mu0  s_)) (res0  s_) s_.1 s_.2 = some (res0  s_)) {r : Int} (H : laws_szSignatureS.f a1 a2 (EI (inv0 ) (mu0 ) (res0 )) r = some r) : FnOK pg G 22 [.sl (a1.map eSig), .int .i64 a2] [] (.int .i64 r) [] false := by
 obtain ⟨V, hV⟩ := exV
 simp only [← hV.rParam, ← hV.rSig]
 refine fn_ok (tt0 := tyG [ty3, ty4, ty9, ty22, ty24, ty32, ty125]) (fn := Tryz.f22) (body := bodyOf Tryz.f22) (ext := []) hm (tyG_sub ⟨tt3, tt4, tt9, tt22, tt24, tt32, tt125, trivial⟩) hz 0 true [] (by unfold pg; exact Tryz.func22) rfl rfl (by simp [Tryz.f22]) (by simp [EObj.toObj]) (by cbv) ?_
 intro A F hA hF
 unfold laws_szSignatureS.f at H
 cbv
 repeat' (first
  | (with_reducible refine s_gd H (fun hg H => ?_))
  | (cases H; exact fin_plain hF rfl rfl rfl rfl)
  | ((with_reducible first | refine s_lt H ?_ ?_ | refine s_le H ?_ ?_ | refine s_eq H ?_ ?_ | refine s_ne H ?_ ?_) <;> intro H <;> cbv)
  | with_reducible first
   | (refine s_ln H lnOf (fun _ H => ?_); cbv)
   | (refine s_ixSig hV H (fun _ H => ?_); cbv)
   | (refine s_ar H (fun _ H => ?_); cbv)
   | (refine s_apZSig hV H (fun _ _ H hk_ zs_ hd_ => ?_); cbv)
   | (refine s_bnZSig hV H (fun _ _ H hk_ zs_ hd_ => ?_); cbv)
   | (refine s_a0ZSig hV H (fun _ _ H hk_ zs_ hd_ => ?_); cbv)
   | (refine s_lv H (fun _ H => ?_); cbv)
   | (refine s_loop hA H (fun s h => hb0  s h) [0] [] (fun e s => [(1, .int .i64 (s.1)), (5, .int .i64 (s.2))]) (fun e s => []) [] pin_laws_szSignatureS nbOf ?_; rintro ⟨x9, x10⟩ H; unfold laws_szSignatureS.b0 at H; (try dsimp only at H); cbv)
  | (with_reducible refine s_next H pin_laws_szSignatureS nbOf)
  | with_reducible first
   | (refine s_ci hA H (by (try simp only [hV.rParam, hV.rSig]); (first | (have hk_ := laws_szSignature.ok hm hz hG hg; with_unfolding_all exact hk_) | (with_unfolding_all exact laws_szSignature.ok hm hz hG (by first | assumption | omega)))) rfl (fun _ H => ?_); cbv)
   | (refine indep_of hA ?_; cbv)
  | ((with_reducible refine side ?_); exact sideOf)
  | with_reducible first
   | (refine s_tkG hV.rParam hV.nParam ?_; cbv)
   | (refine s_tkG hV.rSig hV.nSig ?_; cbv)
   | (refine s_tk1 ?_; cbv)
  | (with_reducible refine And.intro ?_ ?_)
  | (intro ys hys; subst hys; rfl)
  | rfl)
theorem laws_szSignatureS.ok {a1 : List Sig} {a2 : Int} (hp : 0 ≤ a2 ∧ a2 ≤ 1099511627776) : FnOK pg G 22 [.sl (a1.map eSig), .int .i64 a2] [] (.int .i64 ((szSigs a1 a2))) [] false := by
 refine @laws_szSignatureS.w G hm hz hG a1 a2 (fun s => 0 ≤ s.1 ∧ s.1 ≤ 1099511627776 ∧ 0 ≤ s.2 ∧ s.2 ≤ a1.length ∧ szSigGo (a1.drop s.2.toNat) s.1 = szSigs a1 a2) (fun s => a1.length - s.2.toNat) (fun _ => szSigs a1 a2) ?_ _ ?_
 ·rintro ⟨q, i⟩ ⟨q0, q1, h0, h1, hs⟩
  simp only at q0 q1 h0 h1 hs
  simp only [laws_szSignatureS.b0]
  refine ln_ok fun hB => ?_
  refine ite_ok (fun h => ?_) (fun h => ?_)
  ·obtain ⟨p, hp⟩ : ∃ p, a1[i.toNat]? = some p := ⟨_, List.getElem?_eq_getElem (by omega)⟩
   rw [szSigGo_drop h0 hp] at hs
   rw [ixSig_ok h0 hp, gd_ok ⟨q0, q1⟩]
   simp only [lv, eta_Sig]
   refine ite_ok (fun c => by rw [← hs, if_pos c]) (fun c => ?_)
   rw [if_neg c] at hs
   have := (szPars_le (l := p.params) (q := q) (by omega)).1
   rw [arr_ok (by omega), LI_ok ⟨⟨by simp only; omega, by simp only; omega, by simp only; omega, by simp only; omega, hs⟩, by simp only; omega⟩]
  ·rw [List.drop_eq_nil_of_le (by omega)] at hs
   rw [← hs]; rfl
 ·simp only [laws_szSignatureS.f]
  refine ln_ok fun hB => ?_
  rw [arr_ok (by omega)]
  refine ite_ok (fun c => by rw [szSigs, if_pos c]) (fun c => ?_)
  rw [EI_ok ⟨by simp only; omega, by simp only; omega, Int.le_refl 0, by simp only; omega, by simp only [Int.toNat_zero, List.drop_zero]; rw [szSigs, if_neg c]⟩]
end
noncomputable def laws_toSignatureS.b0 (a1 : List Sig)  (h0 : ((List Sig) × Int) → Option ((List Sig))) (z_ : (List Sig)) (x43 : List Sig) (x56 : Int) : Option ((List Sig)) := (ln' z_ (a1.length) fun v69 => (if x56 < v69 then (ixSig a1 x56 fun v75 => (gd (v75.length ≤ 1048576) (on_Sig ((fun (s : Sig) => s) (⟨v75⟩)) fun v76 => (ia x43.length x56 fun j77 => (rnSig x43 j77 fun v78 => (lv (x43.set j77 ⟨v76⟩) fun v79 => (arr .i64 (x56 + 1) fun v80 => (h0 (v79, v80))))))))) else (some x43)))
noncomputable def laws_toSignatureS.f (a1 : List Sig) (h0 : ((List Sig) × Int) → Option ((List Sig))) (z_ : (List Sig)) : Option ((List Sig)) := (ln' z_ (a1.length) fun v2 => (gd (0 ≤ v2 ∧ v2.toNat * 24 ≤ 140737488355328) (lv (List.replicate v2.toNat ⟨⟩) fun v3 => (cv (v3.map upSig0) fun v81 => (h0 (v81, 0))))))
theorem pin_laws_toSignatureS {e : ESt} {ns : List (Nat × Nat)} {ps : List (Nat × C)} {os : List (Nat × EObj)} (hs : pinPZ (pinZ e.o (os.map Prod.fst) ns) e.s ps := by first | (cbv <;> (repeat' (first | trivial | refine And.intro ?_ ?_)) <;> (first | rfl | assumption | omega | exact ns0' hV hU (by assumption) | exact Eq.symm (by assumption) | exact clParam hV _ | exact clSig hV _ | with_unfolding_all exact hV.nParam [] | with_unfolding_all exact (hV.nParam []).symm | with_unfolding_all exact hV.nSig [] | with_unfolding_all exact (hV.nSig []).symm | with_unfolding_all exact hV.rParam _ | with_unfolding_all exact hV.rSig _ | with_unfolding_all exact (hV.nParam _).trans (Eq.trans (by simp only [hV.nParam] at *; omega) (hV.nParam _).symm) | with_unfolding_all exact (hV.nSig _).trans (Eq.trans (by simp only [hV.nSig] at *; omega) (hV.nSig _).symm) | simp [closedCell])) | fail) (ho : ∀ B : (Nat → EObj) → List (List C) → List (List C) → Prop, (∀ o rows rows', rowsZ (pinZ o (os.map Prod.fst) ns) rows rows' → B o rows rows') → pinOZ (pinZ e.o (os.map Prod.fst) ns) B e.o ns os := by intro B hB; first | (cbv <;> (repeat' (first | trivial | refine And.intro ?_ ?_ | exact pin_s0' hB hV hU (by assumption) | refine pin_same hB ?_ | refine pin_nil hB ?_ | refine pin_dirty hB (by assumption) (by assumption) ?_ ?_ | exact pinL_n | refine pinL_c ?_ ?_ | exact pzr rfl rfl rfl (nrParam hV _) (clParam hV _) | exact pzr rfl rfl rfl (nrSig hV _) (clSig hV _) | (refine pz_go ?_; cbv) | (refine pinL_go ?_; cbv))) <;> (first | exact ns0' hV hU (by assumption) | exact Eq.symm (by assumption) | exact clParam hV _ | exact clSig hV _ | with_unfolding_all exact hV.rParam _ | with_unfolding_all exact hV.rSig _ | with_unfolding_all exact hV.nParam [] | with_unfolding_all exact (hV.nParam []).symm | with_unfolding_all exact hV.nSig [] | with_unfolding_all exact (hV.nSig []).symm | assumption | omega | rfl | with_unfolding_all exact (hV.nParam _).trans (Eq.trans (by simp only [hV.nParam] at *; omega) (hV.nParam _).symm) | with_unfolding_all exact (hV.nSig _).trans (Eq.trans (by simp only [hV.nSig] at *; omega) (hV.nSig _).symm) | simp [closedCell])) | fail) : PinnedZ e ns ps os := ⟨hs, ho⟩
section
variable {G : Glob} (hm : Hm) (hz : Hz) (hG : GF G)
include hm hz hG
set_option maxHeartbeats 8000000 in
theorem laws_toSignatureS.w {a1 : List Sig} (inv0 : ((List Sig) × Int) → Prop) (mu0 : ((List Sig) × Int) → Nat) (res0 : ((List Sig) × Int) → (List Sig)) (hb0 : ∀ (s_ : (List Sig) × Int), inv0  s_ → laws_toSignatureS.b0 a1  (LI (inv0 ) (mu0 ) (res0 ) (mu0  s_)) (res0  s_) s_.1 s_.2 = some (res0  s_)) {r : (List Sig)} (H : laws_toSignatureS.f a1 (EI (inv0 ) (mu0 ) (res0 )) r = some r) : FnOK pg G 24 [.sl (a1.map eSig)] [] (.sl (r.map eSig)) [] true := by
 obtain ⟨V, hV⟩ := exV
 obtain ⟨U, hU⟩ := exU
 have e0_Param : V.rParam [] = [] := hV.rParam []
 have e1_Param : ∀ x r, V.rParam (x :: r) = eParam x :: V.rParam r := fun x r => by rw [hV.rParam, hV.rParam]; rfl
 have e0_Sig : V.rSig [] = [] := hV.rSig []
 simp only [← hV.rParam, ← hV.rSig]
 refine fn_okS (tt0 := tyG [ty3, ty4, ty9, ty22, ty24, ty27, ty29, ty32, ty35, ty65, ty125]) (fn := Tryz.f24) (body := bodyOf Tryz.f24) (ext := []) hm (tyG_sub ⟨tt3, tt4, tt9, tt22, tt24, tt27, tt29, tt32, tt35, tt65, tt125, trivial⟩) hz 0 [] (by unfold pg; exact Tryz.func24) rfl rfl (by simp [Tryz.f24]) (by simp [EObj.toObj]) (by cbv) ?_
 intro A F hA hF
 unfold laws_toSignatureS.f at H
 cbv
 repeat' (first
  | (with_reducible refine s_cv H (fun _ hx_ H => ?_))
  | (with_reducible refine s_mkSig0 hU H (fun _ H => ?_); cbv)
  | ((with_reducible refine side ?_); first | exact wSig0 hU | (simp only [hU.nSig0] at *; omega))
  | (with_reducible refine s_gd H (fun hg H => ?_))
  | (cases H; (try simp only [e0_Param, e0_Sig, e1_Param, eParam] at hF); with_reducible refine fin_close hF rfl (by simp [expIds, posCells, C.cells, idOf]) ?_; cbv)
  | ((with_reducible first | refine s_lt H ?_ ?_ | refine s_le H ?_ ?_ | refine s_eq H ?_ ?_ | refine s_ne H ?_ ?_) <;> intro H <;> cbv)
  | with_reducible first
   | (refine s_ln H lnOf (fun _ H => ?_); cbv)
   | (refine s_ixSig hV H (fun _ H => ?_); cbv)
   | (refine s_rnSig hV H (fun _ H => ?_); cbv)
   | (refine s_ia H lnOf (fun _ H => ?_); cbv)
   | (refine s_ar H (fun _ H => ?_); cbv)
   | (refine s_setParam hV H (fun _ hs_ H => ?_); cbv)
   | (refine s_mkL hV.rParam hV.nParam (by cbv) H (fun _ H => ?_); cbv)
   | (refine s_setSig hV H (fun _ hs_ H => ?_); cbv)
   | (refine s_setZSig hV H (fun _ hs_ H hk_ zs_ hd_ => ?_); cbv)
   | (refine s_apZSig hV H (fun _ _ H hk_ zs_ hd_ => ?_); cbv)
   | (refine s_bnZSig hV H (fun _ _ H hk_ zs_ hd_ => ?_); cbv)
   | (refine s_a0ZSig hV H (fun _ _ H hk_ zs_ hd_ => ?_); cbv)
   | (refine s_mkL hV.rSig hV.nSig (by cbv) H (fun _ H => ?_); cbv)
   | (refine s_lv H (fun _ H => ?_); cbv)
   | (refine s_loop hA H (fun s h => hb0  s h) [0] [] (fun e s => [(3, .ref 448 0 1 0 (V.nSig (s.1))), (4, .int .i64 (s.2))]) (fun e s => [(448, ⟨0, true, 1, .many (V.rSig (s.1))⟩)]) [] pin_laws_toSignatureS nbOf ?_; rintro ⟨x43, x56⟩ H; unfold laws_toSignatureS.b0 at H; (try dsimp only at H); cbv)
  | (with_reducible refine s_next H pin_laws_toSignatureS nbOf)
  | with_reducible first
   | (refine s_cSig hV hA H (by (try simp only [hV.rParam, hV.rSig]); (first | (have hk_ := laws_toSignature.ok hm hz hG hg; with_unfolding_all exact hk_) | (with_unfolding_all exact laws_toSignature.ok hm hz hG (by first | assumption | omega)))) rfl (fun _ H => ?_); cbv)
   | (refine indep_of hA ?_; cbv)
  | ((with_reducible refine side ?_); exact sideOf)
  | with_reducible first
   | (refine s_tkG hV.rParam hV.nParam ?_; cbv)
   | (refine s_tkG hV.rSig hV.nSig ?_; cbv)
   | (refine s_tk1 ?_; cbv)
  | (with_reducible refine And.intro ?_ ?_)
  | (intro ys hys; subst hys; rfl)
  | rfl)
theorem laws_toSignatureS.ok {a1 : List Sig} (hp : a1.length ≤ 1048576 ∧ ∀ s ∈ a1, s.params.length ≤ 1048576) : FnOK pg G 24 [.sl (a1.map eSig)] [] (.sl ((((fun (l : List Sig) => l) a1)).map eSig)) [] true := by
 obtain ⟨hp, hp2⟩ := hp
 refine @laws_toSignatureS.w G hm hz hG a1 (fun s => 0 ≤ s.2 ∧ s.2 ≤ a1.length ∧ s.1.length = a1.length ∧ s.1.take s.2.toNat = a1.take s.2.toNat) (fun s => a1.length - s.2.toNat) (fun _ => a1) ?_ _ ?_
 ·rintro ⟨out, i⟩ ⟨h0, h1, hl, ho⟩
  simp only at h0 h1 hl ho
  simp only [laws_toSignatureS.b0]
  refine ln_ok fun hB => ?_
  refine ite_ok (fun h => ?_) (fun h => ?_)
  ·obtain ⟨p, hp⟩ : ∃ p, a1[i.toNat]? = some p := ⟨_, List.getElem?_eq_getElem (by omega)⟩
   obtain ⟨q, hq⟩ : ∃ q, out[i.toNat]? = some q := ⟨_, List.getElem?_eq_getElem (by omega)⟩
   rw [ixSig_ok h0 hp]
   simp only [on_Sig]
   rw [gd_ok (hp2 p (List.mem_of_getElem? hp)), ia_ok (by omega), rnSig_ok hq]
   simp only [lv, eta_Sig]
   have g1 : (out.set i.toNat p).take (i + 1).toNat = a1.take (i + 1).toNat := by
    rw [show (i + 1).toNat = i.toNat + 1 by omega, take_snoc hp, take_snoc (x := p) (by rw [List.getElem?_set_self (by omega)]), ← ho, List.take_set_of_le (Nat.le_refl _)]
   rw [arr_ok (by omega), LI_ok ⟨⟨by simp only; omega, by simp only; omega, by simp only; rw [List.length_set]; exact hl, g1⟩, by simp only; omega⟩]
  ·rw [List.take_of_length_le (by omega), List.take_of_length_le (by omega)] at ho
   rw [ho]
 ·simp only [laws_toSignatureS.f]
  refine ln_ok fun hB => ?_
  rw [gd_ok ⟨by omega, by omega⟩]
  simp only [lv, cv]
  rw [EI_ok ⟨Int.le_refl 0, by simp only; omega, by simp, rfl⟩]
end
noncomputable def laws_eqSignatureS.b0 (a1 : List Sig) (a2 : List Sig)  (h0 : (Int) → Option (Bool)) (z_ : Bool) (x9 : Int) : Option (Bool) := (ln' z_ (a1.length) fun v14 => (if x9 < v14 then (ixSig a1 x9 fun v15 => (ixSig a2 x9 fun v16 => (cn ((fun (s t : Sig) => decide (s = t)) (⟨v15⟩) (⟨v16⟩)) (arr .i64 (x9 + 1) fun v17 => (h0 v17)) (some false)))) else (some true)))
noncomputable def laws_eqSignatureS.f (a1 : List Sig) (a2 : List Sig) (h0 : (Int) → Option (Bool)) (z_ : Bool) : Option (Bool) := (ln' z_ (a1.length) fun v3 => (ln' z_ (a2.length) fun v4 => (if v3 = v4 then (h0 0) else (some false))))
section
variable {G : Glob} (hm : Hm) (hz : Hz) (hG : GF G)
include hm hz hG
set_option maxHeartbeats 8000000 in
theorem laws_eqSignatureS.w {a1 : List Sig} {a2 : List Sig} (inv0 : (Int) → Prop) (mu0 : (Int) → Nat) (res0 : (Int) → Bool) (hb0 : ∀ (s_ : Int), inv0  s_ → laws_eqSignatureS.b0 a1 a2  (LI (inv0 ) (mu0 ) (res0 ) (mu0  s_)) (res0  s_) s_ = some (res0  s_)) {r : Bool} (H : laws_eqSignatureS.f a1 a2 (EI (inv0 ) (mu0 ) (res0 )) r = some r) : FnOK pg G 26 [.sl (a1.map eSig), .sl (a2.map eSig)] [] (.bool r) [] false := by
 obtain ⟨V, hV⟩ := exV
 simp only [← hV.rParam, ← hV.rSig]
 refine fn_ok (tt0 := tyG [ty3, ty4, ty9, ty27, ty29, ty35, ty65]) (fn := Tryz.f26) (body := bodyOf Tryz.f26) (ext := []) hm (tyG_sub ⟨tt3, tt4, tt9, tt27, tt29, tt35, tt65, trivial⟩) hz 0 true [] (by unfold pg; exact Tryz.func26) rfl rfl (by simp [Tryz.f26]) (by simp [EObj.toObj]) (by cbv) ?_
 intro A F hA hF
 unfold laws_eqSignatureS.f at H
 cbv
 repeat' (first
  | (cases H; exact fin_plain hF rfl rfl rfl rfl)
  | ((with_reducible first | refine s_lt H ?_ ?_ | refine s_le H ?_ ?_ | refine s_eq H ?_ ?_ | refine s_ne H ?_ ?_) <;> intro H <;> cbv)
  | with_reducible first
   | (refine s_ln H lnOf (fun _ H => ?_); cbv)
   | (refine s_ixSig hV H (fun _ H => ?_); cbv)
   | (refine s_ar H (fun _ H => ?_); cbv)
   | (refine s_lv H (fun _ H => ?_); cbv)
   | (refine s_loop hA H (fun s h => hb0  s h) [0, 1] [] (fun e s => [(5, .int .i64 s)]) (fun e s => []) [] pin_laws_szSignatureS nbOf ?_; rintro x9 H; unfold laws_eqSignatureS.b0 at H; (try dsimp only at H); cbv)
  | (with_reducible refine s_next H pin_laws_szSignatureS nbOf)
  | with_reducible first
   | (refine s_cb hA H (by (try simp only [hV.rParam, hV.rSig]); with_unfolding_all exact laws_eqSignature.ok hm hz hG) rfl (fun H => ?_) (fun H => ?_) <;> cbv)
   | (refine indep_of hA ?_; cbv)
  | ((with_reducible refine side ?_); exact sideOf)
  | with_reducible first
   | (refine s_tkG hV.rParam hV.nParam ?_; cbv)
   | (refine s_tkG hV.rSig hV.nSig ?_; cbv)
   | (refine s_tk1 ?_; cbv)
  | (with_reducible refine And.intro ?_ ?_)
  | ((with_reducible refine s_cn H (fun hb H => ?_) (fun hb H => ?_)) <;> (revert H; subst hb; intro H; cbv))
  | (intro ys hys; subst hys; rfl)
  | rfl)
theorem laws_eqSignatureS.ok {a1 : List Sig} {a2 : List Sig}  : FnOK pg G 26 [.sl (a1.map eSig), .sl (a2.map eSig)] [] (.bool (((fun (l k : List Sig) => decide (l = k)) a1 a2))) [] false := by
 refine @laws_eqSignatureS.w G hm hz hG a1 a2 (fun i => 0 ≤ i ∧ i ≤ a1.length ∧ a1.length = a2.length ∧ decide (a1.drop i.toNat = a2.drop i.toNat) = decide (a1 = a2)) (fun i => a1.length - i.toNat) (fun _ => decide (a1 = a2)) ?_ _ ?_
 ·rintro i ⟨h0, h1, hl, he⟩
  simp only [laws_eqSignatureS.b0, cn_ite]
  refine ln_ok fun hB => ?_
  refine ite_ok (fun h => ?_) (fun h => ?_)
  ·obtain ⟨p, hp⟩ : ∃ p, a1[i.toNat]? = some p := ⟨_, List.getElem?_eq_getElem (by omega)⟩
   obtain ⟨q, hq⟩ : ∃ q, a2[i.toNat]? = some q := ⟨_, List.getElem?_eq_getElem (by omega)⟩
   have d1 : a1.drop i.toNat = p :: a1.drop (i + 1).toNat := by
    obtain ⟨hlt, e⟩ := List.getElem?_eq_some_iff.1 hp
    rw [List.drop_eq_getElem_cons hlt, e, show (i + 1).toNat = i.toNat + 1 by omega]
   have d2 : a2.drop i.toNat = q :: a2.drop (i + 1).toNat := by
    obtain ⟨hlt, e⟩ := List.getElem?_eq_some_iff.1 hq
    rw [List.drop_eq_getElem_cons hlt, e, show (i + 1).toNat = i.toNat + 1 by omega]
   rw [d1, d2] at he
   rw [ixSig_ok h0 hp, ixSig_ok h0 hq]
   simp only [eta_Sig]
   refine ite_ok (fun c => ?_) (fun c => ?_)
   ·have c := of_decide_eq_true c
    rw [arr_ok (by omega), LI_ok ⟨⟨by omega, by omega, hl, by rw [← he]; simp [c]⟩, by omega⟩]
   ·rw [← he]
    have : p ≠ q := fun e => c (decide_eq_true e)
    simp [this]
  ·rw [List.drop_eq_nil_of_le (by omega), List.drop_eq_nil_of_le (by omega)] at he
   rw [← he]; rfl
 ·simp only [laws_eqSignatureS.f]
  refine ln_ok fun hB => ln_ok fun hB2 => ?_
  refine ite_ok (fun c => ?_) (fun c => ?_)
  ·rw [EI_ok ⟨Int.le_refl 0, by omega, by omega, rfl⟩]
  ·rw [decide_eq_false (fun e => c (by rw [e]))]
end
def validSigs (l : List Sig) : Bool := l.all (fun s => validParams s.params) && decide ((l.length : Int) ≤ 5)
noncomputable def spec_validSet.b0 (a1 : List Sig)  (h0 : (Int) → Option (Bool)) (z_ : Bool) (x5 : Int) : Option (Bool) := (ln' z_ (a1.length) fun v9 => (if x5 < v9 then (ixSig a1 x5 fun v10 => (cn ((fun (s : Sig) => validParams s.params) (⟨v10⟩)) (arr .i64 (x5 + 1) fun v11 => (h0 v11)) (some false))) else (ln' z_ (a1.length) fun v12 => (if v12 ≤ 5 then (some true) else (some false)))))
noncomputable def spec_validSet.f (a1 : List Sig) (h0 : (Int) → Option (Bool)) (z_ : Bool) : Option (Bool) := (h0 0)
section
variable {G : Glob} (hm : Hm) (hz : Hz) (hG : GF G)
include hm hz hG
set_option maxHeartbeats 8000000 in
theorem spec_validSet.w {a1 : List Sig} (inv0 : (Int) → Prop) (mu0 : (Int) → Nat) (res0 : (Int) → Bool) (hb0 : ∀ (s_ : Int), inv0  s_ → spec_validSet.b0 a1  (LI (inv0 ) (mu0 ) (res0 ) (mu0  s_)) (res0  s_) s_ = some (res0  s_)) {r : Bool} (H : spec_validSet.f a1 (EI (inv0 ) (mu0 ) (res0 )) r = some r) : FnOK pg G 60 [.sl (a1.map eSig)] [] (.bool r) [] false := by
 obtain ⟨V, hV⟩ := exV
 simp only [← hV.rParam, ← hV.rSig]
 refine fn_ok (tt0 := tyG [ty3, ty4, ty9, ty27, ty29, ty35, ty65]) (fn := Tryz.f60) (body := bodyOf Tryz.f60) (ext := []) hm (tyG_sub ⟨tt3, tt4, tt9, tt27, tt29, tt35, tt65, trivial⟩) hz 0 true [] (by unfold pg; exact Tryz.func60) rfl rfl (by simp [Tryz.f60]) (by simp [EObj.toObj]) (by cbv) ?_
 intro A F hA hF
 unfold spec_validSet.f at H
 cbv
 repeat' (first
  | (cases H; exact fin_plain hF rfl rfl rfl rfl)
  | ((with_reducible first | refine s_lt H ?_ ?_ | refine s_le H ?_ ?_ | refine s_eq H ?_ ?_ | refine s_ne H ?_ ?_) <;> intro H <;> cbv)
  | with_reducible first
   | (refine s_ln H lnOf (fun _ H => ?_); cbv)
   | (refine s_ixSig hV H (fun _ H => ?_); cbv)
   | (refine s_ar H (fun _ H => ?_); cbv)
   | (refine s_lv H (fun _ H => ?_); cbv)
   | (refine s_loop hA H (fun s h => hb0  s h) [0] [] (fun e s => [(3, .int .i64 s)]) (fun e s => []) [] pin_laws_szSignatureS nbOf ?_; rintro x5 H; unfold spec_validSet.b0 at H; (try dsimp only at H); cbv)
  | (with_reducible refine s_next H pin_laws_szSignatureS nbOf)
  | with_reducible first
   | (refine s_cb hA H (by (try simp only [hV.rParam, hV.rSig]); with_unfolding_all exact spec_validSignature.ok hm hz hG) rfl (fun H => ?_) (fun H => ?_) <;> cbv)
   | (refine indep_of hA ?_; cbv)
  | ((with_reducible refine side ?_); exact sideOf)
  | with_reducible first
   | (refine s_tkG hV.rParam hV.nParam ?_; cbv)
   | (refine s_tkG hV.rSig hV.nSig ?_; cbv)
   | (refine s_tk1 ?_; cbv)
  | (with_reducible refine And.intro ?_ ?_)
  | ((with_reducible refine s_cn H (fun hb H => ?_) (fun hb H => ?_)) <;> (revert H; subst hb; intro H; cbv))
  | (intro ys hys; subst hys; rfl)
  | rfl)
theorem spec_validSet.ok {a1 : List Sig}  : FnOK pg G 60 [.sl (a1.map eSig)] [] (.bool ((validSigs a1))) [] false := by
 have A := @spec_validSet.w G hm hz hG a1 (rgI (a1) (fun i => i) (fun _ => True)) (rgM (a1) (fun i => i)) (rgR (a1) (fun i => i) (fun r _ => r.all (fun s => validParams s.params) && decide ((a1.length : Int) ≤ 5))) (rangeS (a1) (fun i => i) (fun _ => True) (fun r _ => r.all (fun s => validParams s.params) && decide ((a1.length : Int) ≤ 5)) (fun rec z s => spec_validSet.b0 a1  rec z s) ?_ ?_)
 ·exact A (EI_fin (rg0 trivial rfl) rfl)
 ·intro rec s _ h0 h1
  simp only [spec_validSet.b0]
  refine ln_ok fun hB => ?_
  simp (disch := first | assumption | omega | (simp; done) | (simp; omega)) only [if_true, if_false, reduceIte, lv, lj, ln_at, cn_t, cn_f, cn_tf, cn_ft, cn_xx, gd_ok, arr_ok, arr_ok8, arr_ok32, arr_oku, ia_ok, bt_ok, EI_ok, LI_ok, h1, Int.lt_irrefl]
  by_cases c : (a1.length : Int) ≤ 5 <;> simp [c]
 ·intro rec s x r _ h0 h1 hx hl hr
  simp only [spec_validSet.b0]
  refine ln_ok fun hB => ?_
  simp (disch := first | assumption | omega | (simp; done) | (simp; omega)) only [if_true, if_false, reduceIte, lv, lj, ln_at, cn_t, cn_f, cn_tf, cn_ft, cn_xx, gd_ok, arr_ok, arr_ok8, arr_ok32, arr_oku, ia_ok, bt_ok, EI_ok, LI_ok, h1, ixSig, hx, h0, hr _ trivial rfl, cn_ite, eta_Sig]
  split <;> simp [*]
end
def badSig (s : Sig) : Bool := !validParams s.params
noncomputable def impl_overloads_1.f (a1 : List Param)  (z_ : Bool) : Option (Bool) := (cn ((fun (s : Sig) => validParams s.params) (⟨a1⟩)) (some false) (some true))
section
variable {G : Glob} (hm : Hm) (hz : Hz) (hG : GF G)
include hm hz hG
theorem impl_overloads_1.w {a1 : List Param}  {r : Bool} (H : impl_overloads_1.f a1  r = some r) : FnOK pg G 116 [.agg [.sl (a1.map eParam)]] [] (.bool r) [] false := by
 obtain ⟨V, hV⟩ := exV
 simp only [← hV.rParam]
 refine fn_ok (tt0 := tyG [ty3, ty4, ty9, ty27, ty29, ty65]) (fn := Tryz.f116) (body := bodyOf Tryz.f116) (ext := []) hm (tyG_sub ⟨tt3, tt4, tt9, tt27, tt29, tt65, trivial⟩) hz 0 true [] (by unfold pg; exact Tryz.func116) rfl rfl (by simp [Tryz.f116]) (by simp [EObj.toObj]) (by cbv) ?_
 intro A F hA hF
 unfold impl_overloads_1.f at H
 cbv
 repeat' (first
  | (cases H; exact fin_plain hF rfl rfl rfl rfl)
  | with_reducible first
   | (refine s_lv H (fun _ H => ?_); cbv)
   | (refine s_cb hA H (by (try simp only [hV.rParam]); with_unfolding_all exact impl_ValidSignature.ok hm hz hG) rfl (fun H => ?_) (fun H => ?_) <;> cbv)
   | (refine indep_of hA ?_; cbv)
  | ((with_reducible refine side ?_); exact sideOf)
  | with_reducible first
   | (refine s_tkG hV.rParam hV.nParam ?_; cbv)
   | (refine s_tk1 ?_; cbv)
  | (with_reducible refine And.intro ?_ ?_)
  | ((with_reducible refine s_cn H (fun hb H => ?_) (fun hb H => ?_)) <;> (revert H; subst hb; intro H; cbv))
  | (intro ys hys; subst hys; rfl)
  | rfl)
theorem impl_overloads_1.ok {a1 : List Param}  : FnOK pg G 116 [.agg [.sl (a1.map eParam)]] [] (.bool ((badSig ⟨a1⟩))) [] false := by
 refine impl_overloads_1.w hm hz hG ?_
 simp only [impl_overloads_1.f, badSig]; cases validParams a1 <;> rfl
end
noncomputable def slices_IndexFunc_Signature_at_impl_overloads_1.b0 (a1 : List Sig) (v2 : Int) (h0 : (Int) → Option (Int)) (z_ : Int) (x5 : Int) : Option (Int) := (if x5 < v2 then (ixSig a1 x5 fun v8 => (cn (badSig (⟨v8⟩)) (some x5) (arr .i64 (x5 + 1) fun v9 => (h0 v9)))) else (some ((-1))))
noncomputable def slices_IndexFunc_Signature_at_impl_overloads_1.f (a1 : List Sig) (h0 : Int → (Int) → Option (Int)) (z_ : Int) : Option (Int) := (ln' z_ (a1.length) fun v2 => (h0 v2 0))
section
variable {G : Glob} (hm : Hm) (hz : Hz) (hG : GF G)
include hm hz hG
set_option maxHeartbeats 8000000 in
theorem slices_IndexFunc_Signature_at_impl_overloads_1.w {a1 : List Sig} (inv0 : Int → (Int) → Prop) (mu0 : Int → (Int) → Nat) (res0 : Int → (Int) → Int) (hb0 : ∀ (v2 : Int), ∀ (s_ : Int), inv0 v2 s_ → slices_IndexFunc_Signature_at_impl_overloads_1.b0 a1 v2 (LI (inv0 v2) (mu0 v2) (res0 v2) (mu0 v2 s_)) (res0 v2 s_) s_ = some (res0 v2 s_)) {r : Int} (H : slices_IndexFunc_Signature_at_impl_overloads_1.f a1 (fun v2 => EI (inv0 v2) (mu0 v2) (res0 v2)) r = some r) : FnOK pg G 65 [.sl (a1.map eSig), .fn 116 []] [] (.int .i64 r) [] false := by
 obtain ⟨V, hV⟩ := exV
 simp only [← hV.rParam, ← hV.rSig]
 refine fn_ok (tt0 := tyG [ty3, ty4, ty9, ty27, ty29, ty35, ty65]) (fn := Tryz.f65) (body := bodyOf Tryz.f65) (ext := []) hm (tyG_sub ⟨tt3, tt4, tt9, tt27, tt29, tt35, tt65, trivial⟩) hz 0 true [] (by unfold pg; exact Tryz.func65) rfl rfl (by simp [Tryz.f65]) (by simp [EObj.toObj]) (by cbv) ?_
 intro A F hA hF
 unfold slices_IndexFunc_Signature_at_impl_overloads_1.f at H
 cbv
 repeat' (first
  | (cases H; exact fin_plain hF rfl rfl rfl rfl)
  | ((with_reducible first | refine s_lt H ?_ ?_ | refine s_le H ?_ ?_ | refine s_eq H ?_ ?_ | refine s_ne H ?_ ?_) <;> intro H <;> cbv)
  | with_reducible first
   | (refine s_ln H lnOf (fun _ H => ?_); cbv)
   | (refine s_ixSig hV H (fun _ H => ?_); cbv)
   | (refine s_ar H (fun _ H => ?_); cbv)
   | (refine s_lv H (fun _ H => ?_); cbv)
   | (refine s_loop hA H (fun s h => hb0 _ s h) [0, 1, 7] [] (fun e s => [(8, .int .i64 s)]) (fun e s => []) [] pin_laws_szSignatureS nbOf ?_; rintro x5 H; unfold slices_IndexFunc_Signature_at_impl_overloads_1.b0 at H; (try dsimp only at H); cbv)
  | (with_reducible refine s_next H pin_laws_szSignatureS nbOf)
  | with_reducible first
   | (refine s_cb hA H (by (try simp only [hV.rParam, hV.rSig]); with_unfolding_all exact impl_overloads_1.ok hm hz hG) rfl (fun H => ?_) (fun H => ?_) <;> cbv)
   | (refine indep_of hA ?_; cbv)
  | ((with_reducible refine side ?_); exact sideOf)
  | with_reducible first
   | (refine s_tkG hV.rParam hV.nParam ?_; cbv)
   | (refine s_tkG hV.rSig hV.nSig ?_; cbv)
   | (refine s_tk1 ?_; cbv)
  | (with_reducible refine And.intro ?_ ?_)
  | ((with_reducible refine s_cn H (fun hb H => ?_) (fun hb H => ?_)) <;> (revert H; subst hb; intro H; cbv))
  | (intro ys hys; subst hys; rfl)
  | rfl)
theorem slices_IndexFunc_Signature_at_impl_overloads_1.ok {a1 : List Sig}  : FnOK pg G 65 [.sl (a1.map eSig), .fn 116 []] [] (.int .i64 (((findI (fun x => badSig x)) a1))) [] false := by
 have A := @slices_IndexFunc_Signature_at_impl_overloads_1.w G hm hz hG a1  (fun v => rgI (a1) (fun i => i) (fun _ => v = a1.length ∧ a1.length ≤ 9223372036854775807)) (fun v => rgM (a1) (fun i => i)) (fun v => rgR (a1) (fun i => i) (fun r i => idxOr i (r.findIdx? (fun x => badSig x)))) (fun v => rangeS (a1) (fun i => i) (fun _ => v = a1.length ∧ a1.length ≤ 9223372036854775807) (fun r i => idxOr i (r.findIdx? (fun x => badSig x))) (fun rec z s => slices_IndexFunc_Signature_at_impl_overloads_1.b0 a1 v rec z s) ?_ ?_)
 ·exact A (ln_ok fun hB => EI_fin (rg0 ⟨rfl, hB⟩ rfl) rfl)
 ·rintro rec s ⟨rfl, hB⟩ h0 h1
  simp only [slices_IndexFunc_Signature_at_impl_overloads_1.b0]
  simp (disch := first | assumption | omega | (simp; done) | (simp; omega)) only [if_true, if_false, reduceIte, lv, lj, ln_at, cn_t, cn_f, cn_tf, cn_ft, cn_xx, gd_ok, arr_ok, arr_ok8, arr_ok32, arr_oku, ia_ok, bt_ok, EI_ok, LI_ok, h1, Int.lt_irrefl]
  rfl
 ·rintro rec s x r ⟨rfl, hB⟩ h0 h1 hx hl hr
  simp only [slices_IndexFunc_Signature_at_impl_overloads_1.b0]
  simp (disch := first | assumption | omega | (simp; done) | (simp; omega)) only [if_true, if_false, reduceIte, lv, lj, ln_at, cn_t, cn_f, cn_tf, cn_ft, cn_xx, gd_ok, arr_ok, arr_ok8, arr_ok32, arr_oku, ia_ok, bt_ok, EI_ok, LI_ok, h1, ixSig, hx, h0, idxOr_cons, hr _ ⟨rfl, hB⟩ rfl, cn_ite, eta_Sig]
  split <;> rfl
end
noncomputable def slices_ContainsFunc_Signature_at_impl_overloads_1.f (a1 : List Sig)  (z_ : Bool) : Option (Bool) := (lv ((findI (fun x => badSig x)) a1) fun v2 => (if 0 ≤ v2 then (some true) else (some false)))
section
variable {G : Glob} (hm : Hm) (hz : Hz) (hG : GF G)
include hm hz hG
theorem slices_ContainsFunc_Signature_at_impl_overloads_1.w {a1 : List Sig}  {r : Bool} (H : slices_ContainsFunc_Signature_at_impl_overloads_1.f a1  r = some r) : FnOK pg G 115 [.sl (a1.map eSig), .fn 116 []] [] (.bool r) [] false := by
 obtain ⟨V, hV⟩ := exV
 simp only [← hV.rParam, ← hV.rSig]
 refine fn_ok (tt0 := tyG [ty3, ty4, ty9, ty27, ty29, ty35, ty65]) (fn := Tryz.f115) (body := bodyOf Tryz.f115) (ext := []) hm (tyG_sub ⟨tt3, tt4, tt9, tt27, tt29, tt35, tt65, trivial⟩) hz 0 true [] (by unfold pg; exact Tryz.func115) rfl rfl (by simp [Tryz.f115]) (by simp [EObj.toObj]) (by cbv) ?_
 intro A F hA hF
 unfold slices_ContainsFunc_Signature_at_impl_overloads_1.f at H
 cbv
 repeat' (first
  | (cases H; exact fin_plain hF rfl rfl rfl rfl)
  | ((with_reducible first | refine s_lt H ?_ ?_ | refine s_le H ?_ ?_ | refine s_eq H ?_ ?_ | refine s_ne H ?_ ?_) <;> intro H <;> cbv)
  | with_reducible first
   | (refine s_apZSig hV H (fun _ _ H hk_ zs_ hd_ => ?_); cbv)
   | (refine s_bnZSig hV H (fun _ _ H hk_ zs_ hd_ => ?_); cbv)
   | (refine s_a0ZSig hV H (fun _ _ H hk_ zs_ hd_ => ?_); cbv)
   | (refine s_lv H (fun _ H => ?_); cbv)
   | (refine s_ci hA H (by (try simp only [hV.rParam, hV.rSig]); with_unfolding_all exact slices_IndexFunc_Signature_at_impl_overloads_1.ok hm hz hG) rfl (fun _ H => ?_); cbv)
   | (refine indep_of hA ?_; cbv)
  | ((with_reducible refine side ?_); exact sideOf)
  | with_reducible first
   | (refine s_tkG hV.rParam hV.nParam ?_; cbv)
   | (refine s_tkG hV.rSig hV.nSig ?_; cbv)
   | (refine s_tk1 ?_; cbv)
  | (with_reducible refine And.intro ?_ ?_)
  | (intro ys hys; subst hys; rfl)
  | rfl)
theorem slices_ContainsFunc_Signature_at_impl_overloads_1.ok {a1 : List Sig}  : FnOK pg G 115 [.sl (a1.map eSig), .fn 116 []] [] (.bool (((fun (l : List Sig) => l.any badSig) a1))) [] false := by
 refine slices_ContainsFunc_Signature_at_impl_overloads_1.w hm hz hG ?_
 simp only [slices_ContainsFunc_Signature_at_impl_overloads_1.f, lv, findI_nn]
 split <;> simp_all
end
noncomputable def impl_overloads.f (a1 : List Sig)  (z_ : Bool) : Option (Bool) := (ln' z_ (a1.length) fun v2 => (if v2 ≤ 5 then (cn ((fun (l : List Sig) => l.any badSig) a1) (some false) (some true)) else (some false)))
section
variable {G : Glob} (hm : Hm) (hz : Hz) (hG : GF G)
include hm hz hG
theorem impl_overloads.w {a1 : List Sig}  {r : Bool} (H : impl_overloads.f a1  r = some r) : FnOK pg G 63 [.sl (a1.map eSig)] [] (.bool r) [] false := by
 obtain ⟨V, hV⟩ := exV
 simp only [← hV.rParam, ← hV.rSig]
 refine fn_ok (tt0 := tyG [ty3, ty4, ty9, ty27, ty29, ty35, ty65]) (fn := Tryz.f63) (body := bodyOf Tryz.f63) (ext := []) hm (tyG_sub ⟨tt3, tt4, tt9, tt27, tt29, tt35, tt65, trivial⟩) hz 0 true [] (by unfold pg; exact Tryz.func63) rfl rfl (by simp [Tryz.f63]) (by simp [EObj.toObj]) (by cbv) ?_
 intro A F hA hF
 unfold impl_overloads.f at H
 cbv
 repeat' (first
  | (cases H; exact fin_plain hF rfl rfl rfl rfl)
  | ((with_reducible first | refine s_lt H ?_ ?_ | refine s_le H ?_ ?_ | refine s_eq H ?_ ?_ | refine s_ne H ?_ ?_) <;> intro H <;> cbv)
  | with_reducible first
   | (refine s_ln H lnOf (fun _ H => ?_); cbv)
   | (refine s_lv H (fun _ H => ?_); cbv)
   | (refine s_cb hA H (by (try simp only [hV.rParam, hV.rSig]); with_unfolding_all exact slices_ContainsFunc_Signature_at_impl_overloads_1.ok hm hz hG) rfl (fun H => ?_) (fun H => ?_) <;> cbv)
   | (refine indep_of hA ?_; cbv)
  | ((with_reducible refine side ?_); exact sideOf)
  | with_reducible first
   | (refine s_tkG hV.rParam hV.nParam ?_; cbv)
   | (refine s_tkG hV.rSig hV.nSig ?_; cbv)
   | (refine s_tk1 ?_; cbv)
  | (with_reducible refine And.intro ?_ ?_)
  | ((with_reducible refine s_cn H (fun hb H => ?_) (fun hb H => ?_)) <;> (revert H; subst hb; intro H; cbv))
  | (intro ys hys; subst hys; rfl)
  | rfl)
theorem impl_overloads.ok {a1 : List Sig}  : FnOK pg G 63 [.sl (a1.map eSig)] [] (.bool ((validSigs a1))) [] false := by
 refine impl_overloads.w hm hz hG ?_
 simp only [impl_overloads.f, validSigs, ← any_not (fun s : Sig => validParams s.params), cn_ite]
 rw [show (fun s : Sig => !validParams s.params) = badSig from rfl]
 (repeat' (first | rfl | (refine ln_ok fun _ => ?_) | ((refine ite_ok (fun h => ?_) (fun h => ?_)) <;> (try simp only [h, reduceIte, if_true, if_false, decide_true, decide_false, Bool.true_and, Bool.false_and, Bool.and_true, Bool.and_false, Bool.not_true, Bool.not_false, Bool.false_eq_true]))))
end
def sAt (l : List Sig) (k : Int) : List Param := (l.getD k.toNat ⟨[]⟩).params
theorem sAt_of {l : List Sig} {k : Int} {p : Sig} (h : l[k.toNat]? = some p) : sAt l k = p.params := by rw [sAt, List.getD_eq_getElem?_getD, h]; rfl
def shadowBy (F : List Param → List Param → Bool) (l : List Sig) (k : Int) : Int := findI (fun s => F (sAt l k) s.params) (l.take k.toNat)
def shadowOf (F : List Param → List Param → Bool) (l : List Sig) (k : Int) : Int := if validSigs l = true ∧ 0 ≤ k ∧ k < l.length then shadowBy F l k else -1
noncomputable def spec_shadow.b0 (a1 : List Sig) (a2 : Int)  (h0 : (Int) → Option (Int)) (z_ : Int) (x6 : Int) : Option (Int) := (if x6 < a2 then (ixSig a1 a2 fun v10 => (ixSig a1 x6 fun v11 => (cn ((fun (a b : Sig) => fitsV a.params b.params) (⟨v10⟩) (⟨v11⟩)) (some x6) (arr .i64 (x6 + 1) fun v12 => (h0 v12))))) else (some ((-1))))
noncomputable def spec_shadow.f (a1 : List Sig) (a2 : Int) (h0 : (Int) → Option (Int)) (z_ : Int) : Option (Int) := (h0 0)
section
variable {G : Glob} (hm : Hm) (hz : Hz) (hG : GF G)
include hm hz hG
set_option maxHeartbeats 8000000 in
theorem spec_shadow.w {a1 : List Sig} {a2 : Int} (inv0 : (Int) → Prop) (mu0 : (Int) → Nat) (res0 : (Int) → Int) (hb0 : ∀ (s_ : Int), inv0  s_ → spec_shadow.b0 a1 a2  (LI (inv0 ) (mu0 ) (res0 ) (mu0  s_)) (res0  s_) s_ = some (res0  s_)) {r : Int} (H : spec_shadow.f a1 a2 (EI (inv0 ) (mu0 ) (res0 )) r = some r) : FnOK pg G 62 [.sl (a1.map eSig), .int .i64 a2] [] (.int .i64 r) [] false := by
 obtain ⟨V, hV⟩ := exV
 simp only [← hV.rParam, ← hV.rSig]
 refine fn_ok (tt0 := tyG [ty3, ty4, ty9, ty27, ty29, ty35, ty65]) (fn := Tryz.f62) (body := bodyOf Tryz.f62) (ext := []) hm (tyG_sub ⟨tt3, tt4, tt9, tt27, tt29, tt35, tt65, trivial⟩) hz 0 true [] (by unfold pg; exact Tryz.func62) rfl rfl (by simp [Tryz.f62]) (by simp [EObj.toObj]) (by cbv) ?_
 intro A F hA hF
 unfold spec_shadow.f at H
 cbv
 repeat' (first
  | (cases H; exact fin_plain hF rfl rfl rfl rfl)
  | ((with_reducible first | refine s_lt H ?_ ?_ | refine s_le H ?_ ?_ | refine s_eq H ?_ ?_ | refine s_ne H ?_ ?_) <;> intro H <;> cbv)
  | with_reducible first
   | (refine s_ixSig hV H (fun _ H => ?_); cbv)
   | (refine s_ar H (fun _ H => ?_); cbv)
   | (refine s_lv H (fun _ H => ?_); cbv)
   | (refine s_loop hA H (fun s h => hb0  s h) [0, 1] [] (fun e s => [(5, .int .i64 s)]) (fun e s => []) [] pin_laws_szSignatureS nbOf ?_; rintro x6 H; unfold spec_shadow.b0 at H; (try dsimp only at H); cbv)
  | (with_reducible refine s_next H pin_laws_szSignatureS nbOf)
  | with_reducible first
   | (refine s_cb hA H (by (try simp only [hV.rParam, hV.rSig]); with_unfolding_all exact spec_fits.ok hm hz hG) rfl (fun H => ?_) (fun H => ?_) <;> cbv)
   | (refine indep_of hA ?_; cbv)
  | ((with_reducible refine side ?_); exact sideOf)
  | with_reducible first
   | (refine s_tkG hV.rParam hV.nParam ?_; cbv)
   | (refine s_tkG hV.rSig hV.nSig ?_; cbv)
   | (refine s_tk1 ?_; cbv)
  | (with_reducible refine And.intro ?_ ?_)
  | ((with_reducible refine s_cn H (fun hb H => ?_) (fun hb H => ?_)) <;> (revert H; subst hb; intro H; cbv))
  | (intro ys hys; subst hys; rfl)
  | rfl)
theorem spec_shadow.ok {a1 : List Sig} {a2 : Int} (hp : 0 ≤ a2 ∧ a2 < a1.length ∧ a1.length ≤ 9223372036854775807) : FnOK pg G 62 [.sl (a1.map eSig), .int .i64 a2] [] (.int .i64 (((shadowBy fitsV) a1 a2))) [] false := by
 obtain ⟨p0, p1, p2⟩ := hp
 obtain ⟨sk, hk⟩ : ∃ s, a1[a2.toNat]? = some s := ⟨_, List.getElem?_eq_getElem (by omega)⟩
 simp only [shadowBy, sAt_of hk]
 refine @spec_shadow.w G hm hz hG a1 a2 (fun i => 0 ≤ i ∧ i ≤ a2 ∧ idxOr i (((a1.take a2.toNat).drop i.toNat).findIdx? (fun s => fitsV sk.params s.params)) = findI (fun s => fitsV sk.params s.params) (a1.take a2.toNat)) (fun i => a2.toNat - i.toNat) (fun _ => findI (fun s => fitsV sk.params s.params) (a1.take a2.toNat)) ?_ _ ?_
 ·rintro i ⟨h0, h1, he⟩
  simp only [spec_shadow.b0, cn_ite]
  refine ite_ok (fun h => ?_) (fun h => ?_)
  ·obtain ⟨p, hp⟩ : ∃ p, a1[i.toNat]? = some p := ⟨_, List.getElem?_eq_getElem (by omega)⟩
   rw [ixSig_ok p0 hk, ixSig_ok h0 hp]
   have d : (a1.take a2.toNat).drop i.toNat = p :: (a1.take a2.toNat).drop (i + 1).toNat := by
    have hq : (a1.take a2.toNat)[i.toNat]? = some p := by rw [List.getElem?_take_of_lt (by omega), hp]
    obtain ⟨hlt, e⟩ := List.getElem?_eq_some_iff.1 hq
    rw [List.drop_eq_getElem_cons hlt, e, show (i + 1).toNat = i.toNat + 1 by omega]
   rw [d, idxOr_cons] at he
   refine ite_ok (fun c => ?_) (fun c => ?_)
   ·rw [if_pos c] at he; rw [he]
   ·rw [if_neg c] at he
    rw [arr_ok (by omega), LI_ok ⟨⟨by omega, by omega, he⟩, by omega⟩]
  ·rw [List.drop_eq_nil_of_le (by simp; omega)] at he
   rw [← he]; rfl
 ·simp only [spec_shadow.f]
  rw [EI_ok ⟨Int.le_refl 0, p0, rfl⟩]
end
theorem inR {k : Int} {n : Nat} : inRange k 0 ((n : Int) - 1) = true ↔ 0 ≤ k ∧ k < n := by simp [inRange]; omega
noncomputable def spec_ShadowOf.f (a1 : List Sig) (a2 : Int)  (z_ : Int) : Option (Int) := (cn (validSigs a1) (ln' z_ (a1.length) fun v3 => (arr .i64 (v3 - 1) fun v4 => (cn (inRange a2 0 v4) (gd (0 ≤ a2 ∧ a2 < a1.length ∧ a1.length ≤ 9223372036854775807) (lv ((shadowBy fitsV) a1 a2) fun v5 => (some v5))) (some ((-1)))))) (some ((-1))))
section
variable {G : Glob} (hm : Hm) (hz : Hz) (hG : GF G)
include hm hz hG
theorem spec_ShadowOf.w {a1 : List Sig} {a2 : Int}  {r : Int} (H : spec_ShadowOf.f a1 a2  r = some r) : FnOK pg G 23 [.sl (a1.map eSig), .int .i64 a2] [] (.int .i64 r) [] false := by
 obtain ⟨V, hV⟩ := exV
 simp only [← hV.rParam, ← hV.rSig]
 refine fn_ok (tt0 := tyG [ty3, ty4, ty9, ty27, ty29, ty35, ty65]) (fn := Tryz.f23) (body := bodyOf Tryz.f23) (ext := []) hm (tyG_sub ⟨tt3, tt4, tt9, tt27, tt29, tt35, tt65, trivial⟩) hz 0 true [] (by unfold pg; exact Tryz.func23) rfl rfl (by simp [Tryz.f23]) (by simp [EObj.toObj]) (by cbv) ?_
 intro A F hA hF
 unfold spec_ShadowOf.f at H
 cbv
 repeat' (first
  | (with_reducible refine s_gd H (fun hg H => ?_))
  | (cases H; exact fin_plain hF rfl rfl rfl rfl)
  | with_reducible first
   | (refine s_ln H lnOf (fun _ H => ?_); cbv)
   | (refine s_ar H (fun _ H => ?_); cbv)
   | (refine s_apZSig hV H (fun _ _ H hk_ zs_ hd_ => ?_); cbv)
   | (refine s_bnZSig hV H (fun _ _ H hk_ zs_ hd_ => ?_); cbv)
   | (refine s_a0ZSig hV H (fun _ _ H hk_ zs_ hd_ => ?_); cbv)
   | (refine s_lv H (fun _ H => ?_); cbv)
   | (refine s_cb hA H (by (try simp only [hV.rParam, hV.rSig]); with_unfolding_all exact spec_validSet.ok hm hz hG) rfl (fun H => ?_) (fun H => ?_) <;> cbv)
   | (refine s_cb hA H (by (try simp only [hV.rParam, hV.rSig]); with_unfolding_all exact spec_inRange.ok hm hz hG) rfl (fun H => ?_) (fun H => ?_) <;> cbv)
   | (refine s_ci hA H (by (try simp only [hV.rParam, hV.rSig]); (first | (have hk_ := spec_shadow.ok hm hz hG hg; with_unfolding_all exact hk_) | (with_unfolding_all exact spec_shadow.ok hm hz hG (by first | assumption | omega)))) rfl (fun _ H => ?_); cbv)
   | (refine indep_of hA ?_; cbv)
  | ((with_reducible refine side ?_); exact sideOf)
  | with_reducible first
   | (refine s_tkG hV.rParam hV.nParam ?_; cbv)
   | (refine s_tkG hV.rSig hV.nSig ?_; cbv)
   | (refine s_tk1 ?_; cbv)
  | (with_reducible refine And.intro ?_ ?_)
  | ((with_reducible refine s_cn H (fun hb H => ?_) (fun hb H => ?_)) <;> (revert H; subst hb; intro H; cbv))
  | (intro ys hys; subst hys; rfl)
  | rfl)
theorem spec_ShadowOf.ok {a1 : List Sig} {a2 : Int}  : FnOK pg G 23 [.sl (a1.map eSig), .int .i64 a2] [] (.int .i64 (((shadowOf fitsV) a1 a2))) [] false := by
 refine spec_ShadowOf.w hm hz hG ?_
 simp only [spec_ShadowOf.f, cn_ite, shadowOf]
 refine ite_ok (fun c => ?_) (fun c => by rw [if_neg (fun h => c h.1)])
 refine ln_ok fun hB => ?_
 rw [arr_ok (by omega)]
 refine ite_ok (fun c2 => ?_) (fun c2 => by rw [if_neg (fun h => c2 (inR.2 h.2))])
 rw [gd_ok ⟨(inR.1 c2).1, (inR.1 c2).2, hB⟩, if_pos ⟨c, inR.1 c2⟩]; rfl
end
def fitsAt (l : List Sig) (k : Int) (s : Sig) : Bool := FitsV (sAt l k) s.params
noncomputable def impl_ShadowOf_1.f (a1 : List Param) (a2 : List Sig) (a3 : Int)  (z_ : Bool) : Option (Bool) := (ixSig a2 a3 fun v4 => (cn ((fun (a b : Sig) => FitsV a.params b.params) (⟨v4⟩) (⟨a1⟩)) (some true) (some false)))
section
variable {G : Glob} (hm : Hm) (hz : Hz) (hG : GF G)
include hm hz hG
theorem impl_ShadowOf_1.w {a1 : List Param} {a2 : List Sig} {a3 : Int}  {r : Bool} (H : impl_ShadowOf_1.f a1 a2 a3  r = some r) : FnOK pg G 66 [.agg [.sl (a1.map eParam)], .ptr 0 0 1 0 0, .ptr 1 0 1 0 0] (([⟨0, false, 1, .one [.sl (a2.map eSig)]⟩, ⟨0, false, 1, .one [.int .i64 a3]⟩] : List EObj).map EObj.toObj) (.bool r) (([⟨0, false, 1, .one [.sl (a2.map eSig)]⟩, ⟨0, false, 1, .one [.int .i64 a3]⟩] : List EObj).map EObj.toObj) false := by
 obtain ⟨V, hV⟩ := exV
 simp only [← hV.rParam, ← hV.rSig]
 refine fn_ok (tt0 := tyG [ty3, ty4, ty9, ty27, ty29, ty35, ty65]) (fn := Tryz.f66) (body := bodyOf Tryz.f66) (ext := [⟨0, false, 1, .one [.sl (V.rSig a2)]⟩, ⟨0, false, 1, .one [.int .i64 a3]⟩]) hm (tyG_sub ⟨tt3, tt4, tt9, tt27, tt29, tt35, tt65, trivial⟩) hz 0 true [] (by unfold pg; exact Tryz.func66) rfl rfl (by simp [Tryz.f66]) (by simp [EObj.toObj]) (by cbv) ?_
 intro A F hA hF
 unfold impl_ShadowOf_1.f at H
 cbv
 repeat' (first
  | (cases H; exact fin_plain hF rfl rfl rfl rfl)
  | with_reducible first
   | (refine s_ixSig hV H (fun _ H => ?_); cbv)
   | (refine s_lv H (fun _ H => ?_); cbv)
   | (refine s_cb hA H (by (try simp only [hV.rParam, hV.rSig]); with_unfolding_all exact impl_Fits.ok hm hz hG) rfl (fun H => ?_) (fun H => ?_) <;> cbv)
   | (refine indep_of hA ?_; cbv)
  | ((with_reducible refine side ?_); exact sideOf)
  | with_reducible first
   | (refine s_tkG hV.rParam hV.nParam ?_; cbv)
   | (refine s_tkG hV.rSig hV.nSig ?_; cbv)
   | (refine s_tk1 ?_; cbv)
  | (with_reducible refine And.intro ?_ ?_)
  | ((with_reducible refine s_cn H (fun hb H => ?_) (fun hb H => ?_)) <;> (revert H; subst hb; intro H; cbv))
  | (intro ys hys; subst hys; rfl)
  | rfl)
theorem impl_ShadowOf_1.ok {a1 : List Param} {a2 : List Sig} {a3 : Int} (hp : 0 ≤ a3 ∧ a3 < a2.length) : FnOK pg G 66 [.agg [.sl (a1.map eParam)], .ptr 0 0 1 0 0, .ptr 1 0 1 0 0] (([⟨0, false, 1, .one [.sl (a2.map eSig)]⟩, ⟨0, false, 1, .one [.int .i64 a3]⟩] : List EObj).map EObj.toObj) (.bool (((fun (s : Sig) (l : List Sig) (k : Int) => fitsAt l k s) ⟨a1⟩ a2 a3))) (([⟨0, false, 1, .one [.sl (a2.map eSig)]⟩, ⟨0, false, 1, .one [.int .i64 a3]⟩] : List EObj).map EObj.toObj) false := by
 obtain ⟨p0, p1⟩ := hp
 obtain ⟨sk, hk⟩ : ∃ s, a2[a3.toNat]? = some s := ⟨_, List.getElem?_eq_getElem (by omega)⟩
 refine impl_ShadowOf_1.w hm hz hG ?_
 simp only [impl_ShadowOf_1.f]
 rw [ixSig_ok p0 hk]
 simp only [fitsAt, sAt_of hk, cn_ite]
 split <;> simp_all
end
noncomputable def slices_IndexFunc_Signature_at_impl_ShadowOf_1.b0 (a1 : List Sig) (a2 : List Sig) (a3 : Int) (v4 : Int) (h0 : (Int) → Option (Int)) (z_ : Int) (x7 : Int) : Option (Int) := (if x7 < v4 then (ixSig a1 x7 fun v10 => (gd (0 ≤ a3 ∧ a3 < a2.length) (cn ((fun (s : Sig) (l : List Sig) (k : Int) => fitsAt l k s) (⟨v10⟩) a2 a3) (some x7) (arr .i64 (x7 + 1) fun v11 => (h0 v11))))) else (some ((-1))))
noncomputable def slices_IndexFunc_Signature_at_impl_ShadowOf_1.f (a1 : List Sig) (a2 : List Sig) (a3 : Int) (h0 : Int → (Int) → Option (Int)) (z_ : Int) : Option (Int) := (ln' z_ (a1.length) fun v4 => (h0 v4 0))
section
variable {G : Glob} (hm : Hm) (hz : Hz) (hG : GF G)
include hm hz hG
set_option maxHeartbeats 8000000 in
theorem slices_IndexFunc_Signature_at_impl_ShadowOf_1.w {a1 : List Sig} {a2 : List Sig} {a3 : Int} (inv0 : Int → (Int) → Prop) (mu0 : Int → (Int) → Nat) (res0 : Int → (Int) → Int) (hb0 : ∀ (v4 : Int), ∀ (s_ : Int), inv0 v4 s_ → slices_IndexFunc_Signature_at_impl_ShadowOf_1.b0 a1 a2 a3 v4 (LI (inv0 v4) (mu0 v4) (res0 v4) (mu0 v4 s_)) (res0 v4 s_) s_ = some (res0 v4 s_)) {r : Int} (H : slices_IndexFunc_Signature_at_impl_ShadowOf_1.f a1 a2 a3 (fun v4 => EI (inv0 v4) (mu0 v4) (res0 v4)) r = some r) : FnOK pg G 65 [.sl (a1.map eSig), .fn 66 [.ptr 0 0 1 0 0, .ptr 1 0 1 0 0]] (([⟨0, false, 1, .one [.sl (a2.map eSig)]⟩, ⟨0, false, 1, .one [.int .i64 a3]⟩] : List EObj).map EObj.toObj) (.int .i64 r) (([⟨0, false, 1, .one [.sl (a2.map eSig)]⟩, ⟨0, false, 1, .one [.int .i64 a3]⟩] : List EObj).map EObj.toObj) false := by
 obtain ⟨V, hV⟩ := exV
 simp only [← hV.rParam, ← hV.rSig]
 refine fn_ok (tt0 := tyG [ty3, ty4, ty9, ty27, ty29, ty35, ty65]) (fn := Tryz.f65) (body := bodyOf Tryz.f65) (ext := [⟨0, false, 1, .one [.sl (V.rSig a2)]⟩, ⟨0, false, 1, .one [.int .i64 a3]⟩]) hm (tyG_sub ⟨tt3, tt4, tt9, tt27, tt29, tt35, tt65, trivial⟩) hz 0 true [] (by unfold pg; exact Tryz.func65) rfl rfl (by simp [Tryz.f65]) (by simp [EObj.toObj]) (by cbv) ?_
 intro A F hA hF
 unfold slices_IndexFunc_Signature_at_impl_ShadowOf_1.f at H
 cbv
 repeat' (first
  | (with_reducible refine s_gd H (fun hg H => ?_))
  | (cases H; exact fin_plain hF rfl rfl rfl rfl)
  | ((with_reducible first | refine s_lt H ?_ ?_ | refine s_le H ?_ ?_ | refine s_eq H ?_ ?_ | refine s_ne H ?_ ?_) <;> intro H <;> cbv)
  | with_reducible first
   | (refine s_ln H lnOf (fun _ H => ?_); cbv)
   | (refine s_ixSig hV H (fun _ H => ?_); cbv)
   | (refine s_ar H (fun _ H => ?_); cbv)
   | (refine s_lv H (fun _ H => ?_); cbv)
   | (refine s_loop hA H (fun s h => hb0 _ s h) [0, 1, 7] [0, 1] (fun e s => [(8, .int .i64 s)]) (fun e s => []) [] pin_laws_szSignatureS nbOf ?_; rintro x7 H; unfold slices_IndexFunc_Signature_at_impl_ShadowOf_1.b0 at H; (try dsimp only at H); cbv)
  | (with_reducible refine s_next H pin_laws_szSignatureS nbOf)
  | with_reducible first
   | (refine s_cb hA H (by (try simp only [hV.rParam, hV.rSig]); (first | (have hk_ := impl_ShadowOf_1.ok hm hz hG hg; with_unfolding_all exact hk_) | (with_unfolding_all exact impl_ShadowOf_1.ok hm hz hG (by first | assumption | omega)))) rfl (fun H => ?_) (fun H => ?_) <;> cbv)
   | (refine s_rb (by assumption) H (by (try simp only [hV.rParam, hV.rSig]); (first | (have hk_ := impl_ShadowOf_1.ok hm hz hG hg; with_unfolding_all exact hk_) | (with_unfolding_all exact impl_ShadowOf_1.ok hm hz hG (by first | assumption | omega)))) (fun H => ?_) (fun H => ?_) <;> cbv)
   | (refine callT_cl hA (fun U hU => ?_); cbv)
   | (refine indep_of hA ?_; cbv)
  | ((with_reducible refine side ?_); exact sideOf)
  | with_reducible first
   | (refine s_tkG hV.rParam hV.nParam ?_; cbv)
   | (refine s_tkG hV.rSig hV.nSig ?_; cbv)
   | (refine s_tk1 ?_; cbv)
  | (with_reducible refine And.intro ?_ ?_)
  | ((with_reducible refine s_cn H (fun hb H => ?_) (fun hb H => ?_)) <;> (revert H; subst hb; intro H; cbv))
  | (intro ys hys; subst hys; rfl)
  | rfl)
theorem slices_IndexFunc_Signature_at_impl_ShadowOf_1.ok {a1 : List Sig} {a2 : List Sig} {a3 : Int} (hp : 0 ≤ a3 ∧ a3 < a2.length) : FnOK pg G 65 [.sl (a1.map eSig), .fn 66 [.ptr 0 0 1 0 0, .ptr 1 0 1 0 0]] (([⟨0, false, 1, .one [.sl (a2.map eSig)]⟩, ⟨0, false, 1, .one [.int .i64 a3]⟩] : List EObj).map EObj.toObj) (.int .i64 (((fun (a l : List Sig) (k : Int) => findI (fitsAt l k) a) a1 a2 a3))) (([⟨0, false, 1, .one [.sl (a2.map eSig)]⟩, ⟨0, false, 1, .one [.int .i64 a3]⟩] : List EObj).map EObj.toObj) false := by
 have A := @slices_IndexFunc_Signature_at_impl_ShadowOf_1.w G hm hz hG a1 a2 a3 (fun v => rgI (a1) (fun i => i) (fun _ => v = a1.length ∧ a1.length ≤ 9223372036854775807)) (fun v => rgM (a1) (fun i => i)) (fun v => rgR (a1) (fun i => i) (fun r i => idxOr i (r.findIdx? (fitsAt a2 a3)))) (fun v => rangeS (a1) (fun i => i) (fun _ => v = a1.length ∧ a1.length ≤ 9223372036854775807) (fun r i => idxOr i (r.findIdx? (fitsAt a2 a3))) (fun rec z s => slices_IndexFunc_Signature_at_impl_ShadowOf_1.b0 a1 a2 a3 v rec z s) ?_ ?_)
 ·exact A (ln_ok fun hB => EI_fin (rg0 ⟨rfl, hB⟩ rfl) rfl)
 ·rintro rec s ⟨rfl, hB⟩ h0 h1
  simp only [slices_IndexFunc_Signature_at_impl_ShadowOf_1.b0]
  simp (disch := first | assumption | omega | (simp; done) | (simp; omega)) only [if_true, if_false, reduceIte, lv, lj, ln_at, cn_t, cn_f, cn_tf, cn_ft, cn_xx, gd_ok, arr_ok, arr_ok8, arr_ok32, arr_oku, ia_ok, bt_ok, EI_ok, LI_ok, h1, Int.lt_irrefl]
  rfl
 ·rintro rec s x r ⟨rfl, hB⟩ h0 h1 hx hl hr
  simp only [slices_IndexFunc_Signature_at_impl_ShadowOf_1.b0]
  simp (disch := first | assumption | omega | (simp; done) | (simp; omega)) only [if_true, if_false, reduceIte, lv, lj, ln_at, cn_t, cn_f, cn_tf, cn_ft, cn_xx, gd_ok, arr_ok, arr_ok8, arr_ok32, arr_oku, ia_ok, bt_ok, EI_ok, LI_ok, h1, ixSig, hx, h0, idxOr_cons, hr _ ⟨rfl, hB⟩ rfl, cn_ite, eta_Sig]
  split <;> rfl
end
noncomputable def impl_ShadowOf.f (a1 : List Sig) (a2 : Int)  (z_ : Int) : Option (Int) := (cn (validSigs a1) (ln' z_ (a1.length) fun v3 => (arr .i64 (v3 - 1) fun v4 => (cn (inRange a2 0 v4) (gd (0 ≤ a2 ∧ a2.toNat ≤ a1.length) (lv (a1.take a2.toNat) fun v5 => (gd (0 ≤ a2 ∧ a2 < a1.length) (lv ((fun (a l : List Sig) (k : Int) => findI (fitsAt l k) a) v5 a1 a2) fun v6 => (some v6))))) (some ((-1)))))) (some ((-1))))
section
variable {G : Glob} (hm : Hm) (hz : Hz) (hG : GF G)
include hm hz hG
theorem impl_ShadowOf.w {a1 : List Sig} {a2 : Int}  {r : Int} (H : impl_ShadowOf.f a1 a2  r = some r) : FnOK pg G 25 [.sl (a1.map eSig), .int .i64 a2] [] (.int .i64 r) [] false := by
 obtain ⟨V, hV⟩ := exV
 simp only [← hV.rParam, ← hV.rSig]
 refine fn_ok (tt0 := tyG [ty3, ty4, ty9, ty27, ty29, ty35, ty65]) (fn := Tryz.f25) (body := bodyOf Tryz.f25) (ext := []) hm (tyG_sub ⟨tt3, tt4, tt9, tt27, tt29, tt35, tt65, trivial⟩) hz 0 true [] (by unfold pg; exact Tryz.func25) rfl rfl (by simp [Tryz.f25]) (by simp [EObj.toObj]) (by cbv) ?_
 intro A F hA hF
 unfold impl_ShadowOf.f at H
 cbv
 repeat' (first
  | (with_reducible refine s_gd H (fun hg H => ?_))
  | (cases H; exact fin_plain hF rfl rfl rfl rfl)
  | with_reducible first
   | (refine s_ln H lnOf (fun _ H => ?_); cbv)
   | (refine s_ar H (fun _ H => ?_); cbv)
   | (refine s_tkL hV.rParam H (fun _ H => ?_); cbv)
   | (refine s_tdL hV.rParam H (fun _ H => ?_); cbv)
   | (refine s_tkLn hV.rParam (by with_unfolding_all rfl) H (fun _ H => ?_); cbv)
   | (refine s_apZSig hV H (fun _ _ H hk_ zs_ hd_ => ?_); cbv)
   | (refine s_bnZSig hV H (fun _ _ H hk_ zs_ hd_ => ?_); cbv)
   | (refine s_a0ZSig hV H (fun _ _ H hk_ zs_ hd_ => ?_); cbv)
   | (refine s_tkL hV.rSig H (fun _ H => ?_); cbv)
   | (refine s_tdL hV.rSig H (fun _ H => ?_); cbv)
   | (refine s_tkLn hV.rSig (by with_unfolding_all rfl) H (fun _ H => ?_); cbv)
   | (refine s_lv H (fun _ H => ?_); cbv)
   | (refine s_cb hA H (by (try simp only [hV.rParam, hV.rSig]); with_unfolding_all exact impl_overloads.ok hm hz hG) rfl (fun H => ?_) (fun H => ?_) <;> cbv)
   | (refine s_cb hA H (by (try simp only [hV.rParam, hV.rSig]); with_unfolding_all exact impl_in.ok hm hz hG) rfl (fun H => ?_) (fun H => ?_) <;> cbv)
   | (refine s_ci hA H (by (try simp only [hV.rParam, hV.rSig]); (first | (have hk_ := slices_IndexFunc_Signature_at_impl_ShadowOf_1.ok hm hz hG hg; with_unfolding_all exact hk_) | (with_unfolding_all exact slices_IndexFunc_Signature_at_impl_ShadowOf_1.ok hm hz hG (by first | assumption | omega)))) rfl (fun _ H => ?_); cbv)
   | (refine s_ri (by assumption) H (by (try simp only [hV.rParam, hV.rSig]); (first | (have hk_ := slices_IndexFunc_Signature_at_impl_ShadowOf_1.ok hm hz hG hg; with_unfolding_all exact hk_) | (with_unfolding_all exact slices_IndexFunc_Signature_at_impl_ShadowOf_1.ok hm hz hG (by first | assumption | omega)))) (fun _ H => ?_); cbv)
   | (refine callT_cl hA (fun U hU => ?_); cbv)
   | (refine indep_of hA ?_; cbv)
  | ((with_reducible refine side ?_); exact sideOf)
  | with_reducible first
   | (refine s_tkG hV.rParam hV.nParam ?_; cbv)
   | (refine s_tkG hV.rSig hV.nSig ?_; cbv)
   | (refine s_tkP hV.rParam ?_; cbv)
   | (refine s_drP hV.rParam hV.nParam ?_; cbv)
   | (refine s_tkP hV.rSig ?_; cbv)
   | (refine s_drP hV.rSig hV.nSig ?_; cbv)
   | (refine s_eqn ?_; cbv)
   | (refine s_eqn2 ?_; cbv)
   | (refine s_tk1 ?_; cbv)
  | (with_reducible refine And.intro ?_ ?_)
  | ((with_reducible refine s_cn H (fun hb H => ?_) (fun hb H => ?_)) <;> (revert H; subst hb; intro H; cbv))
  | (intro ys hys; subst hys; rfl)
  | rfl)
theorem impl_ShadowOf.ok {a1 : List Sig} {a2 : Int}  : FnOK pg G 25 [.sl (a1.map eSig), .int .i64 a2] [] (.int .i64 (((shadowOf FitsV) a1 a2))) [] false := by
 refine impl_ShadowOf.w hm hz hG ?_
 simp only [impl_ShadowOf.f, cn_ite, shadowOf]
 refine ite_ok (fun c => ?_) (fun c => by rw [if_neg (fun h => c h.1)])
 refine ln_ok fun hB => ?_
 rw [arr_ok (by omega)]
 refine ite_ok (fun c2 => ?_) (fun c2 => by rw [if_neg (fun h => c2 (inR.2 h.2))])
 have c3 := inR.1 c2
 rw [gd_ok ⟨c3.1, by omega⟩]
 simp only [lv]
 rw [gd_ok c3, if_pos ⟨c, c3⟩]; rfl
end
theorem findIdx_congr {α : Type} {p q : α → Bool} : ∀ (l : List α), (∀ x ∈ l, p x = q x) → l.findIdx? p = l.findIdx? q
 | [], _ => rfl
 | x :: l, h => by rw [List.findIdx?_cons, List.findIdx?_cons, h x (.head _), findIdx_congr l fun y hy => h y (.tail _ hy)]
theorem sigs_mem {l : List Sig} (h : validSigs l = true) {s : Sig} (hs : s ∈ l) : validParams s.params = true := by
 simp only [validSigs, Bool.and_eq_true, List.all_eq_true] at h
 exact h.1 s hs
theorem sigs_at {l : List Sig} (h : validSigs l = true) {k : Int} (h0 : 0 ≤ k) (h1 : k < l.length) : validParams (sAt l k) = true := by
 obtain ⟨p, hp⟩ : ∃ p, l[k.toNat]? = some p := ⟨_, List.getElem?_eq_getElem (by omega)⟩
 rw [sAt_of hp]; exact sigs_mem h (List.mem_of_getElem? hp)
theorem shadow_eq (l : List Sig) (k : Int) : shadowOf FitsV l k = shadowOf fitsV l k := by
 unfold shadowOf
 split
 ·rename_i h
  unfold shadowBy findI
  rw [findIdx_congr _ fun x hx => ?_]
  simp only [FitsV, sigs_at h.1 h.2.1 h.2.2, sigs_mem h.1 (List.mem_of_mem_take hx), Bool.true_and]
 ·rfl
def on_LSig {R : Type} (v : (List Sig)) (f : (List Sig) → Option R) : Option R := f v
section
variable {A : Bx} {P : Program} {G : Glob} {rg : Option Nat} {own : Nat} {o : Nat → EObj} {g : FuncId} {vs : List C} {sh : Bool} {K : C → List (Nat × EObj) → Prop} {R : Type} {r : R} {V : Vx} {v : (List Sig)} {f : (List Sig) → Option R}
theorem s_cLSig (hV : IsV V) (hA : IsBx true rg P G A) (H : on_LSig v f = some r) (hok : FnOK P G g vs [] (.sl (v.map eSig)) [] sh) (hc : vs.all closedArg = true) (h : ∀ c0, f c0 = some r → K (.sl (V.rSig c0)) []) : A.call own o g vs K := by
 refine callT_plain hA hok hc ?_
 have := h (v) H
 simp only [hV.rSig] at this
 exact this
variable {U : List C → List Nat → (C → List (Nat × EObj) → Prop) → Prop} {bs : List C} {tops : List Nat}
end
noncomputable def laws_FnExactShadowOf.f (a1 : List Sig) (a2 : Int)  (z_ : Bool) : Option (Bool) := (gd (0 ≤ ((1048576 : Int)) ∧ ((1048576 : Int)) ≤ 1099511627776) (lv (szSigs a1 1048576) fun v3 => (if v3 < 0 then (some true) else (gd (a1.length ≤ 1048576 ∧ ∀ s ∈ a1, s.params.length ≤ 1048576) (on_LSig ((fun (l : List Sig) => l) a1) fun v4 => (lv ((shadowOf fitsV) v4 a2) fun v5 => (gd (a1.length ≤ 1048576 ∧ ∀ s ∈ a1, s.params.length ≤ 1048576) (on_LSig ((fun (l : List Sig) => l) a1) fun v6 => (lv ((shadowOf FitsV) v6 a2) fun v7 => (if v7 = v5 then (gd (a1.length ≤ 1048576 ∧ ∀ s ∈ a1, s.params.length ≤ 1048576) (on_LSig ((fun (l : List Sig) => l) a1) fun v8 => (cn ((fun (l k : List Sig) => decide (l = k)) v6 v8) (some true) (some false)))) else (some false)))))))))))
section
variable {G : Glob} (hm : Hm) (hz : Hz) (hG : GF G)
include hm hz hG
theorem laws_FnExactShadowOf.w {a1 : List Sig} {a2 : Int}  {r : Bool} (H : laws_FnExactShadowOf.f a1 a2  r = some r) : FnOK pg G 5 [.sl (a1.map eSig), .int .i64 a2] [] (.bool r) [] false := by
 obtain ⟨V, hV⟩ := exV
 simp only [← hV.rParam, ← hV.rSig]
 refine fn_ok (tt0 := tyG [ty3, ty4, ty9, ty22, ty24, ty27, ty29, ty32, ty35, ty65, ty125]) (fn := Tryz.f5) (body := bodyOf Tryz.f5) (ext := []) hm (tyG_sub ⟨tt3, tt4, tt9, tt22, tt24, tt27, tt29, tt32, tt35, tt65, tt125, trivial⟩) hz 0 true [] (by unfold pg; exact Tryz.func5) rfl rfl (by simp [Tryz.f5]) (by simp [EObj.toObj]) (by cbv) ?_
 intro A F hA hF
 unfold laws_FnExactShadowOf.f at H
 cbv
 repeat' (first
  | (with_reducible refine s_gd H (fun hg H => ?_))
  | (cases H; exact fin_plain hF rfl rfl rfl rfl)
  | ((with_reducible first | refine s_lt H ?_ ?_ | refine s_le H ?_ ?_ | refine s_eq H ?_ ?_ | refine s_ne H ?_ ?_) <;> intro H <;> cbv)
  | with_reducible first
   | (refine s_apZSig hV H (fun _ _ H hk_ zs_ hd_ => ?_); cbv)
   | (refine s_bnZSig hV H (fun _ _ H hk_ zs_ hd_ => ?_); cbv)
   | (refine s_a0ZSig hV H (fun _ _ H hk_ zs_ hd_ => ?_); cbv)
   | (refine s_lv H (fun _ H => ?_); cbv)
   | (refine s_ci hA H (by (try simp only [hV.rParam, hV.rSig]); (first | (have hk_ := laws_szSignatureS.ok hm hz hG hg; with_unfolding_all exact hk_) | (with_unfolding_all exact laws_szSignatureS.ok hm hz hG (by first | assumption | omega)))) rfl (fun _ H => ?_); cbv)
   | (refine s_cLSig hV hA H (by (try simp only [hV.rParam, hV.rSig]); (first | (have hk_ := laws_toSignatureS.ok hm hz hG hg; with_unfolding_all exact hk_) | (with_unfolding_all exact laws_toSignatureS.ok hm hz hG (by first | assumption | omega)))) rfl (fun _ H => ?_); cbv)
   | (refine s_ci hA H (by (try simp only [hV.rParam, hV.rSig]); with_unfolding_all exact spec_ShadowOf.ok hm hz hG) rfl (fun _ H => ?_); cbv)
   | (refine s_ci hA H (by (try simp only [hV.rParam, hV.rSig]); with_unfolding_all exact impl_ShadowOf.ok hm hz hG) rfl (fun _ H => ?_); cbv)
   | (refine s_cb hA H (by (try simp only [hV.rParam, hV.rSig]); with_unfolding_all exact laws_eqSignatureS.ok hm hz hG) rfl (fun H => ?_) (fun H => ?_) <;> cbv)
   | (refine indep_of hA ?_; cbv)
  | ((with_reducible refine side ?_); exact sideOf)
  | with_reducible first
   | (refine s_tkG hV.rParam hV.nParam ?_; cbv)
   | (refine s_tkG hV.rSig hV.nSig ?_; cbv)
   | (refine s_tk1 ?_; cbv)
  | (with_reducible refine And.intro ?_ ?_)
  | ((with_reducible refine s_cn H (fun hb H => ?_) (fun hb H => ?_)) <;> (revert H; subst hb; intro H; cbv))
  | (intro ys hys; subst hys; rfl)
  | rfl)
theorem laws_FnExactShadowOf.ok {a1 : List Sig} {a2 : Int}  : FnOK pg G 5 [.sl (a1.map eSig), .int .i64 a2] [] (.bool (((fun (_ : List Sig) (_ : Int) => true) a1 a2))) [] false := by
 refine laws_FnExactShadowOf.w hm hz hG ?_
 simp only [laws_FnExactShadowOf.f, cn_ite, lv]
 rw [gd_ok (by decide)]
 refine ite_ok (fun _ => rfl) (fun c1 => ?_)
 obtain ⟨_, h2, h3⟩ := szSigs_le (l := a1) (q := 1048576) (by omega)
 have g : a1.length ≤ 1048576 ∧ ∀ s ∈ a1, s.params.length ≤ 1048576 := ⟨by omega, fun s hs => by have := h3 s hs; omega⟩
 simp only [gd_ok g, on_LSig, shadow_eq]
 simp
end
end Go.Proofs.YtchpopejojghmaaGreatDoor.M
