/- The program's parser of signatures. -/
import Derived.Test.YtoofegkjdjlpkaaGreatDoorV3
set_option linter.unusedVariables false
set_option linter.unusedSimpArgs false
set_option linter.unusedSectionVars false
namespace Go.Proofs.YtoofegkjdjlpkaaGreatDoor.M
open Go Go.Proofs
set_option maxRecDepth 100000
theorem cutS_none {p : Str} (h : ∀ b ∈ p, b.toNat ≠ 61) : cutS p [61] = (p, [], false) := by
  have hi := idx_none (t := []) (no61 h)
  rw [cutS, Lib.cut, hi, if_neg (by decide)]
/- The program's parser. -/
def stepI (t : Str) (s : List Param × Int) : Option (List Param × Int) :=
  if t = [47] then some (s.1.map (setKind 0), s.2)
  else if t = [42] then some (s.1, 3)
  else if Lib.hasPrefix t [42, 42] = true then some (s.1 ++ [⟨t.drop 2, 4, false, 0⟩], s.2)
  else if Lib.hasPrefix t [42] = true then some (s.1 ++ [⟨t.drop 1, 2, false, 0⟩], 3)
  else if (cutS t [61]).2.2 = true then
    if (readNumI (cutS t [61]).2.1).2 = true then some (s.1 ++ [⟨(cutS t [61]).1, s.2, true, (readNumI (cutS t [61]).2.1).1⟩], s.2) else none
  else some (s.1 ++ [⟨(cutS t [61]).1, s.2, false, 0⟩], s.2)
def ParseSigI (t : Str) : Sig × Bool :=
  if t = [] then (⟨[]⟩, true)
  else match foldP stepI (splitS t [44, 32]) ([], 1) with
    | none => (⟨[]⟩, false)
    | some s => if validParams s.1 = true ∧ SigTextV s.1 = t then (⟨s.1⟩, true) else (⟨[]⟩, false)
theorem steps_I : Steps stepI := by
  refine ⟨fun acc k h => by rw [stepI, if_pos rfl], fun acc k => by rw [stepI, if_neg (by decide), if_pos rfl], fun p acc k hk2 h hk => ?_, fun p acc k h hk => ?_, fun p acc k h hk => ?_⟩
  · obtain ⟨b, r, e, hb1, hb2⟩ := single_head h hk
    have n1 : paramText p ≠ [47] := by rw [e]; intro h; cases h; exact absurd hb1 (by decide)
    have n2 : paramText p ≠ [42] := by rw [e]; intro h; cases h; exact absurd hb1 (by decide)
    have hb : ¬ 42 = b := by intro h; subst h; exact absurd hb1 (by decide)
    have hn := fun b hb => name_chars (vp_name h) b hb
    have n3 : ¬ Lib.hasPrefix (paramText p) [42, 42] = true := by rw [e]; simp [Lib.hasPrefix, List.isPrefixOf, hb]
    have n4 : ¬ Lib.hasPrefix (paramText p) [42] = true := by rw [e]; simp [Lib.hasPrefix, List.isPrefixOf, hb]
    rw [stepI, if_neg n1, if_neg n2, if_neg n3, if_neg n4, paramText_s hk]
    cases hd : p.hasDefault with
    | true =>
      have hc : cutS (p.name ++ 61 :: number p.dflt) [61] = (p.name, number p.dflt, true) := cutS_app (fun b hb => by have := hn b hb; omega)
      simp only [if_true, hc, readNumI_number (vp_val h), setKind, hd]
    | false =>
      have hc : cutS p.name [61] = (p.name, [], false) := cutS_none (fun b hb => by have := hn b hb; omega)
      simp only [Bool.false_eq_true, if_false, List.append_nil, hc, setKind, hd, vp_dflt h hd]
  · rw [paramText_2 hk]
    obtain ⟨d1, d2⟩ := vp_no h (.inl hk)
    obtain ⟨b, r, e, hb1, hb2⟩ := name_head (vp_name h) []
    rw [List.append_nil] at e
    have hb : ¬ 42 = b := by intro h; subst h; exact absurd hb1 (by decide)
    have ep : (⟨p.name, 2, false, 0⟩ : Param) = p := by rw [← hk, ← d1, ← d2]
    rw [stepI, if_neg (by simp), if_neg (by rw [e]; simp), if_neg (by rw [e]; simp [Lib.hasPrefix, List.isPrefixOf, hb]), if_pos (by simp [Lib.hasPrefix, List.isPrefixOf])]
    show some (acc ++ [(⟨p.name, 2, false, 0⟩ : Param)], (3 : Int)) = _
    rw [ep]
  · rw [paramText_4 hk]
    obtain ⟨d1, d2⟩ := vp_no h (.inr hk)
    have ep : (⟨p.name, 4, false, 0⟩ : Param) = p := by rw [← hk, ← d1, ← d2]
    rw [stepI, if_neg (by simp), if_neg (by simp), if_pos (by simp [Lib.hasPrefix, List.isPrefixOf])]
    show some (acc ++ [(⟨p.name, 4, false, 0⟩ : Param)], k) = _
    rw [ep]
theorem rt0 {step : Str → List Param × Int → Option (List Param × Int)} (hs : Steps step) {l : List Param} (h : validParams l = true) :
    foldP step (sigParts (hasK 2 l) false l) ([], 1) = some (l, kOf l) := by
  obtain ⟨h1, h2, _⟩ := validParams_all h
  have := rt hs l [] h1 h2 (fun q hq => by cases hq)
  simpa [accOf, last3, kOf, hasK] using this
theorem parseSigS_text {l : List Param} (h : validParams l = true) : ParseSigS (sigText l) = (⟨l⟩, true) := by
  have hc := sigParts_chars (hr := hasK 2 l) (pv := false) (validParams_all h).1
  have e : splitList (sigText l) = sigParts (hasK 2 l) false l := splitList_join fun q hq => ⟨(hc q hq).1, fun b hb => ((hc q hq).2 b hb).1⟩
  have e2 : parseSigS (sigText l) = (⟨l⟩, true) := by rw [parseSigS, e, rt0 steps_S h]; simp [h]
  rw [ParseSigS, e2]; rfl
theorem parseSigI_text {l : List Param} (h : validParams l = true) : ParseSigI (sigText l) = (⟨l⟩, true) := by
  have hc := sigParts_chars (hr := hasK 2 l) (pv := false) (validParams_all h).1
  rw [ParseSigI]
  by_cases h0 : sigText l = []
  · rw [if_pos h0, sigText_nil h h0]
  · rw [if_neg h0]
    have e : splitS (sigText l) [44, 32] = sigParts (hasK 2 l) false l := by
      cases hp : sigParts (hasK 2 l) false l with
      | nil => rw [sigText, hp] at h0; exact absurd (joinW_nil _) h0
      | cons a b =>
        rw [hp] at hc
        rw [sigText, hp]
        exact splitS_join a b fun q hq b hb => ((hc q hq).2 b hb).1
    rw [e, rt0 steps_I h]
    simp only
    rw [SigTextV, if_pos h, if_pos ⟨h, rfl⟩]
theorem parseSigS_ok {t : Str} (h : (ParseSigS t).2 = true) : validParams (ParseSigS t).1.params = true ∧ sigText (ParseSigS t).1.params = t := by
  unfold ParseSigS at h ⊢
  split at h
  · rename_i h1
    rw [if_pos h1]
    simp only
    unfold parseSigS at h1 ⊢
    cases e : foldP stepS (splitList t) ([], 1) with
    | none => rw [e] at h1; cases h1
    | some s => rw [e] at h1; simpa using h1
  · cases h
theorem parseSigI_ok {t : Str} (h : (ParseSigI t).2 = true) : validParams (ParseSigI t).1.params = true ∧ sigText (ParseSigI t).1.params = t := by
  unfold ParseSigI at h ⊢
  by_cases h0 : t = []
  · rw [if_pos h0, h0]; exact ⟨rfl, rfl⟩
  · rw [if_neg h0] at h ⊢
    cases e : foldP stepI (splitS t [44, 32]) ([], 1) with
    | none => rw [e] at h; cases h
    | some s =>
      rw [e] at h
      simp only at h ⊢
      split at h
      · rename_i h1
        rw [if_pos h1]
        exact ⟨h1.1, by have := h1.2; rwa [SigTextV, if_pos h1.1] at this⟩
      · cases h
theorem parseSigS_bad {t : Str} (h : (ParseSigS t).2 = false) : (ParseSigS t).1 = ⟨[]⟩ := by
  unfold ParseSigS at h ⊢
  split at h
  · cases h
  · rename_i h1; rw [if_neg h1]
theorem parseSigI_bad {t : Str} (h : (ParseSigI t).2 = false) : (ParseSigI t).1 = ⟨[]⟩ := by
  unfold ParseSigI at h ⊢
  by_cases h0 : t = []
  · rw [if_pos h0] at h; cases h
  · rw [if_neg h0] at h ⊢
    cases e : foldP stepI (splitS t [44, 32]) ([], 1) with
    | none => rfl
    | some s =>
      rw [e] at h
      simp only at h ⊢
      split at h
      · cases h
      · rename_i h1; rw [if_neg h1]
theorem parseSig_same (t : Str) : ParseSigI t = ParseSigS t := by
  cases hI : (ParseSigI t).2 with
  | true =>
    obtain ⟨h1, h2⟩ := parseSigI_ok hI
    have e := parseSigS_text h1
    rw [h2] at e
    rw [e]
    exact Prod.ext rfl hI
  | false =>
    cases hS : (ParseSigS t).2 with
    | true =>
      obtain ⟨h1, h2⟩ := parseSigS_ok hS
      have e := parseSigI_text h1
      rw [h2] at e
      rw [e] at hI; cases hI
    | false => exact Prod.ext ((parseSigI_bad hI).trans (parseSigS_bad hS).symm) (hI.trans hS.symm)
theorem hasPre_len {s p : Str} (h : Lib.hasPrefix s p = true) : p.length ≤ s.length := (List.isPrefixOf_iff_prefix.1 h).length_le
def parFinI (t : Str) (o : Option (List Param × Int)) : Sig × Bool :=
  match o with
  | none => (⟨[]⟩, false)
  | some s => if validParams s.1 = true ∧ SigTextV s.1 = t then (⟨s.1⟩, true) else (⟨[]⟩, false)
theorem slash_stepI {l : List Param} {k : Int} {y : Param} (h0 : 0 ≤ k) (hy : l[k.toNat]? = some y) : (l.set k.toNat (setKind 0 y)).take (k + 1).toNat ++ ((l.set k.toNat (setKind 0 y)).drop (k + 1).toNat).map (setKind 0) = l.take k.toNat ++ (l.drop k.toNat).map (setKind 0) := by
  obtain ⟨hlt, e⟩ := List.getElem?_eq_some_iff.1 hy
  rw [show (k + 1).toNat = k.toNat + 1 by omega, List.drop_set_of_lt (by omega), List.drop_eq_getElem_cons hlt, e, take_snoc (x := setKind 0 y) (by rw [List.getElem?_set_self hlt]), List.take_set_of_le (by omega)]
  simp
def on_Sig {R : Type} (v : Sig) (f : (List Param) → Option R) : Option R := f (v.params)
section
variable {A : Bx} {P : Program} {G : Glob} {rg : Option Nat} {own : Nat} {o : Nat → EObj} {g : FuncId} {vs : List C} {sh : Bool} {K : C → List (Nat × EObj) → Prop} {R : Type} {r : R} {V : Vx} {v : Sig} {f : (List Param) → Option R}
theorem s_cSig (hV : IsV V) (hA : IsBx true rg P G A) (H : on_Sig v f = some r) (hok : FnOK P G g vs [] (.agg [.sl ((v.params).map eParam)]) [] sh) (hc : vs.all closedArg = true) (h : ∀ c0, f c0 = some r → K (.agg [.sl (V.rParam c0)]) []) : A.call own o g vs K := by
  refine callT_plain hA hok hc ?_
  have := h (v.params) H
  simp only [hV.rParam] at this
  exact this
theorem s_wSig (hA : IsBx true rg P G A) (H : on_Sig v f = some r) (hids : callIds vs = []) (h : ∀ U, U = callS P G own o g → closeVs o [] vs fun bs => U bs (vs.flatMap topRefs) K) : A.call own o g vs K := callT_sh hA hids h
variable {U : List C → List Nat → (C → List (Nat × EObj) → Prop) → Prop} {bs : List C} {tops : List Nat}
theorem s_tSig (hU : U = callS P G own o g) (hV : IsV V) (H : on_Sig v f = some r) (hok : FnOK P G g bs [] (.agg [.sl ((v.params).map eParam)]) [] true) (hfr : topsF o [] tops) (h : ∀ c0, f c0 = some r → K (.agg [.sl (V.rParam c0)]) (freezeE o tops ++ [])) : U bs tops K := by
  refine callS_of hU hok (fun i hi => (topsF_sound hfr i hi).2) ?_
  have := h (v.params) H
  simp only [hV.rParam] at this
  exact this
end
noncomputable def impl_ParseSignature.b1 (a1 : Str) (x361 : Int) (x362 : Int) (v557 : Int) (h0 : (Int × Int × (List Param)) → Option (Sig × Bool)) (h1 : (Int × (List Param)) → Option (Sig × Bool)) (z_ : Sig × Bool) (x571 : Int) (x572 : List Param) : Option (Sig × Bool) := (if x571 < v557 then (ia x572.length x571 fun j592 => (rnParam x572 j592 fun v593 v594 v595 v596 => (lv (x572.set j592 ⟨v593, 0, v595, v596⟩) fun v597 => (arr .i64 (x571 + 1) fun v598 => (h1 (v598, v597)))))) else (arr .i64 (x361 + 1) fun v599 => (h0 (v599, x362, x572))))
noncomputable def impl_ParseSignature.b0 (a1 : Str) (v313 : List Str) (v314 : Int) (h0 : (Int × Int × (List Param)) → Option (Sig × Bool)) (h1 : Int → Int → Int → (Int × (List Param)) → Option (Sig × Bool)) (z_ : Sig × Bool) (x361 : Int) (x362 : Int) (x363 : List Param) : Option (Sig × Bool) := (if x361 < v314 then (ixS v313 x361 fun v556 => (if v556 = [47] then (ln' z_ (x363.length) fun v557 => (h1 x361 x362 v557 (0, x363))) else (if v556 = [42] then (arr .i64 (x361 + 1) fun v600 => (h0 (v600, 3, x363))) else (cn (Lib.hasPrefix v556 ([42, 42])) (gd (0 ≤ (2 : Int) ∧ 2 ≤ v556.length) (lv (v556.drop 2) fun v601 => (gd ((x363.length + 1) * 40 ≤ 140737488355328) (lv (x363 ++ [⟨v601, 4, false, 0⟩]) fun v602 => (arr .i64 (x361 + 1) fun v603 => (h0 (v603, x362, v602))))))) (cn (Lib.hasPrefix v556 ([42])) (gd (0 ≤ (1 : Int) ∧ 1 ≤ v556.length) (lv (v556.drop 1) fun v606 => (gd ((x363.length + 1) * 40 ≤ 140737488355328) (lv (x363 ++ [⟨v606, 2, false, 0⟩]) fun v607 => (arr .i64 (x361 + 1) fun v608 => (h0 (v608, 3, v607))))))) (gd (v556.length < 4294967281) (on_S_S_B (cutS v556 ([61])) fun v609 v610 v611 => (cn v611 (gd (v610.length ≤ 281474976710656) (on_I_B (readNumI v610) fun v618 v619 => (cn v619 (gd ((x363.length + 1) * 40 ≤ 140737488355328) (lv (x363 ++ [⟨v609, x362, true, v618⟩]) fun v620 => (arr .i64 (x361 + 1) fun v621 => (h0 (v621, x362, v620))))) (some (⟨[]⟩, false))))) (gd ((x363.length + 1) * 40 ≤ 140737488355328) (lv (x363 ++ [⟨v609, x362, false, 0⟩]) fun v622 => (arr .i64 (x361 + 1) fun v623 => (h0 (v623, x362, v622))))))))))))) else (cn ((fun (s : Sig) => validParams s.params) (⟨x363⟩)) (lv ((fun (s : Sig) => SigTextV s.params) (⟨x363⟩)) fun v625 => (if v625 = a1 then (gd (x363.length * 40 ≤ 140737488355328) (on_Sig ((fun (s : Sig) => s) (⟨x363⟩)) fun v627 => (some (⟨v627⟩, true)))) else (some (⟨[]⟩, false)))) (some (⟨[]⟩, false))))
noncomputable def impl_ParseSignature.f (a1 : Str) (h0 : (List Str) → Int → (Int × Int × (List Param)) → Option (Sig × Bool)) (z_ : Sig × Bool) : Option (Sig × Bool) := (if a1 = ([] : Str) then (some (⟨[]⟩, true)) else (gd (a1.length < 4294967281 ∧ 1 ≤ (([44, 32] : Str)).length) (on_LS (splitS a1 ([44, 32])) fun v313 => (ln' z_ (v313.length) fun v314 => (h0 v313 v314 (0, 1, []))))))
theorem pin_impl_ParseSignature {e : ESt} {ns : List (Nat × Nat)} {ps : List (Nat × C)} {os : List (Nat × EObj)} (hs : pinPZ (pinZ e.o (os.map Prod.fst) ns) e.s ps := by first | (cbv <;> (repeat' (first | trivial | refine And.intro ?_ ?_)) <;> (first | rfl | assumption | omega | exact clS hV _ | exact clParam hV _ | with_unfolding_all exact hV.nS [] | with_unfolding_all exact (hV.nS []).symm | with_unfolding_all exact hV.nParam [] | with_unfolding_all exact (hV.nParam []).symm | with_unfolding_all exact hV.rS _ | with_unfolding_all exact hV.rParam _ | with_unfolding_all exact (hV.nS _).trans (Eq.trans (by simp only [hV.nS] at *; omega) (hV.nS _).symm) | with_unfolding_all exact (hV.nParam _).trans (Eq.trans (by simp only [hV.nParam] at *; omega) (hV.nParam _).symm) | simp [closedCell])) | fail) (ho : ∀ B : (Nat → EObj) → List (List C) → List (List C) → Prop, (∀ o rows rows', rowsZ (pinZ o (os.map Prod.fst) ns) rows rows' → B o rows rows') → pinOZ (pinZ e.o (os.map Prod.fst) ns) B e.o ns os := by intro B hB; first | (cbv <;> (repeat' (first | trivial | refine And.intro ?_ ?_ | refine pin_same hB ?_ | refine pin_nil hB ?_ | refine pin_dirty hB (by assumption) (by assumption) ?_ ?_ | exact pinL_n | refine pinL_c ?_ ?_ | exact pzr rfl rfl rfl (nrS hV _) (clS hV _) | exact pzr rfl rfl rfl (nrParam hV _) (clParam hV _) | (refine pz_go ?_; cbv) | (refine pinL_go ?_; cbv))) <;> (first | exact clS hV _ | exact clParam hV _ | with_unfolding_all exact hV.rS _ | with_unfolding_all exact hV.rParam _ | with_unfolding_all exact hV.nS [] | with_unfolding_all exact (hV.nS []).symm | with_unfolding_all exact hV.nParam [] | with_unfolding_all exact (hV.nParam []).symm | assumption | omega | rfl | with_unfolding_all exact (hV.nS _).trans (Eq.trans (by simp only [hV.nS] at *; omega) (hV.nS _).symm) | with_unfolding_all exact (hV.nParam _).trans (Eq.trans (by simp only [hV.nParam] at *; omega) (hV.nParam _).symm) | simp [closedCell])) | fail) : PinnedZ e ns ps os := ⟨hs, ho⟩
section
variable {G : Glob} (hm : pg.follows .mixedOrders = true) (hz : ∀ T, ∀ c ∈ (ttOf pg T).zero, Bd c) (hG : GF G)
include hm hz hG
set_option maxHeartbeats 8000000 in
theorem impl_ParseSignature.w {a1 : Str} (inv0 : (List Str) → Int → (Int × Int × (List Param)) → Prop) (mu0 : (List Str) → Int → (Int × Int × (List Param)) → Nat) (res0 : (List Str) → Int → (Int × Int × (List Param)) → Sig × Bool) (inv1 : Nat → (List Str) → Int → Int → Int → Int → (Int × (List Param)) → Prop) (mu1 : Nat → (List Str) → Int → Int → Int → Int → (Int × (List Param)) → Nat) (res1 : Nat → (List Str) → Int → Int → Int → Int → (Int × (List Param)) → Sig × Bool) (hb0 : ∀ (v313 : List Str), ∀ (v314 : Int), ∀ (s_ : Int × Int × (List Param)), inv0 v313 v314 s_ → impl_ParseSignature.b0 a1 v313 v314 (LI (inv0 v313 v314) (mu0 v313 v314) (res0 v313 v314) (mu0 v313 v314 s_)) (fun x361 x362 v557 => EI (inv1 (mu0 v313 v314 s_) v313 v314 x361 x362 v557) (mu1 (mu0 v313 v314 s_) v313 v314 x361 x362 v557) (res1 (mu0 v313 v314 s_) v313 v314 x361 x362 v557)) (res0 v313 v314 s_) s_.1 s_.2.1 s_.2.2 = some (res0 v313 v314 s_)) (hb1 : ∀ (m0_ : Nat), ∀ (v313 : List Str), ∀ (v314 : Int), ∀ (x361 : Int), ∀ (x362 : Int), ∀ (v557 : Int), ∀ (s_ : Int × (List Param)), inv1 m0_ v313 v314 x361 x362 v557 s_ → impl_ParseSignature.b1 a1 x361 x362 v557 (LI (inv0 v313 v314) (mu0 v313 v314) (res0 v313 v314) m0_) (LI (inv1 m0_ v313 v314 x361 x362 v557) (mu1 m0_ v313 v314 x361 x362 v557) (res1 m0_ v313 v314 x361 x362 v557) (mu1 m0_ v313 v314 x361 x362 v557 s_)) (res1 m0_ v313 v314 x361 x362 v557 s_) s_.1 s_.2 = some (res1 m0_ v313 v314 x361 x362 v557 s_)) {r : Sig × Bool} (H : impl_ParseSignature.f a1 (fun v313 v314 => EI (inv0 v313 v314) (mu0 v313 v314) (res0 v313 v314)) r = some r) : FnOK pg G 34 [.str ⟨⟨a1⟩⟩] [] (.tup [.agg [.sl ((r.1.params).map eParam)], .bool (r.2)]) [] true := by
  obtain ⟨V, hV⟩ := exV
  have e0_S : V.rS [] = [] := hV.rS []
  have e1_S : ∀ x r, V.rS (x :: r) = eS x :: V.rS r := fun x r => by rw [hV.rS, hV.rS]; rfl
  have e0_Param : V.rParam [] = [] := hV.rParam []
  have e1_Param : ∀ x r, V.rParam (x :: r) = eParam x :: V.rParam r := fun x r => by rw [hV.rParam, hV.rParam]; rfl
  simp only [← hV.rS, ← hV.rParam]
  refine fn_okS (tt0 := tyG [ty3, ty4, ty9, ty46, ty48, ty71, ty99]) (fn := Tryz.f34) (body := bodyOf Tryz.f34) (ext := []) hm (tyG_sub ⟨tt3, tt4, tt9, tt46, tt48, tt71, tt99, trivial⟩) hz 0 [] (by unfold pg; exact Tryz.func34) rfl rfl (by simp [Tryz.f34]) (by simp [EObj.toObj]) (by cbv) ?_
  intro A F hA hF
  unfold impl_ParseSignature.f at H
  cbv
  repeat' (first
    | (with_reducible refine s_gd H (fun hg H => ?_))
    | (cases H; (try simp only [e0_S, e0_Param, e1_S, eS, e1_Param, eParam] at hF); with_reducible refine fin_close hF rfl (by simp [expIds, posCells, C.cells, idOf]) ?_; cbv)
    | (with_reducible refine s_lt H (fun H => ?_) (fun H => ?_) <;> cbv)
    | (with_reducible refine s_le H (fun H => ?_) (fun H => ?_) <;> cbv)
    | (with_reducible refine s_eq H (fun H => ?_) (fun H => ?_) <;> cbv)
    | (with_reducible refine s_ne H (fun H => ?_) (fun H => ?_) <;> cbv)
    | (with_reducible refine s_ln H lnOf (fun _ H => ?_); cbv)
    | (with_reducible refine s_ixS hV H (fun _ H => ?_); cbv)
    | (with_reducible refine s_rnParam hV H (fun _ _ _ _ H => ?_); cbv)
    | (with_reducible refine s_ia H lnOf (fun _ H => ?_); cbv)
    | (with_reducible refine s_ar H (fun _ H => ?_); cbv)
    | (with_reducible refine s_setS hV H (fun _ hs_ H => ?_); cbv)
    | (with_reducible refine s_apS hV H (fun _ H => ?_); cbv)
    | (with_reducible refine s_apL hV.rS hV.nS H (fun _ H => ?_); cbv)
    | (with_reducible refine s_drL hV.rS H (fun _ H => ?_); cbv)
    | (with_reducible refine s_drLn hV.rS (by with_unfolding_all rfl) H (fun _ H => ?_); cbv)
    | (with_reducible refine s_setParam hV H (fun _ hs_ H => ?_); cbv)
    | (with_reducible refine s_apParam hV H (fun _ H => ?_); cbv)
    | (with_reducible refine s_apL hV.rParam hV.nParam H (fun _ H => ?_); cbv)
    | (with_reducible refine s_drL hV.rParam H (fun _ H => ?_); cbv)
    | (with_reducible refine s_drLn hV.rParam (by with_unfolding_all rfl) H (fun _ H => ?_); cbv)
    | (with_reducible refine s_lv H (fun _ H => ?_); cbv)
    | (with_reducible refine s_lvn (by with_unfolding_all rfl) H (fun _ H => ?_); cbv)
    | (with_reducible refine s_loop hA H (fun s h => hb0 _ _ s h) [0, 2, 19, 4, 20] [128] (fun e s => [(5, .int .i64 (s.2.1)), (21, .int .i64 (s.1))]) (fun e s => [ovO e 256 [(0, .ref 5056 0 4 0 (V.nParam (s.2.2)))], (5056, ⟨0, true, 4, .many (V.rParam (s.2.2))⟩)]) [(5056, 4)] pin_impl_ParseSignature nbOf ?_; rintro ⟨x361, x362, x363⟩ H; unfold impl_ParseSignature.b0 at H; (try dsimp only at H); cbv)
    | (with_reducible refine s_loop hA H (fun s h => hb1 _ _ _ _ _ _ s h) [0, 2, 4, 5, 19, 20, 21, 57] [128] (fun e s => [(58, .int .i64 (s.1))]) (fun e s => [ovO e 256 [(0, .ref 5056 0 4 0 (V.nParam (s.2)))], (5056, ⟨0, true, 4, .many (V.rParam (s.2))⟩)]) [] pin_impl_ParseSignature nbOf ?_; rintro ⟨x571, x572⟩ H; unfold impl_ParseSignature.b1 at H; (try dsimp only at H); cbv)
    | (with_reducible refine s_next H pin_impl_ParseSignature nbOf)
    | (with_reducible refine s_cLS hV hA H (by (try simp only [hV.rS, hV.rParam]); with_unfolding_all exact strings_Split.ok hm hz hG (by first | assumption | omega)) rfl (fun _ H => ?_); cbv)
    | (with_reducible refine s_cb hA H (by (try simp only [hV.rS, hV.rParam]); with_unfolding_all exact strings_HasPrefix.ok hm hz hG) rfl (fun H => ?_) (fun H => ?_) <;> cbv)
    | (with_reducible refine s_cS_S_B hV hA H (by (try simp only [hV.rS, hV.rParam]); with_unfolding_all exact strings_Cut.ok hm hz hG (by first | assumption | omega)) rfl (fun _ _ _ H => ?_); cbv)
    | (with_reducible refine s_cI_B hV hA H (by (try simp only [hV.rS, hV.rParam]); with_unfolding_all exact impl_readNumber.ok hm hz hG (by first | assumption | omega)) rfl (fun _ _ H => ?_); cbv)
    | (with_reducible refine s_cb hA H (by (try simp only [hV.rS, hV.rParam]); with_unfolding_all exact impl_ValidSignature.ok hm hz hG) rfl (fun H => ?_) (fun H => ?_) <;> cbv)
    | (with_reducible refine s_rb (by assumption) H (by (try simp only [hV.rS, hV.rParam]); with_unfolding_all exact impl_ValidSignature.ok hm hz hG) (fun H => ?_) (fun H => ?_) <;> cbv)
    | (with_reducible refine s_cs hA H (by (try simp only [hV.rS, hV.rParam]); with_unfolding_all exact impl_SignatureText.ok hm hz hG) rfl (fun _ H => ?_); cbv)
    | (with_reducible refine s_rs (by assumption) H (by (try simp only [hV.rS, hV.rParam]); with_unfolding_all exact impl_SignatureText.ok hm hz hG) (fun _ H => ?_); cbv)
    | (with_reducible refine s_cSig hV hA H (by (try simp only [hV.rS, hV.rParam]); (first | (have hk_ := impl_Signature_copyOf.ok hm hz hG hg; with_unfolding_all exact hk_) | (with_unfolding_all exact impl_Signature_copyOf.ok hm hz hG (by first | assumption | omega)))) rfl (fun _ H => ?_); cbv)
    | (with_reducible refine s_tSig (by assumption) hV H (by (try simp only [hV.rS, hV.rParam]); (first | (have hk_ := impl_Signature_copyOf.ok hm hz hG hg; with_unfolding_all exact hk_) | (with_unfolding_all exact impl_Signature_copyOf.ok hm hz hG (by first | assumption | omega)))) (by first | (cbv <;> (repeat' (first | trivial | refine And.intro ?_ ?_)) <;> (first | rfl | exact clS hV _ | with_unfolding_all exact clParam hV _ | simp [closedCell])) | fail) (fun _ H => ?_); cbv)
    | (with_reducible refine s_wSig hA H rfl (fun U hU => ?_); cbv)
    | (with_reducible refine callT_cl hA (fun U hU => ?_); cbv)
    | (with_reducible refine indep_of hA ?_; cbv)
    | ((with_reducible refine side ?_); exact sideOf)
    | (with_reducible refine s_tkG hV.rS hV.nS ?_; cbv)
    | (with_reducible refine s_tkG hV.rParam hV.nParam ?_; cbv)
    | (with_reducible refine s_tkP hV.rS ?_; cbv)
    | (with_reducible refine s_drP hV.rS hV.nS ?_; cbv)
    | (with_reducible refine s_tkP hV.rParam ?_; cbv)
    | (with_reducible refine s_drP hV.rParam hV.nParam ?_; cbv)
    | (with_reducible refine s_eqn ?_; cbv)
    | (with_reducible refine s_eqn2 ?_; cbv)
    | (with_reducible refine s_tk1 ?_; cbv)
    | (with_reducible refine And.intro ?_ ?_)
    | ((with_reducible refine s_cn H (fun hb H => ?_) (fun hb H => ?_)) <;> (revert H; subst hb; intro H; cbv))
    | (intro ys hys; subst hys; rfl)
    | rfl)
end
section
variable {G : Glob} (hm : pg.follows .mixedOrders = true) (hz : ∀ T, ∀ c ∈ (ttOf pg T).zero, Bd c) (hG : GF G)
include hm hz hG
theorem impl_ParseSignature.ok {a1 : Str} (hp : a1.length ≤ 1048576) : FnOK pg G 34 [.str ⟨⟨a1⟩⟩] [] (.tup [.agg [.sl (((ParseSigI a1).1.params).map eParam)], .bool ((ParseSigI a1).2)]) [] true := by
  let inv0 : List Str → Int → Int × Int × List Param → Prop := fun v n s => n = v.length ∧ 0 ≤ s.1 ∧ s.1 ≤ v.length ∧ s.2.2.length ≤ s.1.toNat ∧ v.length ≤ 1048578 ∧ ∀ t ∈ v, t.length ≤ 1048576
  let res0 : List Str → Int → Int × Int × List Param → Sig × Bool := fun v n s => parFinI a1 (foldP stepI (v.drop s.1.toNat) (s.2.2, s.2.1))
  refine @impl_ParseSignature.w G hm hz hG a1 inv0 (fun v n s => v.length - s.1.toNat) res0
    (fun m v n i k n2 s => 0 ≤ s.1 ∧ s.1 ≤ s.2.length ∧ n2 = s.2.length ∧ inv0 v n (i + 1, k, s.2) ∧ v.length - (i + 1).toNat < m ∧ 0 ≤ i) (fun _ _ _ _ _ _ s => s.2.length - s.1.toNat)
    (fun _ v n i k n2 s => res0 v n (i + 1, k, s.2.take s.1.toNat ++ (s.2.drop s.1.toNat).map (setKind 0))) ?_ ?_ _ ?_
  · rintro v n ⟨i, k, acc⟩ ⟨rfl, h0, h1, h2, h3, h4⟩
    simp only at h0 h1 h2
    simp only [impl_ParseSignature.b0, lv, cn_ite, eta_Param]
    refine ite_ok (fun h => ?_) (fun h => ?_)
    · have hlt : i.toNat < v.length := by omega
      have hx := List.getElem?_eq_getElem hlt
      have hxl := h4 _ (List.getElem_mem hlt)
      have er : res0 v v.length (i, k, acc) = parFinI a1 (foldP stepI (v[i.toNat] :: v.drop (i.toNat + 1)) (acc, k)) := by
        show parFinI a1 (foldP stepI (v.drop i.toNat) (acc, k)) = _
        rw [List.drop_eq_getElem_cons hlt]
      generalize v[i.toNat] = x at hx hxl er
      have go : ∀ k' acc', acc'.length ≤ (i + 1).toNat → (arr .i64 (i + 1) fun u => LI (inv0 v v.length) (fun s => v.length - s.1.toNat) (res0 v v.length) (v.length - i.toNat) (u, k', acc')) = some (parFinI a1 (foldP stepI (v.drop (i.toNat + 1)) (acc', k'))) := fun k' acc' hl => by
        rw [arr_ok (by omega), LI_ok ⟨⟨rfl, by simp only; omega, by simp only; omega, by simp only; exact hl, h3, h4⟩, by simp only; omega⟩]
        show some (parFinI a1 (foldP stepI (v.drop (i + 1).toNat) (acc', k'))) = _
        rw [show (i + 1).toNat = i.toNat + 1 by omega]
      have hl : ∀ p : Param, (acc ++ [p]).length ≤ (i + 1).toNat := fun p => by simp; omega
      rw [ixS_ok h0 hx, er, foldP, stepI]
      refine ite_ok (fun c => ?_) (fun c => ?_)
      · refine ln_ok fun hB => ?_
        rw [if_pos c, EI_ok ⟨Int.le_refl 0, by simp, rfl, ⟨rfl, by simp only; omega, by simp only; omega, by simp only; omega, h3, h4⟩, by omega, h0⟩]
        show some (parFinI a1 (foldP stepI (v.drop (i + 1).toNat) (_, k))) = _
        rw [show (i + 1).toNat = i.toNat + 1 by omega]
        simp only [Int.toNat_zero, List.take_zero, List.nil_append, List.drop_zero]
      rw [if_neg c]
      refine ite_ok (fun c2 => ?_) (fun c2 => ?_)
      · rw [if_pos c2]; exact go _ _ (by omega)
      rw [if_neg c2]
      refine ite_ok (fun c3 => ?_) (fun c3 => ?_)
      · have := hasPre_len c3
        simp only [List.length_cons, List.length_nil] at this
        rw [if_pos c3, gd_ok (by omega), gd_ok (by omega)]; exact go _ _ (hl _)
      rw [if_neg c3]
      refine ite_ok (fun c4 => ?_) (fun c4 => ?_)
      · have := hasPre_len c4
        simp only [List.length_cons, List.length_nil] at this
        rw [if_pos c4, gd_ok (by omega), gd_ok (by omega)]; exact go _ _ (hl _)
      rw [if_neg c4, gd_ok (by omega)]
      have hcl := cut_len2 x [61]
      simp only [on_S_S_B, on_I_B]
      refine ite_ok (fun c5 => ?_) (fun c5 => ?_)
      · rw [if_pos c5, gd_ok (by show (Lib.cut x [61]).2.1.length ≤ _; omega)]
        refine ite_ok (fun c6 => ?_) (fun c6 => ?_)
        · rw [if_pos c6, gd_ok (by omega)]; exact go _ _ (hl _)
        · rw [if_neg c6]; rfl
      · rw [if_neg c5, gd_ok (by omega)]; exact go _ _ (hl _)
    · have hd : v.drop i.toNat = [] := List.drop_eq_nil_of_le (by omega)
      have er : res0 v v.length (i, k, acc) = if validParams acc = true ∧ SigTextV acc = a1 then (⟨acc⟩, true) else (⟨[]⟩, false) := by
        show parFinI a1 (foldP stepI (v.drop i.toNat) (acc, k)) = _
        rw [hd]; rfl
      rw [er]
      refine ite_ok (fun hv => ?_) (fun hv => ?_)
      · refine ite_ok (fun c => ?_) (fun c => ?_)
        · rw [if_pos ⟨hv, c⟩, gd_ok (by omega)]; rfl
        · rw [if_neg fun h => c h.2]
      · rw [if_neg fun h => hv h.1]
  · rintro m v n i k n2 ⟨j, acc⟩ ⟨h0, h1, rfl, hI, hm', hi⟩
    simp only at h0 h1 hI
    simp only [impl_ParseSignature.b1, lv]
    refine ite_ok (fun h => ?_) (fun h => ?_)
    · have hlt : j.toNat < acc.length := by omega
      have hy := List.getElem?_eq_getElem hlt
      generalize acc[j.toNat] = y at hy
      have hs := slash_stepI h0 hy
      have hB : acc.length ≤ 1048578 := by have := hI.2.2.2.1; have := hI.2.2.1; simp only at *; have := hI.2.2.2.2.1; omega
      rw [ia_ok (by omega), rnParam_ok hy]
      have hl : (acc.set j.toNat (setKind 0 y)).length = acc.length := List.length_set
      rw [arr_ok (by omega)]
      show LI _ _ _ _ (j + 1, acc.set j.toNat (setKind 0 y)) = _
      rw [LI_ok ⟨⟨by simp only; omega, by simp only [hl]; omega, hl.symm ▸ rfl, ⟨hI.1, hI.2.1, hI.2.2.1, by simp only [hl]; exact hI.2.2.2.1, hI.2.2.2.2⟩, hm', hi⟩, by simp only [hl]; omega⟩, hs]
    · rw [arr_ok (by have := hI.2.2.1; simp only at this; have := hI.2.2.2.2.1; omega), LI_ok ⟨hI, hm'⟩, List.take_of_length_le (by omega), List.drop_eq_nil_of_le (by omega), List.map_nil, List.append_nil]
  · have hc := @splitS_count a1 [44, 32]
    simp only [impl_ParseSignature.f, on_LS]
    refine ite_ok (fun h => by rw [ParseSigI, if_pos h]) (fun h => ?_)
    rw [gd_ok ⟨by omega, by simp⟩, ParseSigI, if_neg h]
    refine ln_ok fun hB => ?_
    rw [EI_ok ⟨rfl, by simp, by simp, by simp, by omega, fun t ht => by have := splitS_part ht; omega⟩]
    simp only [res0, Int.toNat_zero, List.drop_zero, parFinI]
end
end Go.Proofs.YtoofegkjdjlpkaaGreatDoor.M
