/- Calls of flat calls. -/
import Derived.Test.YtoofegkjdjlpkaaGreatDoorQ5
set_option linter.unusedVariables false
set_option linter.unusedSimpArgs false
set_option linter.unusedSectionVars false
namespace Go.Proofs.YtoofegkjdjlpkaaGreatDoor.M
open Go Go.Proofs
set_option maxRecDepth 100000
def plArg (n : Int) : Arg := ⟨0, [], [n], []⟩
def nmArg (p : Pair) : Arg := ⟨2, p.name, [p.value], []⟩
def callOfV (f : Flat) : Cal := ⟨f.places.map plArg ++ f.names.map nmArg⟩
def CallOfV (f : Flat) : Cal := if validFlat f = true then callOfV f else ⟨[]⟩
def StarCallV (f : Flat) : Cal := if validFlat f = true then ⟨(if f.places = [] then [] else [⟨1, [], f.places, []⟩]) ++ (if f.names = [] then [] else [⟨3, [], [], f.names⟩])⟩ else ⟨[]⟩
noncomputable def spec_callOf.b1 (a1 : List Int) (a2 : List Pair)  (h1 : (Int × (List Arg)) → Option (Cal)) (z_ : Cal) (x105 : Int) (x106 : List Arg) : Option (Cal) := (ln' z_ (a2.length) fun v120 => (if x105 < v120 then (lj 1 (fun J1 => (ixPair a2 x105 fun v132 v133 => (ixPair a2 x105 fun v134 v135 => (gd ((x106.length + 1) * 72 ≤ 140737488355328) (lv (x106 ++ [⟨2, v132, [v135], []⟩]) fun v136 => (J1 v136)))))) (fun x131 => (arr .i64 (x105 + 1) fun v137 => (h1 (v137, x131))))) else (some ⟨x106⟩)))
noncomputable def spec_callOf.b0 (a1 : List Int) (a2 : List Pair)  (h0 : (Int × (List Arg)) → Option (Cal)) (h1 : (Int × (List Arg)) → Option (Cal)) (z_ : Cal) (x33 : Int) (x34 : List Arg) : Option (Cal) := (ln' z_ (a1.length) fun v42 => (if x33 < v42 then (lj 0 (fun J0 => (ixI a1 x33 fun v48 => (gd ((x34.length + 1) * 72 ≤ 140737488355328) (lv (x34 ++ [⟨0, ([] : Str), [v48], []⟩]) fun v49 => (J0 v49))))) (fun x47 => (arr .i64 (x33 + 1) fun v50 => (h0 (v50, x47))))) else (h1 (0, x34))))
noncomputable def spec_callOf.f (a1 : List Int) (a2 : List Pair) (h0 : (Int × (List Arg)) → Option (Cal)) (z_ : Cal) : Option (Cal) := (h0 (0, []))
theorem pin_spec_callOf {e : ESt} {ns : List (Nat × Nat)} {ps : List (Nat × C)} {os : List (Nat × EObj)} (hs : pinPZ (pinZ e.o (os.map Prod.fst) ns) e.s ps := by first | (cbv <;> (repeat' (first | trivial | refine And.intro ?_ ?_)) <;> (first | rfl | assumption | omega | exact clI hV _ | exact clPair hV _ | exact clArg hV _ | with_unfolding_all exact hV.nI [] | with_unfolding_all exact (hV.nI []).symm | with_unfolding_all exact hV.nPair [] | with_unfolding_all exact (hV.nPair []).symm | with_unfolding_all exact hV.nArg [] | with_unfolding_all exact (hV.nArg []).symm | with_unfolding_all exact hV.rI _ | with_unfolding_all exact hV.rPair _ | with_unfolding_all exact hV.rArg _ | with_unfolding_all exact (hV.nI _).trans (Eq.trans (by simp only [hV.nI] at *; omega) (hV.nI _).symm) | with_unfolding_all exact (hV.nPair _).trans (Eq.trans (by simp only [hV.nPair] at *; omega) (hV.nPair _).symm) | with_unfolding_all exact (hV.nArg _).trans (Eq.trans (by simp only [hV.nArg] at *; omega) (hV.nArg _).symm) | simp [closedCell])) | fail) (ho : ∀ B : (Nat → EObj) → List (List C) → List (List C) → Prop, (∀ o rows rows', rowsZ (pinZ o (os.map Prod.fst) ns) rows rows' → B o rows rows') → pinOZ (pinZ e.o (os.map Prod.fst) ns) B e.o ns os := by intro B hB; first | (cbv <;> (repeat' (first | trivial | refine And.intro ?_ ?_ | refine pin_same hB ?_ | refine pin_nil hB ?_ | refine pin_dirty hB (by assumption) (by assumption) ?_ ?_ | exact pinL_n | refine pinL_c ?_ ?_ | exact pzr rfl rfl rfl (nrI hV _) (clI hV _) | exact pzr rfl rfl rfl (nrPair hV _) (clPair hV _) | exact pzr rfl rfl rfl (nrArg hV _) (clArg hV _) | (refine pz_go ?_; cbv) | (refine pinL_go ?_; cbv))) <;> (first | exact clI hV _ | exact clPair hV _ | exact clArg hV _ | with_unfolding_all exact hV.rI _ | with_unfolding_all exact hV.rPair _ | with_unfolding_all exact hV.rArg _ | with_unfolding_all exact hV.nI [] | with_unfolding_all exact (hV.nI []).symm | with_unfolding_all exact hV.nPair [] | with_unfolding_all exact (hV.nPair []).symm | with_unfolding_all exact hV.nArg [] | with_unfolding_all exact (hV.nArg []).symm | assumption | omega | rfl | with_unfolding_all exact (hV.nI _).trans (Eq.trans (by simp only [hV.nI] at *; omega) (hV.nI _).symm) | with_unfolding_all exact (hV.nPair _).trans (Eq.trans (by simp only [hV.nPair] at *; omega) (hV.nPair _).symm) | with_unfolding_all exact (hV.nArg _).trans (Eq.trans (by simp only [hV.nArg] at *; omega) (hV.nArg _).symm) | simp [closedCell])) | fail) : PinnedZ e ns ps os := ⟨hs, ho⟩
section
variable {G : Glob} (hm : pg.follows .mixedOrders = true) (hz : ∀ T, ∀ c ∈ (ttOf pg T).zero, Bd c) (hG : GF G)
include hm hz hG
set_option maxHeartbeats 8000000 in
theorem spec_callOf.w {a1 : List Int} {a2 : List Pair} (inv0 : (Int × (List Arg)) → Prop) (mu0 : (Int × (List Arg)) → Nat) (res0 : (Int × (List Arg)) → Cal) (inv1 : (Int × (List Arg)) → Prop) (mu1 : (Int × (List Arg)) → Nat) (res1 : (Int × (List Arg)) → Cal) (hb0 : ∀ (s_ : Int × (List Arg)), inv0  s_ → spec_callOf.b0 a1 a2  (LI (inv0 ) (mu0 ) (res0 ) (mu0  s_)) (EI (inv1 ) (mu1 ) (res1 )) (res0  s_) s_.1 s_.2 = some (res0  s_)) (hb1 : ∀ (s_ : Int × (List Arg)), inv1  s_ → spec_callOf.b1 a1 a2  (LI (inv1 ) (mu1 ) (res1 ) (mu1  s_)) (res1  s_) s_.1 s_.2 = some (res1  s_)) {r : Cal} (H : spec_callOf.f a1 a2 (EI (inv0 ) (mu0 ) (res0 )) r = some r) : FnOK pg G 85 [.agg [.sl (a1.map eI), .sl (a2.map ePair)]] [] (.agg [.sl ((r.args).map eArg)]) [] true := by
  obtain ⟨V, hV⟩ := exV
  have e0_I : V.rI [] = [] := hV.rI []
  have e1_I : ∀ x r, V.rI (x :: r) = eI x :: V.rI r := fun x r => by rw [hV.rI, hV.rI]; rfl
  have e0_Pair : V.rPair [] = [] := hV.rPair []
  have e1_Pair : ∀ x r, V.rPair (x :: r) = ePair x :: V.rPair r := fun x r => by rw [hV.rPair, hV.rPair]; rfl
  have e0_Arg : V.rArg [] = [] := hV.rArg []
  simp only [← hV.rI, ← hV.rPair, ← hV.rArg]
  refine fn_okS (tt0 := tyG [ty3, ty4, ty9, ty22, ty24, ty36, ty37, ty39, ty74, ty80]) (fn := Tryz.f85) (body := bodyOf Tryz.f85) (ext := []) hm (tyG_sub ⟨tt3, tt4, tt9, tt22, tt24, tt36, tt37, tt39, tt74, tt80, trivial⟩) hz 0 [4, 8] (by unfold pg; exact Tryz.func85) rfl rfl (by simp [Tryz.f85]) (by simp [EObj.toObj]) (by cbv) ?_
  intro A F hA hF
  unfold spec_callOf.f at H
  cbv
  repeat' (first
    | (with_reducible refine s_gd H (fun hg H => ?_))
    | (cases H; (try simp only [e0_I, e0_Pair, e0_Arg, e1_I, eI, e1_Pair, ePair] at hF); with_reducible refine fin_close hF rfl (by simp [expIds, posCells, C.cells, idOf]) ?_; cbv)
    | (with_reducible refine s_lt H (fun H => ?_) (fun H => ?_) <;> cbv)
    | (with_reducible refine s_le H (fun H => ?_) (fun H => ?_) <;> cbv)
    | (with_reducible refine s_eq H (fun H => ?_) (fun H => ?_) <;> cbv)
    | (with_reducible refine s_ne H (fun H => ?_) (fun H => ?_) <;> cbv)
    | (with_reducible refine s_ln H lnOf (fun _ H => ?_); cbv)
    | (with_reducible refine s_ixI hV H (fun _ H => ?_); cbv)
    | (with_reducible refine s_ixPair hV H (fun _ _ H => ?_); cbv)
    | (with_reducible refine s_ar H (fun _ H => ?_); cbv)
    | (with_reducible refine s_apI hV H (fun _ H => ?_); cbv)
    | (with_reducible refine s_apL hV.rI hV.nI H (fun _ H => ?_); cbv)
    | (with_reducible refine s_apPair hV H (fun _ H => ?_); cbv)
    | (with_reducible refine s_apL hV.rPair hV.nPair H (fun _ H => ?_); cbv)
    | (with_reducible refine s_apArg hV H (fun _ H => ?_); cbv)
    | (with_reducible refine s_apL hV.rArg hV.nArg H (fun _ H => ?_); cbv)
    | (with_reducible refine s_apZArg hV H (fun _ _ H hk_ zs_ hd_ => ?_); cbv)
    | (with_reducible refine s_bnZArg hV H (fun _ _ H hk_ zs_ hd_ => ?_); cbv)
    | (with_reducible refine s_a0ZArg hV H (fun _ _ H hk_ zs_ hd_ => ?_); cbv)
    | (with_reducible refine s_lv H (fun _ H => ?_); cbv)
    | (with_reducible refine s_loop hA H (fun s h => hb0  s h) [1, 2, 3] [64, 128] (fun e s => [(4, .int .i64 (s.1))]) (fun e s => [ovO e 192 [(0, .ref 384 0 4 0 (V.nArg (s.2)))], (384, ⟨0, true, 4, .many (V.rArg (s.2))⟩)]) [] pin_spec_callOf nbOf ?_; rintro ⟨x33, x34⟩ H; unfold spec_callOf.b0 at H; (try dsimp only at H); cbv)
    | (with_reducible refine s_loop hA H (fun s h => hb1  s h) [1, 2, 3] [64, 128] (fun e s => [(5, .int .i64 (s.1))]) (fun e s => [ovO e 192 [(0, .ref 384 0 4 0 (V.nArg (s.2)))], (384, ⟨0, true, 4, .many (V.rArg (s.2))⟩)]) [] pin_spec_callOf nbOf ?_; rintro ⟨x105, x106⟩ H; unfold spec_callOf.b1 at H; (try dsimp only at H); cbv)
    | (with_reducible refine s_next H pin_spec_callOf nbOf)
    | (with_reducible refine s_joint 0 hA H [1, 2, 3, 4] [64, 128] (fun e s => []) (fun e s => [ovO e 192 [(0, .ref 384 0 4 0 (V.nArg s))], (384, ⟨0, true, 4, .many (V.rArg s)⟩)]) (fun J0 H => ?_) ?_; rotate_left; (rintro x47 H; (try dsimp only at H); cbv); rotate_left; cbv)
    | (with_reducible refine s_meet H [] pin_spec_callOf nbOf)
    | (with_reducible refine s_joint 1 hA H [1, 2, 3, 5] [64, 128] (fun e s => []) (fun e s => [ovO e 192 [(0, .ref 384 0 4 0 (V.nArg s))], (384, ⟨0, true, 4, .many (V.rArg s)⟩)]) (fun J1 H => ?_) ?_; rotate_left; (rintro x131 H; (try dsimp only at H); cbv); rotate_left; cbv)
    | (with_reducible refine s_meet H [] pin_spec_callOf nbOf)
    | (with_reducible refine indep_of hA ?_; cbv)
    | ((with_reducible refine side ?_); exact sideOf)
    | (with_reducible refine s_tkG hV.rI hV.nI ?_; cbv)
    | (with_reducible refine s_tkG hV.rPair hV.nPair ?_; cbv)
    | (with_reducible refine s_tkG hV.rArg hV.nArg ?_; cbv)
    | (with_reducible refine s_tk1 ?_; cbv)
    | (with_reducible refine And.intro ?_ ?_)
    | (intro ys hys; subst hys; rfl)
    | rfl)
end
section
variable {G : Glob} (hm : pg.follows .mixedOrders = true) (hz : ∀ T, ∀ c ∈ (ttOf pg T).zero, Bd c) (hG : GF G)
include hm hz hG
theorem spec_callOf.ok {a1 : List Int} {a2 : List Pair} (hp : a1.length ≤ 1000 ∧ a2.length ≤ 1000) : FnOK pg G 85 [.agg [.sl (a1.map eI), .sl (a2.map ePair)]] [] (.agg [.sl (((callOfV ⟨a1, a2⟩).args).map eArg)]) [] true := by
  obtain ⟨hp1, hp2⟩ := hp
  refine @spec_callOf.w G hm hz hG a1 a2 (fun s => 0 ≤ s.1 ∧ s.1 ≤ a1.length ∧ s.2 = (a1.take s.1.toNat).map plArg) (fun s => a1.length - s.1.toNat) (fun _ => callOfV ⟨a1, a2⟩)
    (fun s => 0 ≤ s.1 ∧ s.1 ≤ a2.length ∧ s.2 = a1.map plArg ++ (a2.take s.1.toNat).map nmArg) (fun s => a2.length - s.1.toNat) (fun _ => callOfV ⟨a1, a2⟩) ?_ ?_ _ ?_
  · rintro ⟨i, acc⟩ ⟨h0, h1, hI⟩
    simp only at h0 h1 hI
    subst hI
    simp only [spec_callOf.b0, lj, lv]
    refine ln_ok fun hB => ite_ok (fun h => ?_) (fun h => ?_)
    · have hk : i.toNat < a1.length := by omega
      have hx := List.getElem?_eq_getElem hk
      have hc := @map_take_le _ _ plArg a1 i.toNat
      rw [ixI_ok h0 hx, gd_ok (by simp at hc ⊢; omega), arr_ok (by omega)]
      exact LI_ok ⟨⟨by omega, by omega, map_take_snoc (f := plArg) h0 hx⟩, by simp only; omega⟩
    · have : i = a1.length := by omega
      exact EI_ok ⟨Int.le_refl 0, by omega, by simp only; rw [take_len this]; simp⟩
  · rintro ⟨i, acc⟩ ⟨h0, h1, hI⟩
    simp only at h0 h1 hI
    subst hI
    simp only [spec_callOf.b1, lj, lv]
    refine ln_ok fun hB => ite_ok (fun h => ?_) (fun h => ?_)
    · have hk : i.toNat < a2.length := by omega
      have hx := List.getElem?_eq_getElem hk
      have hc := @map_take_le _ _ nmArg a2 i.toNat
      have hs := map_take_snoc (f := nmArg) h0 hx
      rw [ixPair_ok h0 hx, ixPair_ok h0 hx, gd_ok (by simp at hc ⊢; omega), arr_ok (by omega)]
      refine LI_ok ⟨⟨by omega, by omega, ?_⟩, by simp only; omega⟩
      show _ ++ [nmArg _] = _
      rw [List.append_assoc, hs]
    · have : i = a2.length := by omega
      rw [take_len this]; rfl
  · simp only [spec_callOf.f]
    rw [EI_ok ⟨Int.le_refl 0, by omega, rfl⟩]
end
def on_Cal {R : Type} (v : Cal) (f : (List Arg) → Option R) : Option R := f (v.args)
section
variable {A : Bx} {P : Program} {G : Glob} {rg : Option Nat} {own : Nat} {o : Nat → EObj} {g : FuncId} {vs : List C} {sh : Bool} {K : C → List (Nat × EObj) → Prop} {R : Type} {r : R} {V : Vx} {v : Cal} {f : (List Arg) → Option R}
theorem s_cCal (hV : IsV V) (hA : IsBx true rg P G A) (H : on_Cal v f = some r) (hok : FnOK P G g vs [] (.agg [.sl ((v.args).map eArg)]) [] sh) (hc : vs.all closedArg = true) (h : ∀ c0, f c0 = some r → K (.agg [.sl (V.rArg c0)]) []) : A.call own o g vs K := by
  refine callT_plain hA hok hc ?_
  have := h (v.args) H
  simp only [hV.rArg] at this
  exact this
variable {U : List C → List Nat → (C → List (Nat × EObj) → Prop) → Prop} {bs : List C} {tops : List Nat}
end
noncomputable def spec_CallOf.f (a1 : List Int) (a2 : List Pair)  (z_ : Cal) : Option (Cal) := (cn (validFlat (⟨a1, a2⟩)) (gd (a1.length ≤ 1000 ∧ a2.length ≤ 1000) (on_Cal (callOfV (⟨a1, a2⟩)) fun v4 => (some ⟨v4⟩))) (some ⟨[]⟩))
section
variable {G : Glob} (hm : pg.follows .mixedOrders = true) (hz : ∀ T, ∀ c ∈ (ttOf pg T).zero, Bd c) (hG : GF G)
include hm hz hG
theorem spec_CallOf.w {a1 : List Int} {a2 : List Pair}  {r : Cal} (H : spec_CallOf.f a1 a2  r = some r) : FnOK pg G 28 [.agg [.sl (a1.map eI), .sl (a2.map ePair)]] [] (.agg [.sl ((r.args).map eArg)]) [] true := by
  obtain ⟨V, hV⟩ := exV
  have e0_I : V.rI [] = [] := hV.rI []
  have e1_I : ∀ x r, V.rI (x :: r) = eI x :: V.rI r := fun x r => by rw [hV.rI, hV.rI]; rfl
  have e0_Pair : V.rPair [] = [] := hV.rPair []
  have e1_Pair : ∀ x r, V.rPair (x :: r) = ePair x :: V.rPair r := fun x r => by rw [hV.rPair, hV.rPair]; rfl
  have e0_Arg : V.rArg [] = [] := hV.rArg []
  simp only [← hV.rI, ← hV.rPair, ← hV.rArg]
  refine fn_okS (tt0 := tyG [ty3, ty4, ty9, ty22, ty24, ty36, ty37, ty39, ty74, ty80]) (fn := Tryz.f28) (body := bodyOf Tryz.f28) (ext := []) hm (tyG_sub ⟨tt3, tt4, tt9, tt22, tt24, tt36, tt37, tt39, tt74, tt80, trivial⟩) hz 0 [] (by unfold pg; exact Tryz.func28) rfl rfl (by simp [Tryz.f28]) (by simp [EObj.toObj]) (by cbv) ?_
  intro A F hA hF
  unfold spec_CallOf.f at H
  cbv
  repeat' (first
    | (with_reducible refine s_gd H (fun hg H => ?_))
    | (cases H; (try simp only [e0_I, e0_Pair, e0_Arg, e1_I, eI, e1_Pair, ePair] at hF); with_reducible refine fin_close hF rfl (by simp [expIds, posCells, C.cells, idOf]) ?_; cbv)
    | (with_reducible refine s_lv H (fun _ H => ?_); cbv)
    | (with_reducible refine s_cb hA H (by (try simp only [hV.rI, hV.rPair, hV.rArg]); with_unfolding_all exact spec_validFlat.ok hm hz hG) rfl (fun H => ?_) (fun H => ?_) <;> cbv)
    | (with_reducible refine s_cCal hV hA H (by (try simp only [hV.rI, hV.rPair, hV.rArg]); (first | (have hk_ := spec_callOf.ok hm hz hG hg; with_unfolding_all exact hk_) | (with_unfolding_all exact spec_callOf.ok hm hz hG (by first | assumption | omega)))) rfl (fun _ H => ?_); cbv)
    | (with_reducible refine indep_of hA ?_; cbv)
    | ((with_reducible refine side ?_); exact sideOf)
    | (with_reducible refine s_tkG hV.rI hV.nI ?_; cbv)
    | (with_reducible refine s_tkG hV.rPair hV.nPair ?_; cbv)
    | (with_reducible refine s_tkG hV.rArg hV.nArg ?_; cbv)
    | (with_reducible refine s_tk1 ?_; cbv)
    | (with_reducible refine And.intro ?_ ?_)
    | ((with_reducible refine s_cn H (fun hb H => ?_) (fun hb H => ?_)) <;> (revert H; subst hb; intro H; cbv))
    | (intro ys hys; subst hys; rfl)
    | rfl)
end
section
variable {G : Glob} (hm : pg.follows .mixedOrders = true) (hz : ∀ T, ∀ c ∈ (ttOf pg T).zero, Bd c) (hG : GF G)
include hm hz hG
theorem spec_CallOf.ok {a1 : List Int} {a2 : List Pair}  : FnOK pg G 28 [.agg [.sl (a1.map eI), .sl (a2.map ePair)]] [] (.agg [.sl (((CallOfV ⟨a1, a2⟩).args).map eArg)]) [] true := by
  refine spec_CallOf.w hm hz hG ?_
  simp only [spec_CallOf.f, cn_ite, on_Cal, CallOfV]
  refine ite_ok (fun h => ?_) (fun h => ?_)
  · obtain ⟨h1, h2, _⟩ := validFlat_len h
    simp only at h1 h2
    rw [if_pos h, gd_ok (by omega)]
  · rw [if_neg h]
end
noncomputable def impl_CallOf.b1 (a1 : List Int) (a2 : List Pair) (v86 : Int) (h1 : (Int × (List Arg)) → Option (Cal)) (z_ : Cal) (x99 : Int) (x100 : List Arg) : Option (Cal) := (if x99 < v86 then (lj 1 (fun J1 => (ixPair a2 x99 fun v126 v127 => (gd ((x100.length + 1) * 72 ≤ 140737488355328) (lv (x100 ++ [⟨2, v126, [v127], []⟩]) fun v128 => (J1 v128))))) (fun x123 => (arr .i64 (x99 + 1) fun v129 => (h1 (v129, x123))))) else (on_LArg ((fun (l : List Arg) => l) x100) fun v131 => (some ⟨v131⟩)))
noncomputable def impl_CallOf.b0 (a1 : List Int) (a2 : List Pair) (v24 : Int) (h0 : ((List Arg) × Int) → Option (Cal)) (h1 : Int → (Int × (List Arg)) → Option (Cal)) (z_ : Cal) (x31 : List Arg) (x32 : Int) : Option (Cal) := (if x32 < v24 then (lj 0 (fun J0 => (ixI a1 x32 fun v44 => (gd ((x31.length + 1) * 72 ≤ 140737488355328) (lv (x31 ++ [⟨0, ([] : Str), [v44], []⟩]) fun v45 => (J0 v45))))) (fun x43 => (arr .i64 (x32 + 1) fun v46 => (h0 (x43, v46))))) else (ln' z_ (a2.length) fun v86 => (h1 v86 (0, x31))))
noncomputable def impl_CallOf.f (a1 : List Int) (a2 : List Pair) (h0 : Int → ((List Arg) × Int) → Option (Cal)) (z_ : Cal) : Option (Cal) := (cn (validFlat (⟨a1, a2⟩)) (ln' z_ (a1.length) fun v24 => (h0 v24 ([], 0))) (some ⟨[]⟩))
section
variable {G : Glob} (hm : pg.follows .mixedOrders = true) (hz : ∀ T, ∀ c ∈ (ttOf pg T).zero, Bd c) (hG : GF G)
include hm hz hG
set_option maxHeartbeats 8000000 in
theorem impl_CallOf.w {a1 : List Int} {a2 : List Pair} (inv0 : Int → ((List Arg) × Int) → Prop) (mu0 : Int → ((List Arg) × Int) → Nat) (res0 : Int → ((List Arg) × Int) → Cal) (inv1 : Int → (Int × (List Arg)) → Prop) (mu1 : Int → (Int × (List Arg)) → Nat) (res1 : Int → (Int × (List Arg)) → Cal) (hb0 : ∀ (v24 : Int), ∀ (s_ : (List Arg) × Int), inv0 v24 s_ → impl_CallOf.b0 a1 a2 v24 (LI (inv0 v24) (mu0 v24) (res0 v24) (mu0 v24 s_)) (fun v86 => EI (inv1 v86) (mu1 v86) (res1 v86)) (res0 v24 s_) s_.1 s_.2 = some (res0 v24 s_)) (hb1 : ∀ (v86 : Int), ∀ (s_ : Int × (List Arg)), inv1 v86 s_ → impl_CallOf.b1 a1 a2 v86 (LI (inv1 v86) (mu1 v86) (res1 v86) (mu1 v86 s_)) (res1 v86 s_) s_.1 s_.2 = some (res1 v86 s_)) {r : Cal} (H : impl_CallOf.f a1 a2 (fun v24 => EI (inv0 v24) (mu0 v24) (res0 v24)) r = some r) : FnOK pg G 27 [.agg [.sl (a1.map eI), .sl (a2.map ePair)]] [] (.agg [.sl ((r.args).map eArg)]) [] true := by
  obtain ⟨V, hV⟩ := exV
  have e0_I : V.rI [] = [] := hV.rI []
  have e1_I : ∀ x r, V.rI (x :: r) = eI x :: V.rI r := fun x r => by rw [hV.rI, hV.rI]; rfl
  have e0_Pair : V.rPair [] = [] := hV.rPair []
  have e1_Pair : ∀ x r, V.rPair (x :: r) = ePair x :: V.rPair r := fun x r => by rw [hV.rPair, hV.rPair]; rfl
  have e0_Arg : V.rArg [] = [] := hV.rArg []
  simp only [← hV.rI, ← hV.rPair, ← hV.rArg]
  refine fn_okS (tt0 := tyG [ty3, ty4, ty9, ty22, ty24, ty36, ty37, ty39, ty74, ty80]) (fn := Tryz.f27) (body := bodyOf Tryz.f27) (ext := []) hm (tyG_sub ⟨tt3, tt4, tt9, tt22, tt24, tt36, tt37, tt39, tt74, tt80, trivial⟩) hz 0 [8, 13] (by unfold pg; exact Tryz.func27) rfl rfl (by simp [Tryz.f27]) (by simp [EObj.toObj]) (by cbv) ?_
  intro A F hA hF
  unfold impl_CallOf.f at H
  cbv
  repeat' (first
    | (with_reducible refine s_gd H (fun hg H => ?_))
    | (cases H; (try simp only [e0_I, e0_Pair, e0_Arg, e1_I, eI, e1_Pair, ePair] at hF); with_reducible refine fin_close hF rfl (by simp [expIds, posCells, C.cells, idOf]) ?_; cbv)
    | (with_reducible refine s_lt H (fun H => ?_) (fun H => ?_) <;> cbv)
    | (with_reducible refine s_le H (fun H => ?_) (fun H => ?_) <;> cbv)
    | (with_reducible refine s_eq H (fun H => ?_) (fun H => ?_) <;> cbv)
    | (with_reducible refine s_ne H (fun H => ?_) (fun H => ?_) <;> cbv)
    | (with_reducible refine s_ln H lnOf (fun _ H => ?_); cbv)
    | (with_reducible refine s_ixI hV H (fun _ H => ?_); cbv)
    | (with_reducible refine s_ixPair hV H (fun _ _ H => ?_); cbv)
    | (with_reducible refine s_ar H (fun _ H => ?_); cbv)
    | (with_reducible refine s_apI hV H (fun _ H => ?_); cbv)
    | (with_reducible refine s_apL hV.rI hV.nI H (fun _ H => ?_); cbv)
    | (with_reducible refine s_apPair hV H (fun _ H => ?_); cbv)
    | (with_reducible refine s_apL hV.rPair hV.nPair H (fun _ H => ?_); cbv)
    | (with_reducible refine s_apArg hV H (fun _ H => ?_); cbv)
    | (with_reducible refine s_apL hV.rArg hV.nArg H (fun _ H => ?_); cbv)
    | (with_reducible refine s_apZArg hV H (fun _ _ H hk_ zs_ hd_ => ?_); cbv)
    | (with_reducible refine s_bnZArg hV H (fun _ _ H hk_ zs_ hd_ => ?_); cbv)
    | (with_reducible refine s_a0ZArg hV H (fun _ _ H hk_ zs_ hd_ => ?_); cbv)
    | (with_reducible refine s_lv H (fun _ H => ?_); cbv)
    | (with_reducible refine s_loop hA H (fun s h => hb0 _ s h) [1, 2, 13, 14] [64, 128] (fun e s => [(3, .ref 1536 0 4 0 (V.nArg (s.1))), (15, .int .i64 (s.2))]) (fun e s => [(1536, ⟨0, true, 4, .many (V.rArg (s.1))⟩)]) [(1536, 4)] pin_spec_callOf nbOf ?_; rintro ⟨x31, x32⟩ H; unfold impl_CallOf.b0 at H; (try dsimp only at H); cbv)
    | (with_reducible refine s_loop hA H (fun s h => hb1 _ s h) [2, 27, 28] [128] (fun e s => [(3, .ref 1536 0 4 0 (V.nArg (s.2))), (29, .int .i64 (s.1))]) (fun e s => [(1536, ⟨0, true, 4, .many (V.rArg (s.2))⟩)]) [] pin_spec_callOf nbOf ?_; rintro ⟨x99, x100⟩ H; unfold impl_CallOf.b1 at H; (try dsimp only at H); cbv)
    | (with_reducible refine s_next H pin_spec_callOf nbOf)
    | (with_reducible refine s_joint 0 hA H [1, 2, 13, 14, 15] [64, 128] (fun e s => [(3, .ref 1536 0 4 0 (V.nArg s))]) (fun e s => [(1536, ⟨0, true, 4, .many (V.rArg s)⟩)]) (fun J0 H => ?_) ?_; rotate_left; (rintro x43 H; (try dsimp only at H); cbv); rotate_left; cbv)
    | (with_reducible refine s_meet H [] pin_spec_callOf nbOf)
    | (with_reducible refine s_joint 1 hA H [2, 27, 28, 29] [128] (fun e s => [(3, .ref 1536 0 4 0 (V.nArg s))]) (fun e s => [(1536, ⟨0, true, 4, .many (V.rArg s)⟩)]) (fun J1 H => ?_) ?_; rotate_left; (rintro x123 H; (try dsimp only at H); cbv); rotate_left; cbv)
    | (with_reducible refine s_meet H [] pin_spec_callOf nbOf)
    | (with_reducible refine s_cb hA H (by (try simp only [hV.rI, hV.rPair, hV.rArg]); with_unfolding_all exact impl_ValidFlat.ok hm hz hG) rfl (fun H => ?_) (fun H => ?_) <;> cbv)
    | (with_reducible refine s_cLArg hV hA H (by (try simp only [hV.rI, hV.rPair, hV.rArg]); with_unfolding_all exact slices_Clip_Arg.ok hm hz hG) rfl (fun _ H => ?_); cbv)
    | (with_reducible refine s_tLArg (by assumption) hV H (by (try simp only [hV.rI, hV.rPair, hV.rArg]); with_unfolding_all exact slices_Clip_Arg.ok hm hz hG) (by first | (cbv <;> (repeat' (first | trivial | refine And.intro ?_ ?_)) <;> (first | rfl | exact clI hV _ | with_unfolding_all exact clPair hV _ | with_unfolding_all exact clArg hV _ | simp [closedCell])) | fail) (fun _ H => ?_); cbv)
    | (with_reducible refine s_wLArg hA H rfl (fun U hU => ?_); cbv)
    | (with_reducible refine indep_of hA ?_; cbv)
    | ((with_reducible refine side ?_); exact sideOf)
    | (with_reducible refine s_tkG hV.rI hV.nI ?_; cbv)
    | (with_reducible refine s_tkG hV.rPair hV.nPair ?_; cbv)
    | (with_reducible refine s_tkG hV.rArg hV.nArg ?_; cbv)
    | (with_reducible refine s_tk1 ?_; cbv)
    | (with_reducible refine And.intro ?_ ?_)
    | ((with_reducible refine s_cn H (fun hb H => ?_) (fun hb H => ?_)) <;> (revert H; subst hb; intro H; cbv))
    | (intro ys hys; subst hys; rfl)
    | rfl)
end
section
variable {G : Glob} (hm : pg.follows .mixedOrders = true) (hz : ∀ T, ∀ c ∈ (ttOf pg T).zero, Bd c) (hG : GF G)
include hm hz hG
theorem impl_CallOf.ok {a1 : List Int} {a2 : List Pair}  : FnOK pg G 27 [.agg [.sl (a1.map eI), .sl (a2.map ePair)]] [] (.agg [.sl (((CallOfV ⟨a1, a2⟩).args).map eArg)]) [] true := by
  refine @impl_CallOf.w G hm hz hG a1 a2 (fun v s => v = a1.length ∧ validFlat ⟨a1, a2⟩ = true ∧ 0 ≤ s.2 ∧ s.2 ≤ a1.length ∧ s.1 = (a1.take s.2.toNat).map plArg) (fun _ s => a1.length - s.2.toNat) (fun _ _ => CallOfV ⟨a1, a2⟩)
    (fun v s => v = a2.length ∧ validFlat ⟨a1, a2⟩ = true ∧ 0 ≤ s.1 ∧ s.1 ≤ a2.length ∧ s.2 = a1.map plArg ++ (a2.take s.1.toNat).map nmArg) (fun _ s => a2.length - s.1.toNat) (fun _ _ => CallOfV ⟨a1, a2⟩) ?_ ?_ _ ?_
  · rintro v ⟨acc, i⟩ ⟨rfl, hv, h0, h1, hI⟩
    simp only at h0 h1 hI
    subst hI
    have h8 := (validFlat_len hv).1
    simp only at h8
    simp only [impl_CallOf.b0, lj, lv]
    refine ite_ok (fun h => ?_) (fun h => ?_)
    · have hk : i.toNat < a1.length := by omega
      have hx := List.getElem?_eq_getElem hk
      have hc := @map_take_le _ _ plArg a1 i.toNat
      rw [ixI_ok h0 hx, gd_ok (by simp at hc ⊢; omega), arr_ok (by omega)]
      exact LI_ok ⟨⟨by first | trivial | rfl, hv, by omega, by omega, map_take_snoc (f := plArg) h0 hx⟩, by simp only; omega⟩
    · have : i = a1.length := by omega
      refine ln_ok fun hB => ?_
      exact EI_ok ⟨rfl, hv, Int.le_refl 0, by omega, by simp only; rw [take_len this]; simp⟩
  · rintro v ⟨i, acc⟩ ⟨rfl, hv, h0, h1, hI⟩
    simp only at h0 h1 hI
    subst hI
    have h8 := (validFlat_len hv).1
    have h9 := (validFlat_len hv).2.1
    simp only at h8 h9
    simp only [impl_CallOf.b1, lj, lv, on_LArg]
    refine ite_ok (fun h => ?_) (fun h => ?_)
    · have hk : i.toNat < a2.length := by omega
      have hx := List.getElem?_eq_getElem hk
      have hc := @map_take_le _ _ nmArg a2 i.toNat
      have hs := map_take_snoc (f := nmArg) h0 hx
      rw [ixPair_ok h0 hx, gd_ok (by simp at hc ⊢; omega), arr_ok (by omega)]
      refine LI_ok ⟨⟨by first | trivial | rfl, hv, by omega, by omega, ?_⟩, by simp only; omega⟩
      show _ ++ [nmArg _] = _
      rw [List.append_assoc, hs]
    · have : i = a2.length := by omega
      rw [take_len this, CallOfV, if_pos hv]; rfl
  · simp only [impl_CallOf.f, cn_ite]
    refine ite_ok (fun hv => ln_ok fun hB => ?_) (fun hv => ?_)
    · rw [EI_ok ⟨rfl, hv, Int.le_refl 0, by omega, rfl⟩]
    · rw [CallOfV, if_neg hv]
end
noncomputable def impl_StarCall.f (a1 : List Int) (a2 : List Pair)  (z_ : Cal) : Option (Cal) := (cn (validFlat (⟨a1, a2⟩)) (lj 0 (fun J0 => (ln' z_ (a1.length) fun v10 => (if 0 < v10 then (gd (a1.length * 8 ≤ 140737488355328) (on_LI ((fun (l : List Int) => l) a1) fun v11 => (gd (1 * 72 ≤ 140737488355328) (lv ([⟨1, ([] : Str), v11, []⟩] : List Arg) fun v12 => (J0 v12))))) else (J0 [])))) (fun x9 => (lj 1 (fun J1 => (ln' z_ (a2.length) fun v20 => (if 0 < v20 then (gd (a2.length * 24 ≤ 140737488355328) (on_LPair ((fun (l : List Pair) => l) a2) fun v21 => (gd ((x9.length + 1) * 72 ≤ 140737488355328) (lv (x9 ++ [⟨3, ([] : Str), [], v21⟩]) fun v22 => (J1 v22))))) else (J1 x9)))) (fun x19 => (on_LArg ((fun (l : List Arg) => l) x19) fun v24 => (some ⟨v24⟩)))))) (some ⟨[]⟩))
section
variable {G : Glob} (hm : pg.follows .mixedOrders = true) (hz : ∀ T, ∀ c ∈ (ttOf pg T).zero, Bd c) (hG : GF G)
include hm hz hG
set_option maxHeartbeats 8000000 in
theorem impl_StarCall.w {a1 : List Int} {a2 : List Pair}  {r : Cal} (H : impl_StarCall.f a1 a2  r = some r) : FnOK pg G 30 [.agg [.sl (a1.map eI), .sl (a2.map ePair)]] [] (.agg [.sl ((r.args).map eArg)]) [] true := by
  obtain ⟨V, hV⟩ := exV
  have e0_I : V.rI [] = [] := hV.rI []
  have e1_I : ∀ x r, V.rI (x :: r) = eI x :: V.rI r := fun x r => by rw [hV.rI, hV.rI]; rfl
  have e0_Pair : V.rPair [] = [] := hV.rPair []
  have e1_Pair : ∀ x r, V.rPair (x :: r) = ePair x :: V.rPair r := fun x r => by rw [hV.rPair, hV.rPair]; rfl
  have e0_Arg : V.rArg [] = [] := hV.rArg []
  simp only [← hV.rI, ← hV.rPair, ← hV.rArg]
  refine fn_okS (tt0 := tyG [ty3, ty4, ty9, ty22, ty24, ty36, ty37, ty39, ty74, ty80]) (fn := Tryz.f30) (body := bodyOf Tryz.f30) (ext := []) hm (tyG_sub ⟨tt3, tt4, tt9, tt22, tt24, tt36, tt37, tt39, tt74, tt80, trivial⟩) hz 0 [6, 8] (by unfold pg; exact Tryz.func30) rfl rfl (by simp [Tryz.f30]) (by simp [EObj.toObj]) (by cbv) ?_
  intro A F hA hF
  unfold impl_StarCall.f at H
  cbv
  repeat' (first
    | (with_reducible refine s_gd H (fun hg H => ?_))
    | (cases H; (try simp only [e0_I, e0_Pair, e0_Arg, e1_I, eI, e1_Pair, ePair] at hF); with_reducible refine fin_close hF rfl (by simp [expIds, posCells, C.cells, idOf]) ?_; cbv)
    | (with_reducible refine s_lt H (fun H => ?_) (fun H => ?_) <;> cbv)
    | (with_reducible refine s_le H (fun H => ?_) (fun H => ?_) <;> cbv)
    | (with_reducible refine s_eq H (fun H => ?_) (fun H => ?_) <;> cbv)
    | (with_reducible refine s_ne H (fun H => ?_) (fun H => ?_) <;> cbv)
    | (with_reducible refine s_ln H lnOf (fun _ H => ?_); cbv)
    | (with_reducible refine s_apI hV H (fun _ H => ?_); cbv)
    | (with_reducible refine s_apL hV.rI hV.nI H (fun _ H => ?_); cbv)
    | (with_reducible refine s_bnI hV H (fun _ H => ?_); cbv)
    | (with_reducible refine s_apPair hV H (fun _ H => ?_); cbv)
    | (with_reducible refine s_apL hV.rPair hV.nPair H (fun _ H => ?_); cbv)
    | (with_reducible refine s_bnPair hV H (fun _ H => ?_); cbv)
    | (with_reducible refine s_apArg hV H (fun _ H => ?_); cbv)
    | (with_reducible refine s_apL hV.rArg hV.nArg H (fun _ H => ?_); cbv)
    | (with_reducible refine s_apZArg hV H (fun _ _ H hk_ zs_ hd_ => ?_); cbv)
    | (with_reducible refine s_bnZArg hV H (fun _ _ H hk_ zs_ hd_ => ?_); cbv)
    | (with_reducible refine s_a0ZArg hV H (fun _ _ H hk_ zs_ hd_ => ?_); cbv)
    | (with_reducible refine s_bnArg hV H (fun _ H => ?_); cbv)
    | (with_reducible refine s_lv H (fun _ H => ?_); cbv)
    | (with_reducible refine s_joint 0 hA H [1, 2] [64, 128] (fun e s => [(3, .ref 1152 0 4 0 (V.nArg s))]) (fun e s => [(1152, ⟨0, true, 4, .many (V.rArg s)⟩)]) (fun J0 H => ?_) ?_; rotate_left; (rintro x9 H; (try dsimp only at H); cbv); rotate_left; cbv)
    | (with_reducible refine s_meet H [] pin_spec_callOf nbOf)
    | (with_reducible refine s_meet H [(1152, 4)] pin_spec_callOf nbOf)
    | (with_reducible refine s_joint 1 hA H [2] [128] (fun e s => [(3, .ref 1152 0 4 0 (V.nArg s))]) (fun e s => [(1152, ⟨0, true, 4, .many (V.rArg s)⟩)]) (fun J1 H => ?_) ?_; rotate_left; (rintro x19 H; (try dsimp only at H); cbv); rotate_left; cbv)
    | (with_reducible refine s_meet H [] pin_spec_callOf nbOf)
    | (with_reducible refine s_cb hA H (by (try simp only [hV.rI, hV.rPair, hV.rArg]); with_unfolding_all exact impl_ValidFlat.ok hm hz hG) rfl (fun H => ?_) (fun H => ?_) <;> cbv)
    | (with_reducible refine s_cLI hV hA H (by (try simp only [hV.rI, hV.rPair, hV.rArg]); (first | (have hk_ := impl_clone_int.ok hm hz hG hg; with_unfolding_all exact hk_) | (with_unfolding_all exact impl_clone_int.ok hm hz hG (by first | assumption | omega)))) rfl (fun _ H => ?_); cbv)
    | (with_reducible refine s_cLPair hV hA H (by (try simp only [hV.rI, hV.rPair, hV.rArg]); (first | (have hk_ := impl_clone_Pair.ok hm hz hG hg; with_unfolding_all exact hk_) | (with_unfolding_all exact impl_clone_Pair.ok hm hz hG (by first | assumption | omega)))) rfl (fun _ H => ?_); cbv)
    | (with_reducible refine s_cLArg hV hA H (by (try simp only [hV.rI, hV.rPair, hV.rArg]); with_unfolding_all exact slices_Clip_Arg.ok hm hz hG) rfl (fun _ H => ?_); cbv)
    | (with_reducible refine s_tLArg (by assumption) hV H (by (try simp only [hV.rI, hV.rPair, hV.rArg]); with_unfolding_all exact slices_Clip_Arg.ok hm hz hG) (by first | (cbv <;> (repeat' (first | trivial | refine And.intro ?_ ?_)) <;> (first | rfl | exact clI hV _ | with_unfolding_all exact clPair hV _ | with_unfolding_all exact clArg hV _ | simp [closedCell])) | fail) (fun _ H => ?_); cbv)
    | (with_reducible refine s_wLArg hA H rfl (fun U hU => ?_); cbv)
    | (with_reducible refine indep_of hA ?_; cbv)
    | ((with_reducible refine side ?_); exact sideOf)
    | (with_reducible refine s_tkG hV.rI hV.nI ?_; cbv)
    | (with_reducible refine s_tkG hV.rPair hV.nPair ?_; cbv)
    | (with_reducible refine s_tkG hV.rArg hV.nArg ?_; cbv)
    | (with_reducible refine s_tk1 ?_; cbv)
    | (with_reducible refine And.intro ?_ ?_)
    | ((with_reducible refine s_cn H (fun hb H => ?_) (fun hb H => ?_)) <;> (revert H; subst hb; intro H; cbv))
    | (intro ys hys; subst hys; rfl)
    | rfl)
end
section
variable {G : Glob} (hm : pg.follows .mixedOrders = true) (hz : ∀ T, ∀ c ∈ (ttOf pg T).zero, Bd c) (hG : GF G)
include hm hz hG
theorem impl_StarCall.ok {a1 : List Int} {a2 : List Pair}  : FnOK pg G 30 [.agg [.sl (a1.map eI), .sl (a2.map ePair)]] [] (.agg [.sl (((StarCallV ⟨a1, a2⟩).args).map eArg)]) [] true := by
  refine impl_StarCall.w hm hz hG ?_
  simp only [impl_StarCall.f, cn_ite, lj, lv, on_LI, on_LPair, on_LArg, StarCallV]
  refine ite_ok (fun hv => ?_) (fun hv => ?_)
  · obtain ⟨h8, h9, _⟩ := validFlat_len hv
    simp only at h8 h9
    rw [if_pos hv]
    refine ln_ok fun hB => ?_
    by_cases h1 : a1 = []
    · subst h1
      simp only [List.length_nil, if_true, List.nil_append]
      rw [if_neg (by decide)]
      refine ln_ok fun hB2 => ?_
      by_cases h2 : a2 = []
      · subst h2; rfl
      · rw [if_pos (by have := List.length_pos_iff.2 h2; omega), gd_ok (by omega), gd_ok (by omega), if_neg h2]
    · rw [if_pos (by have := List.length_pos_iff.2 h1; omega), gd_ok (by omega), gd_ok (by omega)]
      simp only [if_neg h1]
      refine ln_ok fun hB2 => ?_
      by_cases h2 : a2 = []
      · subst h2; rfl
      · rw [if_pos (by have := List.length_pos_iff.2 h2; omega), gd_ok (by omega), gd_ok (by simp), if_neg h2]
  · rw [if_neg hv]
end
def plOf (a : Arg) : List Int := if a.kind = 0 ∨ a.kind = 1 then a.list else []
def nmOf (a : Arg) : List Pair := if a.kind = 2 then [⟨a.name, a.list.headD 0⟩] else if a.kind = 3 then a.pairs else []
def flatOfC (c : Cal) : Flat := ⟨c.args.flatMap plOf, c.args.flatMap nmOf⟩
def FlattenV (c : Cal) : Flat × Bool := if validCall c = true then (if validFlat (flatOfC c) = true then (flatOfC c, true) else (⟨[], []⟩, false)) else (⟨[], []⟩, false)
theorem flatMap_snoc {α β : Type} {f : α → List β} {l : List α} {i : Int} {x : α} (h0 : 0 ≤ i) (h : l[i.toNat]? = some x) : (l.take i.toNat).flatMap f ++ f x = (l.take (i + 1).toNat).flatMap f := by
  rw [show (i + 1).toNat = i.toNat + 1 by omega, take_snoc h, List.flatMap_append]; simp
theorem flatMap_le {α β : Type} {f : α → List β} {n : Nat} : ∀ {l : List α}, (∀ x ∈ l, (f x).length ≤ n) → (l.flatMap f).length ≤ l.length * n
  | [], _ => by simp
  | a :: r, h => by
    have h1 := h a (by simp)
    have h2 := flatMap_le (l := r) fun x hx => h x (by simp [hx])
    simp only [List.flatMap_cons, List.length_append, List.length_cons, Nat.succ_mul]; omega
theorem plOf_len {a : Arg} (h : validArg a = true) : (plOf a).length ≤ 8 := by
  unfold plOf
  rcases valid_kind h with k | k | k | k
  · rw [if_pos (.inl k), (validArg_0 h k).2.1]; omega
  · rw [if_pos (.inr k)]; exact (validArg_1 h k).2.1
  · rw [if_neg (by rw [k]; decide)]; simp
  · rw [if_neg (by rw [k]; decide)]; simp
theorem nmOf_len {a : Arg} (h : validArg a = true) : (nmOf a).length ≤ 8 := by
  unfold nmOf
  rcases valid_kind h with k | k | k | k
  · rw [if_neg (by rw [k]; decide), if_neg (by rw [k]; decide)]; simp
  · rw [if_neg (by rw [k]; decide), if_neg (by rw [k]; decide)]; simp
  · rw [if_pos k]; simp
  · rw [if_neg (by rw [k]; decide), if_pos k]; exact (validArg_3 h k).2.2.1
def on_Flat {R : Type} (v : Flat) (f : (List Int) → (List Pair) → Option R) : Option R := f (v.places) (v.names)
section
variable {A : Bx} {P : Program} {G : Glob} {rg : Option Nat} {own : Nat} {o : Nat → EObj} {g : FuncId} {vs : List C} {sh : Bool} {K : C → List (Nat × EObj) → Prop} {R : Type} {r : R} {V : Vx} {v : Flat} {f : (List Int) → (List Pair) → Option R}
theorem s_cFlat (hV : IsV V) (hA : IsBx true rg P G A) (H : on_Flat v f = some r) (hok : FnOK P G g vs [] (.agg [.sl ((v.places).map eI), .sl ((v.names).map ePair)]) [] sh) (hc : vs.all closedArg = true) (h : ∀ c0 c1, f c0 c1 = some r → K (.agg [.sl (V.rI c0), .sl (V.rPair c1)]) []) : A.call own o g vs K := by
  refine callT_plain hA hok hc ?_
  have := h (v.places) (v.names) H
  simp only [hV.rI, hV.rPair] at this
  exact this
theorem s_wFlat (hA : IsBx true rg P G A) (H : on_Flat v f = some r) (hids : callIds vs = []) (h : ∀ U, U = callS P G own o g → closeVs o [] vs fun bs => U bs (vs.flatMap topRefs) K) : A.call own o g vs K := callT_sh hA hids h
variable {U : List C → List Nat → (C → List (Nat × EObj) → Prop) → Prop} {bs : List C} {tops : List Nat}
theorem s_tFlat (hU : U = callS P G own o g) (hV : IsV V) (H : on_Flat v f = some r) (hok : FnOK P G g bs [] (.agg [.sl ((v.places).map eI), .sl ((v.names).map ePair)]) [] true) (hfr : topsF o [] tops) (h : ∀ c0 c1, f c0 c1 = some r → K (.agg [.sl (V.rI c0), .sl (V.rPair c1)]) (freezeE o tops ++ [])) : U bs tops K := by
  refine callS_of hU hok (fun i hi => (topsF_sound hfr i hi).2) ?_
  have := h (v.places) (v.names) H
  simp only [hV.rI, hV.rPair] at this
  exact this
end
noncomputable def impl_FlattenCall.b0 (a1 : List Arg) (v99 : Int) (h0 : (Int × (List Int) × (List Pair)) → Option (Flat × Bool)) (z_ : Flat × Bool) (x131 : Int) (x132 : List Int) (x133 : List Pair) : Option (Flat × Bool) := (if x131 < v99 then (ixArg a1 x131 fun v182 v183 v184 v185 => (if v182 = 0 then (gd ((x132.length + v184.length) * 8 ≤ 140737488355328) (lv (x132 ++ v184) fun v186 => (arr .i64 (x131 + 1) fun v187 => (h0 (v187, v186, x133))))) else (if v182 = 1 then (gd ((x132.length + v184.length) * 8 ≤ 140737488355328) (lv (x132 ++ v184) fun v188 => (arr .i64 (x131 + 1) fun v189 => (h0 (v189, v188, x133))))) else (if v182 = 2 then (ixI v184 0 fun v190 => (gd ((x133.length + 1) * 24 ≤ 140737488355328) (lv (x133 ++ [⟨v183, v190⟩]) fun v191 => (arr .i64 (x131 + 1) fun v192 => (h0 (v192, x132, v191)))))) else (if v182 = 3 then (gd ((x133.length + v185.length) * 24 ≤ 140737488355328) (lv (x133 ++ v185) fun v193 => (arr .i64 (x131 + 1) fun v194 => (h0 (v194, x132, v193))))) else (arr .i64 (x131 + 1) fun v195 => (h0 (v195, x132, x133)))))))) else (cn (validFlat (⟨x132, x133⟩)) (gd (x132.length ≤ 1000 ∧ x133.length ≤ 1000) (on_Flat ((fun (f : Flat) => f) (⟨x132, x133⟩)) fun v198 v199 => (some (⟨v198, v199⟩, true)))) (some (⟨[], []⟩, false))))
noncomputable def impl_FlattenCall.f (a1 : List Arg) (h0 : Int → (Int × (List Int) × (List Pair)) → Option (Flat × Bool)) (z_ : Flat × Bool) : Option (Flat × Bool) := (cn (validCall (⟨a1⟩)) (ln' z_ (a1.length) fun v99 => (h0 v99 (0, [], []))) (some (⟨[], []⟩, false)))
section
variable {G : Glob} (hm : pg.follows .mixedOrders = true) (hz : ∀ T, ∀ c ∈ (ttOf pg T).zero, Bd c) (hG : GF G)
include hm hz hG
set_option maxHeartbeats 8000000 in
theorem impl_FlattenCall.w {a1 : List Arg} (inv0 : Int → (Int × (List Int) × (List Pair)) → Prop) (mu0 : Int → (Int × (List Int) × (List Pair)) → Nat) (res0 : Int → (Int × (List Int) × (List Pair)) → Flat × Bool) (hb0 : ∀ (v99 : Int), ∀ (s_ : Int × (List Int) × (List Pair)), inv0 v99 s_ → impl_FlattenCall.b0 a1 v99 (LI (inv0 v99) (mu0 v99) (res0 v99) (mu0 v99 s_)) (res0 v99 s_) s_.1 s_.2.1 s_.2.2 = some (res0 v99 s_)) {r : Flat × Bool} (H : impl_FlattenCall.f a1 (fun v99 => EI (inv0 v99) (mu0 v99) (res0 v99)) r = some r) : FnOK pg G 31 [.agg [.sl (a1.map eArg)]] [] (.tup [.agg [.sl ((r.1.places).map eI), .sl ((r.1.names).map ePair)], .bool (r.2)]) [] true := by
  obtain ⟨V, hV⟩ := exV
  have e0_I : V.rI [] = [] := hV.rI []
  have e1_I : ∀ x r, V.rI (x :: r) = eI x :: V.rI r := fun x r => by rw [hV.rI, hV.rI]; rfl
  have e0_Pair : V.rPair [] = [] := hV.rPair []
  have e1_Pair : ∀ x r, V.rPair (x :: r) = ePair x :: V.rPair r := fun x r => by rw [hV.rPair, hV.rPair]; rfl
  have e0_Arg : V.rArg [] = [] := hV.rArg []
  simp only [← hV.rI, ← hV.rPair, ← hV.rArg]
  refine fn_okS (tt0 := tyG [ty3, ty4, ty9, ty22, ty24, ty36, ty37, ty39, ty74, ty80]) (fn := Tryz.f31) (body := bodyOf Tryz.f31) (ext := []) hm (tyG_sub ⟨tt3, tt4, tt9, tt22, tt24, tt36, tt37, tt39, tt74, tt80, trivial⟩) hz 0 [] (by unfold pg; exact Tryz.func31) rfl rfl (by simp [Tryz.f31]) (by simp [EObj.toObj]) (by cbv) ?_
  intro A F hA hF
  unfold impl_FlattenCall.f at H
  cbv
  repeat' (first
    | (with_reducible refine s_gd H (fun hg H => ?_))
    | (cases H; (try simp only [e0_I, e0_Pair, e0_Arg, e1_I, eI, e1_Pair, ePair] at hF); with_reducible refine fin_close hF rfl (by simp [expIds, posCells, C.cells, idOf]) ?_; cbv)
    | (with_reducible refine s_lt H (fun H => ?_) (fun H => ?_) <;> cbv)
    | (with_reducible refine s_le H (fun H => ?_) (fun H => ?_) <;> cbv)
    | (with_reducible refine s_eq H (fun H => ?_) (fun H => ?_) <;> cbv)
    | (with_reducible refine s_ne H (fun H => ?_) (fun H => ?_) <;> cbv)
    | (with_reducible refine s_ln H lnOf (fun _ H => ?_); cbv)
    | (with_reducible refine s_ixI hV H (fun _ H => ?_); cbv)
    | (with_reducible refine s_ixArg hV H (fun _ _ _ _ H => ?_); cbv)
    | (with_reducible refine s_ar H (fun _ H => ?_); cbv)
    | (with_reducible refine s_apI hV H (fun _ H => ?_); cbv)
    | (with_reducible refine s_apL hV.rI hV.nI H (fun _ H => ?_); cbv)
    | (with_reducible refine s_apPair hV H (fun _ H => ?_); cbv)
    | (with_reducible refine s_apL hV.rPair hV.nPair H (fun _ H => ?_); cbv)
    | (with_reducible refine s_apArg hV H (fun _ H => ?_); cbv)
    | (with_reducible refine s_apL hV.rArg hV.nArg H (fun _ H => ?_); cbv)
    | (with_reducible refine s_apZArg hV H (fun _ _ H hk_ zs_ hd_ => ?_); cbv)
    | (with_reducible refine s_bnZArg hV H (fun _ _ H hk_ zs_ hd_ => ?_); cbv)
    | (with_reducible refine s_a0ZArg hV H (fun _ _ H hk_ zs_ hd_ => ?_); cbv)
    | (with_reducible refine s_lv H (fun _ H => ?_); cbv)
    | (with_reducible refine s_loop hA H (fun s h => hb0 _ s h) [2, 4, 12, 13] [128] (fun e s => [(14, .int .i64 (s.1))]) (fun e s => [ovO e 256 [(0, .ref 1728 0 1 0 (V.nI (s.2.1))), (1, .ref 2624 0 2 0 (V.nPair (s.2.2)))], (1728, ⟨0, true, 1, .many (V.rI (s.2.1))⟩), (2624, ⟨0, true, 2, .many (V.rPair (s.2.2))⟩)]) [(1728, 1), (2624, 2)] pin_spec_callOf nbOf ?_; rintro ⟨x131, x132, x133⟩ H; unfold impl_FlattenCall.b0 at H; (try dsimp only at H); cbv)
    | (with_reducible refine s_next H pin_spec_callOf nbOf)
    | (with_reducible refine s_cb hA H (by (try simp only [hV.rI, hV.rPair, hV.rArg]); with_unfolding_all exact impl_ValidCall.ok hm hz hG) rfl (fun H => ?_) (fun H => ?_) <;> cbv)
    | (with_reducible refine s_cb hA H (by (try simp only [hV.rI, hV.rPair, hV.rArg]); with_unfolding_all exact impl_ValidFlat.ok hm hz hG) rfl (fun H => ?_) (fun H => ?_) <;> cbv)
    | (with_reducible refine s_rb (by assumption) H (by (try simp only [hV.rI, hV.rPair, hV.rArg]); with_unfolding_all exact impl_ValidFlat.ok hm hz hG) (fun H => ?_) (fun H => ?_) <;> cbv)
    | (with_reducible refine s_cFlat hV hA H (by (try simp only [hV.rI, hV.rPair, hV.rArg]); (first | (have hk_ := impl_Flat_copyOf.ok hm hz hG hg; with_unfolding_all exact hk_) | (with_unfolding_all exact impl_Flat_copyOf.ok hm hz hG (by first | assumption | omega)))) rfl (fun _ _ H => ?_); cbv)
    | (with_reducible refine s_tFlat (by assumption) hV H (by (try simp only [hV.rI, hV.rPair, hV.rArg]); (first | (have hk_ := impl_Flat_copyOf.ok hm hz hG hg; with_unfolding_all exact hk_) | (with_unfolding_all exact impl_Flat_copyOf.ok hm hz hG (by first | assumption | omega)))) (by first | (cbv <;> (repeat' (first | trivial | refine And.intro ?_ ?_)) <;> (first | rfl | exact clI hV _ | with_unfolding_all exact clPair hV _ | with_unfolding_all exact clArg hV _ | simp [closedCell])) | fail) (fun _ _ H => ?_); cbv)
    | (with_reducible refine s_wFlat hA H rfl (fun U hU => ?_); cbv)
    | (with_reducible refine callT_cl hA (fun U hU => ?_); cbv)
    | (with_reducible refine indep_of hA ?_; cbv)
    | ((with_reducible refine side ?_); exact sideOf)
    | (with_reducible refine s_tkG hV.rI hV.nI ?_; cbv)
    | (with_reducible refine s_tkG hV.rPair hV.nPair ?_; cbv)
    | (with_reducible refine s_tkG hV.rArg hV.nArg ?_; cbv)
    | (with_reducible refine s_tk1 ?_; cbv)
    | (with_reducible refine And.intro ?_ ?_)
    | ((with_reducible refine s_cn H (fun hb H => ?_) (fun hb H => ?_)) <;> (revert H; subst hb; intro H; cbv))
    | (intro ys hys; subst hys; rfl)
    | rfl)
end
section
variable {G : Glob} (hm : pg.follows .mixedOrders = true) (hz : ∀ T, ∀ c ∈ (ttOf pg T).zero, Bd c) (hG : GF G)
include hm hz hG
theorem impl_FlattenCall.ok {a1 : List Arg}  : FnOK pg G 31 [.agg [.sl (a1.map eArg)]] [] (.tup [.agg [.sl (((FlattenV ⟨a1⟩).1.places).map eI), .sl (((FlattenV ⟨a1⟩).1.names).map ePair)], .bool ((FlattenV ⟨a1⟩).2)]) [] true := by
  refine @impl_FlattenCall.w G hm hz hG a1 (fun v s => v = a1.length ∧ validCall ⟨a1⟩ = true ∧ 0 ≤ s.1 ∧ s.1 ≤ a1.length ∧ s.2.1 = (a1.take s.1.toNat).flatMap plOf ∧ s.2.2 = (a1.take s.1.toNat).flatMap nmOf) (fun _ s => a1.length - s.1.toNat) (fun _ _ => FlattenV ⟨a1⟩) ?_ _ ?_
  · rintro v ⟨i, ps, ns⟩ ⟨rfl, hv, h0, h1, hP, hN⟩
    simp only at h0 h1 hP hN
    subst hP
    subst hN
    obtain ⟨va, v16⟩ := validCall_args hv
    simp only at va v16
    have bP : ∀ k : Nat, ((a1.take k).flatMap plOf).length ≤ 128 := fun k => by
      have := flatMap_le (n := 8) (f := plOf) (l := a1.take k) fun x hx => plOf_len (va x (List.mem_of_mem_take hx))
      have h2 : (a1.take k).length ≤ 16 := by rw [List.length_take]; omega
      omega
    have bN : ∀ k : Nat, ((a1.take k).flatMap nmOf).length ≤ 128 := fun k => by
      have := flatMap_le (n := 8) (f := nmOf) (l := a1.take k) fun x hx => nmOf_len (va x (List.mem_of_mem_take hx))
      have h2 : (a1.take k).length ≤ 16 := by rw [List.length_take]; omega
      omega
    simp only [impl_FlattenCall.b0, lv, on_Flat, cn_ite]
    refine ite_ok (fun h => ?_) (fun h => ?_)
    · have hk : i.toNat < a1.length := by omega
      have hx := List.getElem?_eq_getElem hk
      have hx1 := va _ (List.getElem_mem hk)
      generalize a1[i.toNat] = x at hx hx1
      have sP := flatMap_snoc (f := plOf) h0 hx
      have sN := flatMap_snoc (f := nmOf) h0 hx
      have lP := plOf_len hx1
      have lN := nmOf_len hx1
      have b1 := bP i.toNat
      have b2 := bN i.toNat
      rw [ixArg_ok h0 hx]
      rcases valid_kind hx1 with k | k | k | k
      · have e1 : plOf x = x.list := by rw [plOf, if_pos (.inl k)]
        have e2 : nmOf x = [] := by rw [nmOf, if_neg (by rw [k]; decide), if_neg (by rw [k]; decide)]
        rw [e1] at sP lP
        rw [e2, List.append_nil] at sN
        rw [if_pos k, gd_ok (by omega), arr_ok (by omega)]
        exact LI_ok ⟨⟨by first | trivial | rfl, hv, by omega, by omega, sP, sN⟩, by simp only; omega⟩
      · have e1 : plOf x = x.list := by rw [plOf, if_pos (.inr k)]
        have e2 : nmOf x = [] := by rw [nmOf, if_neg (by rw [k]; decide), if_neg (by rw [k]; decide)]
        rw [e1] at sP lP
        rw [e2, List.append_nil] at sN
        rw [if_neg (by rw [k]; decide), if_pos k, gd_ok (by omega), arr_ok (by omega)]
        exact LI_ok ⟨⟨by first | trivial | rfl, hv, by omega, by omega, sP, sN⟩, by simp only; omega⟩
      · have e1 : plOf x = [] := by rw [plOf, if_neg (by rw [k]; decide)]
        have e2 : nmOf x = [⟨x.name, x.list.headD 0⟩] := by rw [nmOf, if_pos k]
        rw [e1, List.append_nil] at sP
        rw [e2] at sN
        obtain ⟨n, hn⟩ := list_one (validArg_2 hx1 k).2.1
        rw [hn] at sN
        rw [if_neg (by rw [k]; decide), if_neg (by rw [k]; decide), if_pos k, hn, ixI_ok (x := n) (by omega) rfl, gd_ok (by omega), arr_ok (by omega)]
        exact LI_ok ⟨⟨by first | trivial | rfl, hv, by omega, by omega, sP, sN⟩, by simp only; omega⟩
      · have e1 : plOf x = [] := by rw [plOf, if_neg (by rw [k]; decide)]
        have e2 : nmOf x = x.pairs := by rw [nmOf, if_neg (by rw [k]; decide), if_pos k]
        rw [e1, List.append_nil] at sP
        rw [e2] at sN lN
        rw [if_neg (by rw [k]; decide), if_neg (by rw [k]; decide), if_neg (by rw [k]; decide), if_pos k, gd_ok (by omega), arr_ok (by omega)]
        exact LI_ok ⟨⟨by first | trivial | rfl, hv, by omega, by omega, sP, sN⟩, by simp only; omega⟩
    · have : i = a1.length := by omega
      have b1 := bP i.toNat
      have b2 := bN i.toNat
      rw [take_len this] at b1 b2 ⊢
      rw [FlattenV, if_pos hv]
      refine ite_ok (fun h => ?_) (fun h => ?_)
      · rw [gd_ok (by omega)]
        rw [if_pos (show validFlat (flatOfC ⟨a1⟩) = true from h)]; rfl
      · rw [if_neg (show ¬ validFlat (flatOfC ⟨a1⟩) = true from h)]
  · simp only [impl_FlattenCall.f, cn_ite]
    refine ite_ok (fun hv => ln_ok fun hB => ?_) (fun hv => ?_)
    · rw [EI_ok ⟨rfl, hv, Int.le_refl 0, by omega, rfl, rfl⟩]
    · rw [FlattenV, if_neg hv]
end
noncomputable def laws_equalFlat.f (a1 : List Int) (a2 : List Pair) (a3 : List Int) (a4 : List Pair)  (z_ : Bool) : Option (Bool) := (cn ((fun (a b : List Int) => decide (a = b)) a1 a3) (cn ((fun (a b : List Pair) => decide (a = b)) a2 a4) (some true) (some false)) (some false))
section
variable {G : Glob} (hm : pg.follows .mixedOrders = true) (hz : ∀ T, ∀ c ∈ (ttOf pg T).zero, Bd c) (hG : GF G)
include hm hz hG
theorem laws_equalFlat.w {a1 : List Int} {a2 : List Pair} {a3 : List Int} {a4 : List Pair}  {r : Bool} (H : laws_equalFlat.f a1 a2 a3 a4  r = some r) : FnOK pg G 32 [.agg [.sl (a1.map eI), .sl (a2.map ePair)], .agg [.sl (a3.map eI), .sl (a4.map ePair)]] [] (.bool r) [] false := by
  obtain ⟨V, hV⟩ := exV
  simp only [← hV.rI, ← hV.rPair]
  refine fn_ok (tt0 := tyG [ty3, ty4, ty9, ty36, ty37, ty39, ty80]) (fn := Tryz.f32) (body := bodyOf Tryz.f32) (ext := []) hm (tyG_sub ⟨tt3, tt4, tt9, tt36, tt37, tt39, tt80, trivial⟩) hz 0 true [] (by unfold pg; exact Tryz.func32) rfl rfl (by simp [Tryz.f32]) (by simp [EObj.toObj]) (by cbv) ?_
  intro A F hA hF
  unfold laws_equalFlat.f at H
  cbv
  repeat' (first
    | (cases H; exact fin_plain hF rfl rfl rfl rfl)
    | (with_reducible refine s_lv H (fun _ H => ?_); cbv)
    | (with_reducible refine s_cb hA H (by (try simp only [hV.rI, hV.rPair]); with_unfolding_all exact laws_equalInts.ok hm hz hG) rfl (fun H => ?_) (fun H => ?_) <;> cbv)
    | (with_reducible refine s_cb hA H (by (try simp only [hV.rI, hV.rPair]); with_unfolding_all exact laws_equalPairs.ok hm hz hG) rfl (fun H => ?_) (fun H => ?_) <;> cbv)
    | (with_reducible refine indep_of hA ?_; cbv)
    | ((with_reducible refine side ?_); exact sideOf)
    | (with_reducible refine s_tkG hV.rI hV.nI ?_; cbv)
    | (with_reducible refine s_tkG hV.rPair hV.nPair ?_; cbv)
    | (with_reducible refine s_tk1 ?_; cbv)
    | (with_reducible refine And.intro ?_ ?_)
    | ((with_reducible refine s_cn H (fun hb H => ?_) (fun hb H => ?_)) <;> (revert H; subst hb; intro H; cbv))
    | (intro ys hys; subst hys; rfl)
    | rfl)
end
section
variable {G : Glob} (hm : pg.follows .mixedOrders = true) (hz : ∀ T, ∀ c ∈ (ttOf pg T).zero, Bd c) (hG : GF G)
include hm hz hG
theorem laws_equalFlat.ok {a1 : List Int} {a2 : List Pair} {a3 : List Int} {a4 : List Pair}  : FnOK pg G 32 [.agg [.sl (a1.map eI), .sl (a2.map ePair)], .agg [.sl (a3.map eI), .sl (a4.map ePair)]] [] (.bool (((fun (a b : Flat) => decide (a = b)) ⟨a1, a2⟩ ⟨a3, a4⟩))) [] false := by
  refine laws_equalFlat.w hm hz hG ?_
  simp only [laws_equalFlat.f, cn_ite, decide_eq_true_eq]
  by_cases h1 : a1 = a3 <;> by_cases h2 : a2 = a4 <;> simp [h1, h2]
end
end Go.Proofs.YtoofegkjdjlpkaaGreatDoor.M
