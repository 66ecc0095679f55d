/- Generators: signatures; the law FnParseSignature. -/
import Derived.Test.YtoofegkjdjlpkaaGreatDoorV1
set_option linter.unusedVariables false
set_option linter.unusedSimpArgs false
set_option linter.unusedSectionVars false
namespace Go.Proofs.YtoofegkjdjlpkaaGreatDoor.M
open Go Go.Proofs
set_option maxRecDepth 100000
def sigNames : List Str := [[97], [98], [99], [100], [120], [121], [112], [113], [97, 114, 103, 115], [107, 119]]
def gsKind (kind : Int) (r : Rd) : Int × Rd :=
  if pickI r 3 = 0 ∧ kind < 4 then (kind + 1 + pickI (pickV r 3).2 (4 - kind), (pickV (pickV r 3).2 (4 - kind)).2) else (kind, (pickV r 3).2)
def gsDflt (p : Param) (r : Rd) : Param × Rd :=
  if pickI r 3 = 0 ∧ singleP p = true then (⟨p.name, p.kind, true, (aNumberV (pickV r 3).2).1⟩, (aNumberV (pickV r 3).2).2) else (p, (pickV r 3).2)
def gsNext (k : Int) (p : Param) : Int := if singleP p = true then k else if 4 < k + 1 then 4 else k + 1
def gsPut (out : List Param) (p : Param) : List Param := if validParams (out ++ [p]) = true then out ++ [p] else out
def gsGo : Nat → Int → List Param → Rd → List Param × Rd
  | 0, _, out, r => (out, r)
  | n + 1, kind, out, r =>
    let k := gsKind kind r
    let q := gsDflt ⟨(rOf k.2 sigNames).1, k.1, false, 0⟩ (rOf k.2 sigNames).2
    gsGo n (gsNext k.1 q.1) (gsPut out q.1) q.2
def goodSigV (r : Rd) : Sig × Rd :=
  let x := rOne (pickV r 2).2 [3, 4, 2, 5, 1, 0, 6, 8]
  let q := gsGo x.1.toNat (if pickI r 2 = 0 then 1 else 0) [] x.2
  (⟨q.1⟩, q.2)
theorem gsKind_ok {n : Nat} {kind : Int} {r : Rd} (h : RO (n + 2) r) (h0 : 0 ≤ kind) (h4 : kind ≤ 4) : RO n (gsKind kind r).2 ∧ 0 ≤ (gsKind kind r).1 ∧ (gsKind kind r).1 ≤ 4 := by
  have h1 : RO (n + 1) (pickV r 3).2 := RO_pick h
  unfold gsKind
  split
  · rename_i c
    obtain ⟨p1, p2⟩ := pickI_rng (h1.le (by omega)) (n := 4 - kind) (by omega)
    exact ⟨RO_pick (m := 4 - kind) h1, by simp only; omega, by simp only; omega⟩
  · exact ⟨h1.le (by omega), h0, h4⟩
theorem gsDflt_ok {n : Nat} {p : Param} {r : Rd} (h : RO (n + 2) r) : RO n (gsDflt p r).2 := by
  have h1 : RO (n + 1) (pickV r 3).2 := RO_pick h
  unfold gsDflt
  split
  · exact RO_aNum h1
  · exact h1.le (by omega)
theorem gsNext_ok {k : Int} {p : Param} (h0 : 0 ≤ k) (h4 : k ≤ 4) : 0 ≤ gsNext k p ∧ gsNext k p ≤ 4 := by
  unfold gsNext; split
  · exact ⟨h0, h4⟩
  · split <;> omega
theorem gsPut_ok {out : List Param} {p : Param} (h : validParams out = true) : validParams (gsPut out p) = true := by
  unfold gsPut; split
  · assumption
  · exact h
theorem gsGo_ok {m : Nat} : ∀ (n : Nat) (kind : Int) (out : List Param) (r : Rd), RO (m + 5 * n) r → 0 ≤ kind → kind ≤ 4 → validParams out = true → RO m (gsGo n kind out r).2 ∧ validParams (gsGo n kind out r).1 = true
  | 0, _, _, _, h, _, _, hv => ⟨h, hv⟩
  | n + 1, kind, out, r, h, h0, h4, hv => by
    obtain ⟨k1, k2, k3⟩ := gsKind_ok (n := m + 5 * n + 3) (h.le (by omega)) h0 h4
    have k4 : RO (m + 5 * n + 2) (rOf (gsKind kind r).2 sigNames).2 := RO_of k1
    obtain ⟨n1, n2⟩ := gsNext_ok (p := (gsDflt ⟨(rOf (gsKind kind r).2 sigNames).1, (gsKind kind r).1, false, 0⟩ (rOf (gsKind kind r).2 sigNames).2).1) k2 k3
    exact gsGo_ok n _ _ _ (gsDflt_ok k4) n1 n2 (gsPut_ok hv)
theorem goodSigV_ok {n : Nat} {r : Rd} (h : RO (n + 42) r) : RO n (goodSigV r).2 ∧ validParams (goodSigV r).1.params = true := by
  have h1 : RO (n + 41) (pickV r 2).2 := RO_pick h
  obtain ⟨m1, m2⟩ := mem_rng (b := 8) (rOne_mem (l := [3, 4, 2, 5, 1, 0, 6, 8]) (h1.le (by omega)) (by decide)) rfl
  have h2 : RO (n + 40) (rOne (pickV r 2).2 [3, 4, 2, 5, 1, 0, 6, 8]).2 := RO_one h1
  exact gsGo_ok _ _ _ _ (h2.le (by omega)) (by split <;> omega) (by split <;> omega) rfl
section
variable {A : Bx} {P : Program} {G : Glob} {rg : Option Nat} {own : Nat} {o : Nat → EObj} {g : FuncId} {vs : List C} {sh : Bool} {K : C → List (Nat × EObj) → Prop} {R : Type} {r : R} {V : Vx} {v : (List Param)} {f : (List Param) → Option R}
theorem s_cFLParam (hV : IsV V) (hA : IsBx true rg P G A) (H : on_LParam v f = some r) (hok : FnOK P G g vs [] (.fr 4 (v.map eParam)) [] sh) (hc : vs.all closedArg = true) (h : ∀ c0, f c0 = some r → K (.ref (own + 0) ((o (own + 0)).gen + 1) 4 0 (V.nParam c0)) [(own + 0, ⟨(o (own + 0)).gen + 1, true, 4, .many (V.rParam c0)⟩)]) : A.call own o g vs K := by
  refine callT_plain hA hok hc ?_
  have := h (v) H
  rw [show V.nParam (v) = ((v).map eParam).length by rw [hV.nParam, List.length_map]] at this
  simp only [hV.rParam] at this
  exact this
theorem s_rFLParam {U : List C → List EObj → (C → List (Nat × EObj) → Prop) → Prop} {bs : List C} {ext : List EObj} (hU : U = callR P G own o g) (hV : IsV V) (H : on_LParam v f = some r) (hok : FnOK P G g bs (ext.map EObj.toObj) (.fr 4 (v.map eParam)) (ext.map EObj.toObj) false) (h : ∀ c0, f c0 = some r → K (.ref (own + 0) ((o (own + 0)).gen + 1) 4 0 (V.nParam c0)) [(own + 0, ⟨(o (own + 0)).gen + 1, true, 4, .many (V.rParam c0)⟩)]) : U bs ext K := by
  refine callR_of hU hok ?_
  have := h (v) H
  rw [show V.nParam (v) = ((v).map eParam).length by rw [hV.nParam, List.length_map]] at this
  simp only [hV.rParam] at this
  exact this
variable {U : List C → List Nat → (C → List (Nat × EObj) → Prop) → Prop} {bs : List C} {tops : List Nat}
end
noncomputable def spec_goodSignature.b0 (a1 : List Int) (a2 : Int)  (h0 : ((List Param) × Int × Int × (List Int) × Int) → Option (Sig × Rd)) (z_ : Sig × Rd) (x511 : List Param) (x512 : Int) (x513 : Int) (x514 : List Int) (x515 : Int) : Option (Sig × Rd) := (if 0 < x513 then (lj 1 (fun J1 => (gd (RO 1 ⟨x514, x515⟩) (on_I_Rd (pickV (⟨x514, x515⟩) 3) fun v708 v709 v710 => (if v708 = 0 then (if x512 < 4 then (arr .i64 (x512 + 1) fun v711 => (arr .i64 (4 - x512) fun v712 => (gd (RO 1 ⟨v709, v710⟩) (on_I_Rd (pickV (⟨v709, v710⟩) v712) fun v713 v714 v715 => (arr .i64 (v711 + v713) fun v716 => (J1 (v716, v714, v715))))))) else (J1 (x512, v709, v710))) else (J1 (x512, v709, v710)))))) (fun (x705, x706, x707) => (gd (RO 1 ⟨x706, x707⟩ ∧ 1 ≤ (([[97], [98], [99], [100], [120], [121], [112], [113], [97, 114, 103, 115], [107, 119]] : List Str)).length ∧ (([[97], [98], [99], [100], [120], [121], [112], [113], [97, 114, 103, 115], [107, 119]] : List Str)).length ≤ 1000) (on_S_Rd (rOf (⟨x706, x707⟩) ([[97], [98], [99], [100], [120], [121], [112], [113], [97, 114, 103, 115], [107, 119]])) fun v720 v721 v722 => (gd (RO 1 ⟨v721, v722⟩) (on_I_Rd (pickV (⟨v721, v722⟩) 3) fun v739 v740 v741 => (if v739 = 0 then (cn (singleP (⟨v720, x705, false, 0⟩)) (gd (RO 1 ⟨v740, v741⟩) (on_I_Rd (aNumberV (⟨v740, v741⟩)) fun v742 v743 v744 => (lj 2 (fun J2 => (cn (singleP (⟨v720, x705, true, v742⟩)) (J2 x705) (arr .i64 (x705 + 1) fun v747 => (if 4 < v747 then (J2 4) else (J2 v747))))) (fun x746 => (gd (x511.length ≤ 1000) (on_LParam ((fun (l : List Param) => l) x511) fun v750 => (gd ((v750.length + 1) * 40 ≤ 140737488355328) (lv (v750 ++ [⟨v720, x705, true, v742⟩]) fun v751 => (cn (validParams v751) (arr .i64 (x513 - 1) fun v752 => (h0 (v751, x746, v752, v743, v744))) (arr .i64 (x513 - 1) fun v753 => (h0 (x511, x746, v753, v743, v744)))))))))))) (lj 3 (fun J3 => (cn (singleP (⟨v720, x705, false, 0⟩)) (J3 x705) (arr .i64 (x705 + 1) fun v756 => (if 4 < v756 then (J3 4) else (J3 v756))))) (fun x755 => (gd (x511.length ≤ 1000) (on_LParam ((fun (l : List Param) => l) x511) fun v759 => (gd ((v759.length + 1) * 40 ≤ 140737488355328) (lv (v759 ++ [⟨v720, x705, false, 0⟩]) fun v760 => (cn (validParams v760) (arr .i64 (x513 - 1) fun v761 => (h0 (v760, x755, v761, v740, v741))) (arr .i64 (x513 - 1) fun v762 => (h0 (x511, x755, v762, v740, v741))))))))))) else (lj 4 (fun J4 => (cn (singleP (⟨v720, x705, false, 0⟩)) (J4 x705) (arr .i64 (x705 + 1) fun v765 => (if 4 < v765 then (J4 4) else (J4 v765))))) (fun x764 => (gd (x511.length ≤ 1000) (on_LParam ((fun (l : List Param) => l) x511) fun v768 => (gd ((v768.length + 1) * 40 ≤ 140737488355328) (lv (v768 ++ [⟨v720, x705, false, 0⟩]) fun v769 => (cn (validParams v769) (arr .i64 (x513 - 1) fun v770 => (h0 (v769, x764, v770, v740, v741))) (arr .i64 (x513 - 1) fun v771 => (h0 (x511, x764, v771, v740, v741))))))))))))))))) else (some (⟨x511⟩, ⟨x514, x515⟩)))
noncomputable def spec_goodSignature.f (a1 : List Int) (a2 : Int) (h0 : ((List Param) × Int × Int × (List Int) × Int) → Option (Sig × Rd)) (z_ : Sig × Rd) : Option (Sig × Rd) := (lj 0 (fun J0 => (gd (RO 1 ⟨a1, a2⟩) (on_I_Rd (pickV (⟨a1, a2⟩) 2) fun v9 v10 v11 => (if v9 = 0 then (J0 (1, v10, v11)) else (J0 (0, v10, v11)))))) (fun (x6, x7, x8) => (gd (RO 1 ⟨x7, x8⟩ ∧ 1 ≤ (([3, 4, 2, 5, 1, 0, 6, 8] : List Int)).length ∧ (([3, 4, 2, 5, 1, 0, 6, 8] : List Int)).length ≤ 1000) (on_I_Rd (rOne (⟨x7, x8⟩) ([3, 4, 2, 5, 1, 0, 6, 8])) fun v386 v387 v388 => (h0 ([], x6, v386, v387, v388))))))
theorem pin_spec_goodSignature {e : ESt} {ns : List (Nat × Nat)} {ps : List (Nat × C)} {os : List (Nat × EObj)} (hs : pinPZ (pinZ e.o (os.map Prod.fst) ns) e.s ps := by first | (cbv <;> (repeat' (first | trivial | refine And.intro ?_ ?_)) <;> (first | rfl | assumption | omega | exact clI hV _ | exact clS hV _ | exact clIu8 hV _ | exact clParam hV _ | with_unfolding_all exact hV.nI [] | with_unfolding_all exact (hV.nI []).symm | with_unfolding_all exact hV.nS [] | with_unfolding_all exact (hV.nS []).symm | with_unfolding_all exact hV.nIu8 [] | with_unfolding_all exact (hV.nIu8 []).symm | with_unfolding_all exact hV.nParam [] | with_unfolding_all exact (hV.nParam []).symm | with_unfolding_all exact hV.rI _ | with_unfolding_all exact hV.rS _ | with_unfolding_all exact hV.rIu8 _ | with_unfolding_all exact hV.rParam _ | with_unfolding_all exact (hV.nI _).trans (Eq.trans (by simp only [hV.nI] at *; omega) (hV.nI _).symm) | with_unfolding_all exact (hV.nS _).trans (Eq.trans (by simp only [hV.nS] at *; omega) (hV.nS _).symm) | with_unfolding_all exact (hV.nIu8 _).trans (Eq.trans (by simp only [hV.nIu8] at *; omega) (hV.nIu8 _).symm) | with_unfolding_all exact (hV.nParam _).trans (Eq.trans (by simp only [hV.nParam] at *; omega) (hV.nParam _).symm) | simp [closedCell])) | fail) (ho : ∀ B : (Nat → EObj) → List (List C) → List (List C) → Prop, (∀ o rows rows', rowsZ (pinZ o (os.map Prod.fst) ns) rows rows' → B o rows rows') → pinOZ (pinZ e.o (os.map Prod.fst) ns) B e.o ns os := by intro B hB; first | (cbv <;> (repeat' (first | trivial | refine And.intro ?_ ?_ | refine pin_same hB ?_ | refine pin_nil hB ?_ | refine pin_dirty hB (by assumption) (by assumption) ?_ ?_ | exact pinL_n | refine pinL_c ?_ ?_ | exact pzr rfl rfl rfl (nrI hV _) (clI hV _) | exact pzr rfl rfl rfl (nrS hV _) (clS hV _) | exact pzr rfl rfl rfl (nrIu8 hV _) (clIu8 hV _) | exact pzr rfl rfl rfl (nrParam hV _) (clParam hV _) | (refine pz_go ?_; cbv) | (refine pinL_go ?_; cbv))) <;> (first | exact clI hV _ | exact clS hV _ | exact clIu8 hV _ | exact clParam hV _ | with_unfolding_all exact hV.rI _ | with_unfolding_all exact hV.rS _ | with_unfolding_all exact hV.rIu8 _ | with_unfolding_all exact hV.rParam _ | with_unfolding_all exact hV.nI [] | with_unfolding_all exact (hV.nI []).symm | with_unfolding_all exact hV.nS [] | with_unfolding_all exact (hV.nS []).symm | with_unfolding_all exact hV.nIu8 [] | with_unfolding_all exact (hV.nIu8 []).symm | with_unfolding_all exact hV.nParam [] | with_unfolding_all exact (hV.nParam []).symm | assumption | omega | rfl | with_unfolding_all exact (hV.nI _).trans (Eq.trans (by simp only [hV.nI] at *; omega) (hV.nI _).symm) | with_unfolding_all exact (hV.nS _).trans (Eq.trans (by simp only [hV.nS] at *; omega) (hV.nS _).symm) | with_unfolding_all exact (hV.nIu8 _).trans (Eq.trans (by simp only [hV.nIu8] at *; omega) (hV.nIu8 _).symm) | with_unfolding_all exact (hV.nParam _).trans (Eq.trans (by simp only [hV.nParam] at *; omega) (hV.nParam _).symm) | simp [closedCell])) | fail) : PinnedZ e ns ps os := ⟨hs, ho⟩
section
variable {G : Glob} (hm : pg.follows .mixedOrders = true) (hz : ∀ T, ∀ c ∈ (ttOf pg T).zero, Bd c) (hG : GF G)
include hm hz hG
set_option maxHeartbeats 8000000 in
theorem spec_goodSignature.w {a1 : List Int} {a2 : Int} (inv0 : ((List Param) × Int × Int × (List Int) × Int) → Prop) (mu0 : ((List Param) × Int × Int × (List Int) × Int) → Nat) (res0 : ((List Param) × Int × Int × (List Int) × Int) → Sig × Rd) (hb0 : ∀ (s_ : (List Param) × Int × Int × (List Int) × Int), inv0  s_ → spec_goodSignature.b0 a1 a2  (LI (inv0 ) (mu0 ) (res0 ) (mu0  s_)) (res0  s_) s_.1 s_.2.1 s_.2.2.1 s_.2.2.2.1 s_.2.2.2.2 = some (res0  s_)) {r : Sig × Rd} (H : spec_goodSignature.f a1 a2 (EI (inv0 ) (mu0 ) (res0 )) r = some r) : FnOK pg G 99 [.ptr 0 0 2 0 0] (([⟨0, true, 2, .one [.sl (a1.map eIu8), .int .i64 a2]⟩] : List EObj).map EObj.toObj) (.agg [.fr 4 ((r.1.params).map eParam)]) (([⟨0, true, 2, .one [.sl ((r.2.bs).map eIu8), .int .i64 (r.2.at_)]⟩] : List EObj).map EObj.toObj) true := by
  obtain ⟨V, hV⟩ := exV
  have e0_I : V.rI [] = [] := hV.rI []
  have e1_I : ∀ x r, V.rI (x :: r) = eI x :: V.rI r := fun x r => by rw [hV.rI, hV.rI]; rfl
  have e0_S : V.rS [] = [] := hV.rS []
  have e1_S : ∀ x r, V.rS (x :: r) = eS x :: V.rS r := fun x r => by rw [hV.rS, hV.rS]; rfl
  have e0_Iu8 : V.rIu8 [] = [] := hV.rIu8 []
  have e1_Iu8 : ∀ x r, V.rIu8 (x :: r) = eIu8 x :: V.rIu8 r := fun x r => by rw [hV.rIu8, hV.rIu8]; rfl
  have e0_Param : V.rParam [] = [] := hV.rParam []
  have e1_Param : ∀ x r, V.rParam (x :: r) = eParam x :: V.rParam r := fun x r => by rw [hV.rParam, hV.rParam]; rfl
  simp only [← hV.rI, ← hV.rS, ← hV.rIu8, ← hV.rParam]
  refine fn_okW (tt0 := tyG [ty3, ty4, ty9, ty36, ty46, ty48, ty71, ty90, ty99]) (fn := Tryz.f99) (body := bodyOf Tryz.f99) (ext := [⟨0, true, 2, .one [.sl (V.rIu8 a1), .int .i64 a2]⟩]) (ext' := [⟨0, true, 2, .one [.sl (V.rIu8 (r.2.bs)), .int .i64 (r.2.at_)]⟩]) hm (tyG_sub ⟨tt3, tt4, tt9, tt36, tt46, tt48, tt71, tt90, tt99, trivial⟩) hz 0 true [5, 10, 16, 16, 16] (by unfold pg; exact Tryz.func99) rfl rfl (by simp [Tryz.f99]) (by simp [EObj.toObj]) (by cbv) ?_
  intro A F hA hF
  unfold spec_goodSignature.f at H
  cbv
  repeat' (first
    | (with_reducible refine s_gd H (fun hg H => ?_))
    | (cases H; (try simp only [e0_I, e0_S, e0_Iu8, e0_Param, e1_I, eI, e1_S, eS, e1_Iu8, eIu8, e1_Param, eParam] at hF); with_reducible refine fin_WO hF rfl (by simp [expIds, posCells, C.cells, idOf]) ?_ ?_ (by with_unfolding_all exact ⟨by first | (cbv <;> rfl) | fail, rfl, rfl, rfl, rfl, (by intro z hz; simp [ED.rows] at hz; subst hz; rfl), trivial⟩) <;> cbv)
    | (with_reducible refine s_lt H (fun H => ?_) (fun H => ?_) <;> cbv)
    | (with_reducible refine s_le H (fun H => ?_) (fun H => ?_) <;> cbv)
    | (with_reducible refine s_eq H (fun H => ?_) (fun H => ?_) <;> cbv)
    | (with_reducible refine s_ne H (fun H => ?_) (fun H => ?_) <;> cbv)
    | (with_reducible refine s_ar H (fun _ H => ?_); cbv)
    | (with_reducible refine s_apI hV H (fun _ H => ?_); cbv)
    | (with_reducible refine s_apL hV.rI hV.nI H (fun _ H => ?_); cbv)
    | (with_reducible refine s_apS hV H (fun _ H => ?_); cbv)
    | (with_reducible refine s_apL hV.rS hV.nS H (fun _ H => ?_); cbv)
    | (with_reducible refine s_apIu8 hV H (fun _ H => ?_); cbv)
    | (with_reducible refine s_apL hV.rIu8 hV.nIu8 H (fun _ H => ?_); cbv)
    | (with_reducible refine s_apParam hV H (fun _ H => ?_); cbv)
    | (with_reducible refine s_apL hV.rParam hV.nParam H (fun _ H => ?_); cbv)
    | (with_reducible refine s_lv H (fun _ H => ?_); cbv)
    | (with_reducible refine s_loop hA H (fun s h => hb0  s h) [0, 2] [128] (fun e s => [(3, .ref 512 0 4 0 (V.nParam (s.1))), (4, .int .i64 (s.2.1)), (5, .int .i64 (s.2.2.1))]) (fun e s => [ovO e 0 [(0, .sl (V.rIu8 (s.2.2.2.1))), (1, .int .i64 (s.2.2.2.2))], (512, ⟨0, true, 4, .many (V.rParam (s.1))⟩)]) [] pin_spec_goodSignature nbOf ?_; rintro ⟨x511, x512, x513, x514, x515⟩ H; unfold spec_goodSignature.b0 at H; (try dsimp only at H); cbv)
    | (with_reducible refine s_next H pin_spec_goodSignature nbOf)
    | (with_reducible refine s_nextM [(3584, 512)] rfl H pin_spec_goodSignature nbOf)
    | (with_reducible refine s_joint 0 hA H [0, 2, 3] [128, 512] (fun e s => [(4, .int .i64 (s.1))]) (fun e s => [ovO e 0 [(0, .sl (V.rIu8 (s.2.1))), (1, .int .i64 (s.2.2))]]) (fun J0 H => ?_) ?_; rotate_left; (rintro ⟨x6, x7, x8⟩ H; (try dsimp only at H); cbv); rotate_left; cbv)
    | (with_reducible refine s_meet H [] pin_spec_goodSignature nbOf)
    | (with_reducible refine s_joint 1 hA H [0, 2, 3, 5] [128, 512] (fun e s => [(4, .int .i64 (s.1))]) (fun e s => [ovO e 0 [(0, .sl (V.rIu8 (s.2.1))), (1, .int .i64 (s.2.2))]]) (fun J1 H => ?_) ?_; rotate_left; (rintro ⟨x705, x706, x707⟩ H; (try dsimp only at H); cbv); rotate_left; cbv)
    | (with_reducible refine s_meet H [] pin_spec_goodSignature nbOf)
    | (with_reducible refine s_joint 2 hA H [0, 2, 3, 5, 6] [0, 128, 512, 384] (fun e s => [(4, .int .i64 s)]) (fun e s => []) (fun J2 H => ?_) ?_; rotate_left; (rintro x746 H; (try dsimp only at H); cbv); rotate_left; cbv)
    | (with_reducible refine s_meet H [] pin_spec_goodSignature nbOf)
    | (with_reducible refine s_joint 3 hA H [0, 2, 3, 5, 6] [0, 128, 512, 384] (fun e s => [(4, .int .i64 s)]) (fun e s => []) (fun J3 H => ?_) ?_; rotate_left; (rintro x755 H; (try dsimp only at H); cbv); rotate_left; cbv)
    | (with_reducible refine s_meet H [] pin_spec_goodSignature nbOf)
    | (with_reducible refine s_joint 4 hA H [0, 2, 3, 5, 6] [0, 128, 512, 384] (fun e s => [(4, .int .i64 s)]) (fun e s => []) (fun J4 H => ?_) ?_; rotate_left; (rintro x764 H; (try dsimp only at H); cbv); rotate_left; cbv)
    | (with_reducible refine s_meet H [] pin_spec_goodSignature nbOf)
    | (with_reducible refine s_vI_Rd_1 hV (by assumption) H (by (try simp only [hV.rI, hV.rS, hV.rIu8, hV.rParam]); (first | (have hk_ := spec_reader_pick.ok hm hz hG hg; with_unfolding_all exact hk_) | (with_unfolding_all exact spec_reader_pick.ok hm hz hG (by first | assumption | omega)))) (by first | (cbv <;> (repeat' (first | trivial | refine And.intro ?_ ?_)) <;> (first | rfl | exact clI hV _ | with_unfolding_all exact clS hV _ | with_unfolding_all exact clIu8 hV _ | with_unfolding_all exact clParam hV _ | simp [closedCell])) | fail) (fun _ _ _ H => ?_); cbv)
    | (with_reducible refine s_vI_Rd_1 hV (by assumption) H (by (try simp only [hV.rI, hV.rS, hV.rIu8, hV.rParam]); (first | (have hk_ := spec_reader_one.ok hm hz hG hg; with_unfolding_all exact hk_) | (with_unfolding_all exact spec_reader_one.ok hm hz hG (by first | assumption | omega)))) (by first | (cbv <;> (repeat' (first | trivial | refine And.intro ?_ ?_)) <;> (first | rfl | exact clI hV _ | with_unfolding_all exact clS hV _ | with_unfolding_all exact clIu8 hV _ | with_unfolding_all exact clParam hV _ | simp [closedCell])) | fail) (fun _ _ _ H => ?_); cbv)
    | (with_reducible refine s_vS_Rd_1 hV (by assumption) H (by (try simp only [hV.rI, hV.rS, hV.rIu8, hV.rParam]); (first | (have hk_ := spec_reader_of.ok hm hz hG hg; with_unfolding_all exact hk_) | (with_unfolding_all exact spec_reader_of.ok hm hz hG (by first | assumption | omega)))) (by first | (cbv <;> (repeat' (first | trivial | refine And.intro ?_ ?_)) <;> (first | rfl | exact clI hV _ | with_unfolding_all exact clS hV _ | with_unfolding_all exact clIu8 hV _ | with_unfolding_all exact clParam hV _ | simp [closedCell])) | fail) (fun _ _ _ H => ?_); cbv)
    | (with_reducible refine s_cb hA H (by (try simp only [hV.rI, hV.rS, hV.rIu8, hV.rParam]); with_unfolding_all exact spec_isSingle.ok hm hz hG) rfl (fun H => ?_) (fun H => ?_) <;> cbv)
    | (with_reducible refine s_vI_Rd_1 hV (by assumption) H (by (try simp only [hV.rI, hV.rS, hV.rIu8, hV.rParam]); (first | (have hk_ := spec_aNumber.ok hm hz hG hg; with_unfolding_all exact hk_) | (with_unfolding_all exact spec_aNumber.ok hm hz hG (by first | assumption | omega)))) (by first | (cbv <;> (repeat' (first | trivial | refine And.intro ?_ ?_)) <;> (first | rfl | exact clI hV _ | with_unfolding_all exact clS hV _ | with_unfolding_all exact clIu8 hV _ | with_unfolding_all exact clParam hV _ | simp [closedCell])) | fail) (fun _ _ _ H => ?_); cbv)
    | (with_reducible refine s_cFLParam hV hA H (by (try simp only [hV.rI, hV.rS, hV.rIu8, hV.rParam]); (first | (have hk_ := spec_copyParams.ok hm hz hG hg; with_unfolding_all exact hk_) | (with_unfolding_all exact spec_copyParams.ok hm hz hG (by first | assumption | omega)))) rfl (fun _ H => ?_); cbv)
    | (with_reducible refine s_rFLParam (by assumption) hV H (by (try simp only [hV.rI, hV.rS, hV.rIu8, hV.rParam]); (first | (have hk_ := spec_copyParams.ok hm hz hG hg; with_unfolding_all exact hk_) | (with_unfolding_all exact spec_copyParams.ok hm hz hG (by first | assumption | omega)))) (fun _ H => ?_); cbv)
    | (with_reducible refine s_cb hA H (by (try simp only [hV.rI, hV.rS, hV.rIu8, hV.rParam]); with_unfolding_all exact spec_validParams.ok hm hz hG) rfl (fun H => ?_) (fun H => ?_) <;> cbv)
    | (with_reducible refine s_rb (by assumption) H (by (try simp only [hV.rI, hV.rS, hV.rIu8, hV.rParam]); with_unfolding_all exact spec_validParams.ok hm hz hG) (fun H => ?_) (fun H => ?_) <;> cbv)
    | (with_reducible refine callT_wp hA rfl (fun U hU => ?_); cbv)
    | (with_reducible refine callT_cl hA (fun U hU => ?_); cbv)
    | (with_reducible refine indep_of hA ?_; cbv)
    | ((with_reducible refine side ?_); exact sideOf)
    | (with_reducible refine s_tkG hV.rI hV.nI ?_; cbv)
    | (with_reducible refine s_tkG hV.rS hV.nS ?_; cbv)
    | (with_reducible refine s_tkG hV.rIu8 hV.nIu8 ?_; cbv)
    | (with_reducible refine s_tkG hV.rParam hV.nParam ?_; cbv)
    | (with_reducible refine s_tk1 ?_; cbv)
    | (with_reducible refine s_eqL ?_; cbv)
    | (with_reducible refine And.intro ?_ ?_)
    | ((with_reducible refine s_cn H (fun hb H => ?_) (fun hb H => ?_)) <;> (revert H; subst hb; intro H; cbv))
    | (intro ys hys; subst hys; rfl)
    | rfl
    | (first | exact True.intro | omega | exact clI hV _ | exact clS hV _ | exact clIu8 hV _ | exact clParam hV _)
    | (intro h_; cases h_; done)
    | (with_reducible refine s_pl ?_; with_unfolding_all simp [plainV, plainA, plainC, plRI hV, plRS hV, plRIu8 hV, plRParam hV])
    | (intro ys hys; subst hys))
end
section
variable {G : Glob} (hm : pg.follows .mixedOrders = true) (hz : ∀ T, ∀ c ∈ (ttOf pg T).zero, Bd c) (hG : GF G)
include hm hz hG
theorem spec_goodSignature.ok {a1 : List Int} {a2 : Int} (hp : RO 42 ⟨a1, a2⟩) : FnOK pg G 99 [.ptr 0 0 2 0 0] (([⟨0, true, 2, .one [.sl (a1.map eIu8), .int .i64 a2]⟩] : List EObj).map EObj.toObj) (.agg [.fr 4 (((goodSigV ⟨a1, a2⟩).1.params).map eParam)]) (([⟨0, true, 2, .one [.sl (((goodSigV ⟨a1, a2⟩).2.bs).map eIu8), .int .i64 ((goodSigV ⟨a1, a2⟩).2.at_)]⟩] : List EObj).map EObj.toObj) true := by
  refine @spec_goodSignature.w G hm hz hG a1 a2 (fun s => 0 ≤ s.2.1 ∧ s.2.1 ≤ 4 ∧ 0 ≤ s.2.2.1 ∧ s.2.2.1 ≤ 8 ∧ RO (5 * s.2.2.1.toNat) ⟨s.2.2.2.1, s.2.2.2.2⟩ ∧ validParams s.1 = true) (fun s => s.2.2.1.toNat)
    (fun s => (⟨(gsGo s.2.2.1.toNat s.2.1 s.1 ⟨s.2.2.2.1, s.2.2.2.2⟩).1⟩, (gsGo s.2.2.1.toNat s.2.1 s.1 ⟨s.2.2.2.1, s.2.2.2.2⟩).2)) ?_ _ ?_
  · rintro ⟨out, kind, n, bs, at_⟩ ⟨k0, k4, n0, n8, hr, hv⟩
    simp only at k0 k4 n0 n8 hr hv
    simp only [spec_goodSignature.b0]
    refine ite_ok (fun h => ?_) (fun h => ?_)
    · obtain ⟨m, hm'⟩ : ∃ m : Nat, n.toNat = m + 1 := ⟨n.toNat - 1, by omega⟩
      have hm1 : (n - 1).toNat = m := by omega
      rw [hm'] at hr
      have hr1 : RO (5 * m + 4) (pickV ⟨bs, at_⟩ 3).2 := RO_pick (hr.le (by omega))
      obtain ⟨q1, q2, q3⟩ := gsKind_ok (n := 5 * m + 3) (hr.le (by omega)) k0 k4
      refine lj_ok (fun s => s = ((gsKind kind ⟨bs, at_⟩).1, (gsKind kind ⟨bs, at_⟩).2.bs, (gsKind kind ⟨bs, at_⟩).2.at_)) (fun J hJ => ?_) ?_
      · simp only [on_I_Rd, pickV_1]
        rw [gd_ok (hr.le (by omega))]
        refine ite_ok (fun c => ?_) (fun c => ?_)
        · refine ite_ok (fun c2 => ?_) (fun c2 => ?_)
          · obtain ⟨p1, p2⟩ := pickI_rng (hr1.le (by omega)) (n := 4 - kind) (by omega)
            rw [arr_ok (by omega), arr_ok (by omega), gd_ok (hr1.le (by omega))]
            have p1' : 0 ≤ pickI ⟨(pickV ⟨bs, at_⟩ 3).2.bs, (pickV ⟨bs, at_⟩ 3).2.at_⟩ (4 - kind) := p1
            have p2' : pickI ⟨(pickV ⟨bs, at_⟩ 3).2.bs, (pickV ⟨bs, at_⟩ 3).2.at_⟩ (4 - kind) < 4 - kind := p2
            rw [arr_ok (by omega)]
            exact hJ _ (by rw [gsKind, if_pos ⟨c, c2⟩])
          · exact hJ _ (by rw [gsKind, if_neg fun h => c2 h.2])
        · exact hJ _ (by rw [gsKind, if_neg fun h => c h.1])
      · rintro ⟨kd, bs1, at1⟩ hs
        simp only [Prod.mk.injEq] at hs
        obtain ⟨rfl, rfl, rfl⟩ := hs
        have er : gsGo n.toNat kind out ⟨bs, at_⟩ = gsGo m (gsNext (gsKind kind ⟨bs, at_⟩).1 (gsDflt ⟨(rOf (gsKind kind ⟨bs, at_⟩).2 sigNames).1, (gsKind kind ⟨bs, at_⟩).1, false, 0⟩ (rOf (gsKind kind ⟨bs, at_⟩).2 sigNames).2).1) (gsPut out (gsDflt ⟨(rOf (gsKind kind ⟨bs, at_⟩).2 sigNames).1, (gsKind kind ⟨bs, at_⟩).1, false, 0⟩ (rOf (gsKind kind ⟨bs, at_⟩).2 sigNames).2).1) (gsDflt ⟨(rOf (gsKind kind ⟨bs, at_⟩).2 sigNames).1, (gsKind kind ⟨bs, at_⟩).1, false, 0⟩ (rOf (gsKind kind ⟨bs, at_⟩).2 sigNames).2).2 := by rw [hm']; rfl
        rw [er]
        generalize gsKind kind ⟨bs, at_⟩ = kr at q1 q2 q3
        obtain ⟨kd, r1⟩ := kr
        simp only at q1 q2 q3
        have q4 : RO (5 * m + 2) (rOf r1 sigNames).2 := RO_of q1
        simp only [on_S_Rd, on_I_Rd, eta_Rd, pickV_1]
        rw [gd_ok ⟨q1.le (by omega), by decide, by decide⟩]
        show (gd (RO 1 (rOf r1 sigNames).2) _) = _
        rw [gd_ok (q4.le (by omega))]
        simp only [show rOf r1 [[97], [98], [99], [100], [120], [121], [112], [113], [97, 114, 103, 115], [107, 119]] = rOf r1 sigNames from rfl]
        generalize rOf r1 sigNames = nm at q4
        obtain ⟨name, r2⟩ := nm
        simp only at q4
        have q5 : RO (5 * m + 1) (pickV r2 3).2 := RO_pick q4
        have hfin := gsDflt_ok (p := ⟨name, kd, false, 0⟩) q4
        have h8 := (validParams_all hv).2.2
        have tail : ∀ (p : Param) (r' : Rd), gsDflt ⟨name, kd, false, 0⟩ r2 = (p, r') → ∀ J : Int → Option (Sig × Rd), (∀ nk, nk = gsNext kd p → J nk = some (⟨(gsGo m nk (gsPut out p) r').1⟩, (gsGo m nk (gsPut out p) r').2)) → (cn (singleP p) (J kd) (arr .i64 (kd + 1) fun v => if 4 < v then J 4 else J v)) = some (⟨(gsGo m (gsNext kd p) (gsPut out p) r').1⟩, (gsGo m (gsNext kd p) (gsPut out p) r').2) := by
          intro p r' hp' J hJ
          rw [cn_ite]
          refine ite_ok (fun c => ?_) (fun c => ?_)
          · have e : gsNext kd p = kd := by rw [gsNext, if_pos c]
            rw [hJ kd e.symm, e]
          · rw [arr_ok (by omega)]
            refine ite_ok (fun c2 => ?_) (fun c2 => ?_)
            · have e : gsNext kd p = 4 := by rw [gsNext, if_neg c, if_pos c2]
              rw [hJ 4 e.symm, e]
            · have e : gsNext kd p = kd + 1 := by rw [gsNext, if_neg c, if_neg c2]
              rw [hJ _ e.symm, e]
        have put : ∀ (p : Param) (r' : Rd), gsDflt ⟨name, kd, false, 0⟩ r2 = (p, r') → ∀ nk, nk = gsNext kd p → ∀ H : (List Param × Int × Int × List Int × Int) → Option (Sig × Rd), H = LI (fun s => 0 ≤ s.2.1 ∧ s.2.1 ≤ 4 ∧ 0 ≤ s.2.2.1 ∧ s.2.2.1 ≤ 8 ∧ RO (5 * s.2.2.1.toNat) ⟨s.2.2.2.1, s.2.2.2.2⟩ ∧ validParams s.1 = true) (fun s => s.2.2.1.toNat) (fun s => (⟨(gsGo s.2.2.1.toNat s.2.1 s.1 ⟨s.2.2.2.1, s.2.2.2.2⟩).1⟩, (gsGo s.2.2.1.toNat s.2.1 s.1 ⟨s.2.2.2.1, s.2.2.2.2⟩).2)) n.toNat →
            (on_LParam out fun v => gd ((v.length + 1) * 40 ≤ 140737488355328) (lv (v ++ [p]) fun w => cn (validParams w) (arr .i64 (n - 1) fun u => H (w, nk, u, r'.bs, r'.at_)) (arr .i64 (n - 1) fun u => H (out, nk, u, r'.bs, r'.at_)))) = some (⟨(gsGo m nk (gsPut out p) r').1⟩, (gsGo m nk (gsPut out p) r').2) := by
          rintro p r' hp' nk rfl H rfl
          rw [hp'] at hfin
          obtain ⟨g1, g2⟩ := gsNext_ok (p := p) q2 q3
          have fin : ∀ o, o = gsPut out p → (arr .i64 (n - 1) fun u => LI (fun s => 0 ≤ s.2.1 ∧ s.2.1 ≤ 4 ∧ 0 ≤ s.2.2.1 ∧ s.2.2.1 ≤ 8 ∧ RO (5 * s.2.2.1.toNat) ⟨s.2.2.2.1, s.2.2.2.2⟩ ∧ validParams s.1 = true) (fun s : List Param × Int × Int × List Int × Int => s.2.2.1.toNat) (fun s => ((⟨(gsGo s.2.2.1.toNat s.2.1 s.1 ⟨s.2.2.2.1, s.2.2.2.2⟩).1⟩ : Sig), (gsGo s.2.2.1.toNat s.2.1 s.1 ⟨s.2.2.2.1, s.2.2.2.2⟩).2)) n.toNat (o, gsNext kd p, u, r'.bs, r'.at_)) = some (⟨(gsGo m (gsNext kd p) (gsPut out p) r').1⟩, (gsGo m (gsNext kd p) (gsPut out p) r').2) := by
            rintro o rfl
            rw [arr_ok (by omega), LI_ok ⟨⟨g1, g2, by simp only; omega, by simp only; omega, by simp only [hm1]; exact hfin, gsPut_ok hv⟩, by simp only; omega⟩]
            simp only [hm1, eta_Rd]
          simp only [on_LParam, lv, cn_ite]
          rw [gd_ok (by omega)]
          refine ite_ok (fun c => fin _ (by rw [gsPut, if_pos c])) (fun c => fin _ (by rw [gsPut, if_neg c]))
        have no : ¬ (pickI r2 3 = 0 ∧ singleP ⟨name, kd, false, 0⟩ = true) → gsDflt ⟨name, kd, false, 0⟩ r2 = (⟨name, kd, false, 0⟩, (pickV r2 3).2) := fun h => by rw [gsDflt, if_neg h]
        have cp : ∀ f : List Param → Option (Sig × Rd), gd (out.length ≤ 1000) (on_LParam out f) = on_LParam out f := fun f => gd_ok (by omega)
        refine ite_ok (fun c => ?_) (fun c => ?_)
        · rw [cn_ite]
          refine ite_ok (fun c2 => ?_) (fun c2 => ?_)
          · have e : gsDflt ⟨name, kd, false, 0⟩ r2 = (⟨name, kd, true, (aNumberV (pickV r2 3).2).1⟩, (aNumberV (pickV r2 3).2).2) := by rw [gsDflt, if_pos ⟨c, c2⟩]
            rw [gd_ok (q5.le (by omega)), e]
            refine lj_ok (fun s => s = gsNext kd ⟨name, kd, true, (aNumberV (pickV r2 3).2).1⟩) (fun J hJ => tail _ _ e J fun nk h => by rw [hJ nk h, h]) fun nk h => ?_
            subst h
            rw [gd_ok (by omega)]
            exact put _ _ e _ rfl _ rfl
          · have e := no fun h => c2 h.2
            rw [e]
            refine lj_ok (fun s => s = gsNext kd ⟨name, kd, false, 0⟩) (fun J hJ => tail _ _ e J fun nk h => by rw [hJ nk h, h]) fun nk h => ?_
            subst h
            rw [gd_ok (by omega)]
            exact put _ _ e _ rfl _ rfl
        · have e := no fun h => c h.1
          rw [e]
          refine lj_ok (fun s => s = gsNext kd ⟨name, kd, false, 0⟩) (fun J hJ => tail _ _ e J fun nk h => by rw [hJ nk h, h]) fun nk h => ?_
          subst h
          rw [gd_ok (by omega)]
          exact put _ _ e _ rfl _ rfl
    · have hn : n = 0 := by omega
      subst hn
      rfl
  · simp only [spec_goodSignature.f]
    have h1 : RO 41 (pickV ⟨a1, a2⟩ 2).2 := RO_pick hp
    refine lj_ok (fun s => s = ((if pickI ⟨a1, a2⟩ 2 = 0 then 1 else 0), (pickV ⟨a1, a2⟩ 2).2.bs, (pickV ⟨a1, a2⟩ 2).2.at_)) (fun J hJ => ?_) ?_
    · simp only [on_I_Rd, pickV_1]
      rw [gd_ok (hp.le (by omega))]
      refine ite_ok (fun c => hJ _ (by rw [if_pos c])) (fun c => hJ _ (by rw [if_neg c]))
    · rintro ⟨kd, bs, at_⟩ hs
      simp only [Prod.mk.injEq] at hs
      obtain ⟨rfl, rfl, rfl⟩ := hs
      simp only [on_I_Rd, eta_Rd]
      rw [gd_ok ⟨h1.le (by omega), by decide, by decide⟩]
      obtain ⟨m1, m2⟩ := mem_rng (b := 8) (rOne_mem (l := [3, 4, 2, 5, 1, 0, 6, 8]) (h1.le (by omega)) (by decide)) rfl
      have hx := RO_one (n := 40) (l := [3, 4, 2, 5, 1, 0, 6, 8]) h1
      rw [EI_ok ⟨by simp only; split <;> omega, by simp only; split <;> omega, m1, m2, hx.le (by show 5 * (rOne (pickV ⟨_, a2⟩ 2).2 [3, 4, 2, 5, 1, 0, 6, 8]).1.toNat ≤ 40; omega), rfl⟩]
      rfl
end
end Go.Proofs.YtoofegkjdjlpkaaGreatDoor.M
