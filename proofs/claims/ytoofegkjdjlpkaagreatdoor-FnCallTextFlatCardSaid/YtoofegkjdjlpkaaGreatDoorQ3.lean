/- Generators: flat calls. -/
import Derived.Test.YtoofegkjdjlpkaaGreatDoorQ2
set_option linter.unusedVariables false
set_option linter.unusedSimpArgs false
set_option linter.unusedSectionVars false
namespace Go.Proofs.YtoofegkjdjlpkaaGreatDoor.M
open Go Go.Proofs
set_option maxRecDepth 100000
def placesV : Nat → List Int → Rd → List Int × Rd
  | 0, l, r => (l, r)
  | k + 1, l, r => placesV k (l ++ [(aNumberV r).1]) (aNumberV r).2
def pairsV : Nat → List Pair → Rd → List Pair × Rd
  | 0, l, r => (l, r)
  | k + 1, l, r => pairsV k (putPairV l ⟨(aNameV r).1, (aNumberV (aNameV r).2).1⟩) (aNumberV (aNameV r).2).2
def goodFlatV (r : Rd) : Flat × Rd :=
  let x := rOne r [2, 1, 3, 0, 4, 8]
  let p := placesV x.1.toNat [] x.2
  let y := rOne p.2 [1, 2, 0, 3, 0]
  let q := pairsV y.1.toNat [] y.2
  (⟨p.1, q.1⟩, q.2)
theorem RO_aNum {n : Nat} {r : Rd} (h : RO (n + 1) r) : RO n (aNumberV r).2 := RO_one h
theorem RO_aName {n : Nat} {r : Rd} (h : RO (n + 1) r) : RO n (aNameV r).2 := RO_of h
theorem placesV_ok : ∀ (k : Nat) (l : List Int) (r : Rd) (n : Nat), RO (n + k) r → RO n (placesV k l r).2 ∧ (placesV k l r).1.length = l.length + k
  | 0, l, r, n, h => ⟨h, rfl⟩
  | k + 1, l, r, n, h => by
    obtain ⟨h1, h2⟩ := placesV_ok k (l ++ [(aNumberV r).1]) _ n (RO_aNum (by rw [Nat.add_assoc]; exact h))
    exact ⟨h1, by rw [placesV, h2]; simp; omega⟩
theorem putPairV_len (l : List Pair) (p : Pair) : (putPairV l p).length ≤ l.length + 1 := by unfold putPairV; split <;> simp
theorem pairsV_ok : ∀ (k : Nat) (l : List Pair) (r : Rd) (n : Nat), RO (n + 2 * k) r → RO n (pairsV k l r).2 ∧ (pairsV k l r).1.length ≤ l.length + k
  | 0, l, r, n, h => ⟨h, Nat.le_refl _⟩
  | k + 1, l, r, n, h => by
    obtain ⟨h1, h2⟩ := pairsV_ok k (putPairV l ⟨(aNameV r).1, (aNumberV (aNameV r).2).1⟩) _ n (RO_aNum (RO_aName (by rw [show n + 2 * k + 1 + 1 = n + 2 * (k + 1) by omega]; exact h)))
    exact ⟨h1, Nat.le_trans h2 (by have := putPairV_len l ⟨(aNameV r).1, (aNumberV (aNameV r).2).1⟩; omega)⟩
theorem mem_rng {l : List Int} {n b : Int} (h : n ∈ l) (hl : l.all (fun x => decide (0 ≤ x ∧ x ≤ b)) = true) : 0 ≤ n ∧ n ≤ b := by
  rw [List.all_eq_true] at hl
  simpa using hl n h
section
variable {A : Bx} {P : Program} {G : Glob} {rg : Option Nat} {own : Nat} {o : Nat → EObj} {g : FuncId} {vs : List C} {sh : Bool} {K : C → List (Nat × EObj) → Prop} {R : Type} {r : R} {V : Vx} {v : (List Pair)} {f : (List Pair) → Option R}
theorem s_cFLPair (hV : IsV V) (hA : IsBx true rg P G A) (H : on_LPair v f = some r) (hok : FnOK P G g vs [] (.fr 2 (v.map ePair)) [] sh) (hc : vs.all closedArg = true) (h : ∀ c0, f c0 = some r → K (.ref (own + 0) ((o (own + 0)).gen + 1) 2 0 (V.nPair c0)) [(own + 0, ⟨(o (own + 0)).gen + 1, true, 2, .many (V.rPair c0)⟩)]) : A.call own o g vs K := by
  refine callT_plain hA hok hc ?_
  have := h (v) H
  rw [show V.nPair (v) = ((v).map ePair).length by rw [hV.nPair, List.length_map]] at this
  simp only [hV.rPair] at this
  exact this
theorem s_rFLPair {U : List C → List EObj → (C → List (Nat × EObj) → Prop) → Prop} {bs : List C} {ext : List EObj} (hU : U = callR P G own o g) (hV : IsV V) (H : on_LPair v f = some r) (hok : FnOK P G g bs (ext.map EObj.toObj) (.fr 2 (v.map ePair)) (ext.map EObj.toObj) false) (h : ∀ c0, f c0 = some r → K (.ref (own + 0) ((o (own + 0)).gen + 1) 2 0 (V.nPair c0)) [(own + 0, ⟨(o (own + 0)).gen + 1, true, 2, .many (V.rPair c0)⟩)]) : U bs ext K := by
  refine callR_of hU hok ?_
  have := h (v) H
  rw [show V.nPair (v) = ((v).map ePair).length by rw [hV.nPair, List.length_map]] at this
  simp only [hV.rPair] at this
  exact this
variable {U : List C → List Nat → (C → List (Nat × EObj) → Prop) → Prop} {bs : List C} {tops : List Nat}
end
noncomputable def spec_goodFlat.b1 (a1 : List Int) (a2 : Int) (x52 : List Int) (h1 : (Int × (List Int) × Int × (List Pair)) → Option (Flat × Rd)) (z_ : Flat × Rd) (x141 : Int) (x142 : List Int) (x143 : Int) (x144 : List Pair) : Option (Flat × Rd) := (if 0 < x141 then (gd (RO 1 ⟨x142, x143⟩) (on_S_Rd (aNameV (⟨x142, x143⟩)) fun v167 v168 v169 => (gd (RO 1 ⟨v168, v169⟩) (on_I_Rd (aNumberV (⟨v168, v169⟩)) fun v170 v171 v172 => (gd (x144.length ≤ 1000) (on_LPair (putPairV x144 (⟨v167, v170⟩)) fun v173 => (arr .i64 (x141 - 1) fun v174 => (h1 (v174, v171, v172, v173))))))))) else (some (⟨x52, x144⟩, ⟨x142, x143⟩)))
noncomputable def spec_goodFlat.b0 (a1 : List Int) (a2 : Int)  (h0 : (Int × (List Int) × Int × (List Int)) → Option (Flat × Rd)) (h1 : (List Int) → (Int × (List Int) × Int × (List Pair)) → Option (Flat × Rd)) (z_ : Flat × Rd) (x49 : Int) (x50 : List Int) (x51 : Int) (x52 : List Int) : Option (Flat × Rd) := (if 0 < x49 then (gd (RO 1 ⟨x50, x51⟩) (on_I_Rd (aNumberV (⟨x50, x51⟩)) fun v66 v67 v68 => (gd ((x52.length + 1) * 8 ≤ 140737488355328) (lv (x52 ++ [v66]) fun v69 => (arr .i64 (x49 - 1) fun v70 => (h0 (v70, v67, v68, v69))))))) else (gd (RO 1 ⟨x50, x51⟩ ∧ 1 ≤ (([1, 2, 0, 3, 0] : List Int)).length ∧ (([1, 2, 0, 3, 0] : List Int)).length ≤ 1000) (on_I_Rd (rOne (⟨x50, x51⟩) ([1, 2, 0, 3, 0])) fun v123 v124 v125 => (h1 x52 (v123, v124, v125, [])))))
noncomputable def spec_goodFlat.f (a1 : List Int) (a2 : Int) (h0 : (Int × (List Int) × Int × (List Int)) → Option (Flat × Rd)) (z_ : Flat × Rd) : Option (Flat × Rd) := (gd (RO 1 ⟨a1, a2⟩ ∧ 1 ≤ (([2, 1, 3, 0, 4, 8] : List Int)).length ∧ (([2, 1, 3, 0, 4, 8] : List Int)).length ≤ 1000) (on_I_Rd (rOne (⟨a1, a2⟩) ([2, 1, 3, 0, 4, 8])) fun v37 v38 v39 => (h0 (v37, v38, v39, []))))
theorem pin_spec_goodFlat {e : ESt} {ns : List (Nat × Nat)} {ps : List (Nat × C)} {os : List (Nat × EObj)} (hs : pinPZ (pinZ e.o (os.map Prod.fst) ns) e.s ps := by first | (cbv <;> (repeat' (first | trivial | refine And.intro ?_ ?_)) <;> (first | rfl | assumption | omega | exact clI hV _ | exact clIu8 hV _ | exact clPair hV _ | with_unfolding_all exact hV.nI [] | with_unfolding_all exact (hV.nI []).symm | with_unfolding_all exact hV.nIu8 [] | with_unfolding_all exact (hV.nIu8 []).symm | with_unfolding_all exact hV.nPair [] | with_unfolding_all exact (hV.nPair []).symm | with_unfolding_all exact hV.rI _ | with_unfolding_all exact hV.rIu8 _ | with_unfolding_all exact hV.rPair _ | with_unfolding_all exact (hV.nI _).trans (Eq.trans (by simp only [hV.nI] at *; omega) (hV.nI _).symm) | with_unfolding_all exact (hV.nIu8 _).trans (Eq.trans (by simp only [hV.nIu8] at *; omega) (hV.nIu8 _).symm) | with_unfolding_all exact (hV.nPair _).trans (Eq.trans (by simp only [hV.nPair] at *; omega) (hV.nPair _).symm) | simp [closedCell])) | fail) (ho : ∀ B : (Nat → EObj) → List (List C) → List (List C) → Prop, (∀ o rows rows', rowsZ (pinZ o (os.map Prod.fst) ns) rows rows' → B o rows rows') → pinOZ (pinZ e.o (os.map Prod.fst) ns) B e.o ns os := by intro B hB; first | (cbv <;> (repeat' (first | trivial | refine And.intro ?_ ?_ | refine pin_same hB ?_ | refine pin_nil hB ?_ | refine pin_dirty hB (by assumption) (by assumption) ?_ ?_ | exact pinL_n | refine pinL_c ?_ ?_ | exact pzr rfl rfl rfl (nrI hV _) (clI hV _) | exact pzr rfl rfl rfl (nrIu8 hV _) (clIu8 hV _) | exact pzr rfl rfl rfl (nrPair hV _) (clPair hV _) | (refine pz_go ?_; cbv) | (refine pinL_go ?_; cbv))) <;> (first | exact clI hV _ | exact clIu8 hV _ | exact clPair hV _ | with_unfolding_all exact hV.rI _ | with_unfolding_all exact hV.rIu8 _ | with_unfolding_all exact hV.rPair _ | with_unfolding_all exact hV.nI [] | with_unfolding_all exact (hV.nI []).symm | with_unfolding_all exact hV.nIu8 [] | with_unfolding_all exact (hV.nIu8 []).symm | with_unfolding_all exact hV.nPair [] | with_unfolding_all exact (hV.nPair []).symm | assumption | omega | rfl | with_unfolding_all exact (hV.nI _).trans (Eq.trans (by simp only [hV.nI] at *; omega) (hV.nI _).symm) | with_unfolding_all exact (hV.nIu8 _).trans (Eq.trans (by simp only [hV.nIu8] at *; omega) (hV.nIu8 _).symm) | with_unfolding_all exact (hV.nPair _).trans (Eq.trans (by simp only [hV.nPair] at *; omega) (hV.nPair _).symm) | simp [closedCell])) | fail) : PinnedZ e ns ps os := ⟨hs, ho⟩
section
variable {G : Glob} (hm : pg.follows .mixedOrders = true) (hz : ∀ T, ∀ c ∈ (ttOf pg T).zero, Bd c) (hG : GF G)
include hm hz hG
set_option maxHeartbeats 8000000 in
theorem spec_goodFlat.w {a1 : List Int} {a2 : Int} (inv0 : (Int × (List Int) × Int × (List Int)) → Prop) (mu0 : (Int × (List Int) × Int × (List Int)) → Nat) (res0 : (Int × (List Int) × Int × (List Int)) → Flat × Rd) (inv1 : (List Int) → (Int × (List Int) × Int × (List Pair)) → Prop) (mu1 : (List Int) → (Int × (List Int) × Int × (List Pair)) → Nat) (res1 : (List Int) → (Int × (List Int) × Int × (List Pair)) → Flat × Rd) (hb0 : ∀ (s_ : Int × (List Int) × Int × (List Int)), inv0  s_ → spec_goodFlat.b0 a1 a2  (LI (inv0 ) (mu0 ) (res0 ) (mu0  s_)) (fun x52 => EI (inv1 x52) (mu1 x52) (res1 x52)) (res0  s_) s_.1 s_.2.1 s_.2.2.1 s_.2.2.2 = some (res0  s_)) (hb1 : ∀ (x52 : List Int), ∀ (s_ : Int × (List Int) × Int × (List Pair)), inv1 x52 s_ → spec_goodFlat.b1 a1 a2 x52 (LI (inv1 x52) (mu1 x52) (res1 x52) (mu1 x52 s_)) (res1 x52 s_) s_.1 s_.2.1 s_.2.2.1 s_.2.2.2 = some (res1 x52 s_)) {r : Flat × Rd} (H : spec_goodFlat.f a1 a2 (EI (inv0 ) (mu0 ) (res0 )) r = some r) : FnOK pg G 149 [.ptr 0 0 2 0 0] (([⟨0, true, 2, .one [.sl (a1.map eIu8), .int .i64 a2]⟩] : List EObj).map EObj.toObj) (.agg [.fr 1 ((r.1.places).map eI), .fr 2 ((r.1.names).map ePair)]) (([⟨0, true, 2, .one [.sl ((r.2.bs).map eIu8), .int .i64 (r.2.at_)]⟩] : List EObj).map EObj.toObj) true := by
  obtain ⟨V, hV⟩ := exV
  have e0_I : V.rI [] = [] := hV.rI []
  have e1_I : ∀ x r, V.rI (x :: r) = eI x :: V.rI r := fun x r => by rw [hV.rI, hV.rI]; rfl
  have e0_Iu8 : V.rIu8 [] = [] := hV.rIu8 []
  have e1_Iu8 : ∀ x r, V.rIu8 (x :: r) = eIu8 x :: V.rIu8 r := fun x r => by rw [hV.rIu8, hV.rIu8]; rfl
  have e0_Pair : V.rPair [] = [] := hV.rPair []
  have e1_Pair : ∀ x r, V.rPair (x :: r) = ePair x :: V.rPair r := fun x r => by rw [hV.rPair, hV.rPair]; rfl
  simp only [← hV.rI, ← hV.rIu8, ← hV.rPair]
  refine fn_okW (tt0 := tyG [ty3, ty4, ty9, ty36, ty37, ty39, ty80, ty90]) (fn := Tryz.f149) (body := bodyOf Tryz.f149) (ext := [⟨0, true, 2, .one [.sl (V.rIu8 a1), .int .i64 a2]⟩]) (ext' := [⟨0, true, 2, .one [.sl (V.rIu8 (r.2.bs)), .int .i64 (r.2.at_)]⟩]) hm (tyG_sub ⟨tt3, tt4, tt9, tt36, tt37, tt39, tt80, tt90, trivial⟩) hz 0 true [] (by unfold pg; exact Tryz.func149) rfl rfl (by simp [Tryz.f149]) (by simp [EObj.toObj]) (by cbv) ?_
  intro A F hA hF
  unfold spec_goodFlat.f at H
  cbv
  repeat' (first
    | (with_reducible refine s_gd H (fun hg H => ?_))
    | (cases H; (try simp only [e0_I, e0_Iu8, e0_Pair, e1_I, eI, e1_Iu8, eIu8, e1_Pair, ePair] at hF); with_reducible refine fin_WO hF rfl (by simp [expIds, posCells, C.cells, idOf]) ?_ ?_ (by with_unfolding_all exact ⟨by first | (cbv <;> rfl) | fail, rfl, rfl, rfl, rfl, (by intro z hz; simp [ED.rows] at hz; subst hz; rfl), trivial⟩) <;> cbv)
    | (with_reducible refine s_lt H (fun H => ?_) (fun H => ?_) <;> cbv)
    | (with_reducible refine s_le H (fun H => ?_) (fun H => ?_) <;> cbv)
    | (with_reducible refine s_eq H (fun H => ?_) (fun H => ?_) <;> cbv)
    | (with_reducible refine s_ne H (fun H => ?_) (fun H => ?_) <;> cbv)
    | (with_reducible refine s_ar H (fun _ H => ?_); cbv)
    | (with_reducible refine s_apI hV H (fun _ H => ?_); cbv)
    | (with_reducible refine s_apL hV.rI hV.nI H (fun _ H => ?_); cbv)
    | (with_reducible refine s_apIu8 hV H (fun _ H => ?_); cbv)
    | (with_reducible refine s_apL hV.rIu8 hV.nIu8 H (fun _ H => ?_); cbv)
    | (with_reducible refine s_apPair hV H (fun _ H => ?_); cbv)
    | (with_reducible refine s_apL hV.rPair hV.nPair H (fun _ H => ?_); cbv)
    | (with_reducible refine s_lv H (fun _ H => ?_); cbv)
    | (with_reducible refine s_loop hA H (fun s h => hb0  s h) [0, 2, 3] [128, 448] (fun e s => [(4, .int .i64 (s.1))]) (fun e s => [ovO e 0 [(0, .sl (V.rIu8 (s.2.1))), (1, .int .i64 (s.2.2.1))], ovO e 192 [(0, .ref 384 0 1 0 (V.nI (s.2.2.2)))], (384, ⟨0, true, 1, .many (V.rI (s.2.2.2))⟩)]) [] pin_spec_goodFlat nbOf ?_; rintro ⟨x49, x50, x51, x52⟩ H; unfold spec_goodFlat.b0 at H; (try dsimp only at H); cbv)
    | (with_reducible refine s_loop hA H (fun s h => hb1 _ s h) [0, 2, 3] [128, 384] (fun e s => [(5, .int .i64 (s.1))]) (fun e s => [ovO e 0 [(0, .sl (V.rIu8 (s.2.1))), (1, .int .i64 (s.2.2.1))], ovO e 192 [(1, .ref 448 0 2 0 (V.nPair (s.2.2.2)))], (448, ⟨0, true, 2, .many (V.rPair (s.2.2.2))⟩)]) [] pin_spec_goodFlat nbOf ?_; rintro ⟨x141, x142, x143, x144⟩ H; unfold spec_goodFlat.b1 at H; (try dsimp only at H); cbv)
    | (with_reducible refine s_next H pin_spec_goodFlat nbOf)
    | (with_reducible refine s_nextM [(2368, 448)] rfl H pin_spec_goodFlat nbOf)
    | (with_reducible refine s_vI_Rd_1 hV (by assumption) H (by (try simp only [hV.rI, hV.rIu8, hV.rPair]); (first | (have hk_ := spec_reader_one.ok hm hz hG hg; with_unfolding_all exact hk_) | (with_unfolding_all exact spec_reader_one.ok hm hz hG (by first | assumption | omega)))) (by first | (cbv <;> (repeat' (first | trivial | refine And.intro ?_ ?_)) <;> (first | rfl | exact clI hV _ | with_unfolding_all exact clIu8 hV _ | with_unfolding_all exact clPair hV _ | simp [closedCell])) | fail) (fun _ _ _ H => ?_); cbv)
    | (with_reducible refine s_vI_Rd_1 hV (by assumption) H (by (try simp only [hV.rI, hV.rIu8, hV.rPair]); (first | (have hk_ := spec_aNumber.ok hm hz hG hg; with_unfolding_all exact hk_) | (with_unfolding_all exact spec_aNumber.ok hm hz hG (by first | assumption | omega)))) (by first | (cbv <;> (repeat' (first | trivial | refine And.intro ?_ ?_)) <;> (first | rfl | exact clI hV _ | with_unfolding_all exact clIu8 hV _ | with_unfolding_all exact clPair hV _ | simp [closedCell])) | fail) (fun _ _ _ H => ?_); cbv)
    | (with_reducible refine s_vS_Rd_1 hV (by assumption) H (by (try simp only [hV.rI, hV.rIu8, hV.rPair]); (first | (have hk_ := spec_aName.ok hm hz hG hg; with_unfolding_all exact hk_) | (with_unfolding_all exact spec_aName.ok hm hz hG (by first | assumption | omega)))) (by first | (cbv <;> (repeat' (first | trivial | refine And.intro ?_ ?_)) <;> (first | rfl | exact clI hV _ | with_unfolding_all exact clIu8 hV _ | with_unfolding_all exact clPair hV _ | simp [closedCell])) | fail) (fun _ _ _ H => ?_); cbv)
    | (with_reducible refine s_cFLPair hV hA H (by (try simp only [hV.rI, hV.rIu8, hV.rPair]); (first | (have hk_ := spec_putPair.ok hm hz hG hg; with_unfolding_all exact hk_) | (with_unfolding_all exact spec_putPair.ok hm hz hG (by first | assumption | omega)))) rfl (fun _ H => ?_); cbv)
    | (with_reducible refine s_rFLPair (by assumption) hV H (by (try simp only [hV.rI, hV.rIu8, hV.rPair]); (first | (have hk_ := spec_putPair.ok hm hz hG hg; with_unfolding_all exact hk_) | (with_unfolding_all exact spec_putPair.ok hm hz hG (by first | assumption | omega)))) (fun _ H => ?_); cbv)
    | (with_reducible refine callT_wp hA rfl (fun U hU => ?_); cbv)
    | (with_reducible refine callT_cl hA (fun U hU => ?_); cbv)
    | (with_reducible refine indep_of hA ?_; cbv)
    | ((with_reducible refine side ?_); exact sideOf)
    | (with_reducible refine s_tkG hV.rI hV.nI ?_; cbv)
    | (with_reducible refine s_tkG hV.rIu8 hV.nIu8 ?_; cbv)
    | (with_reducible refine s_tkG hV.rPair hV.nPair ?_; cbv)
    | (with_reducible refine s_tk1 ?_; cbv)
    | (with_reducible refine s_eqL ?_; cbv)
    | (with_reducible refine And.intro ?_ ?_)
    | (intro ys hys; subst hys; rfl)
    | rfl
    | (first | exact True.intro | omega | exact clI hV _ | exact clIu8 hV _ | exact clPair hV _)
    | (intro h_; cases h_; done)
    | (with_reducible refine s_pl ?_; with_unfolding_all simp [plainV, plainA, plainC, plRI hV, plRIu8 hV, plRPair hV])
    | (intro ys hys; subst hys))
end
section
variable {G : Glob} (hm : pg.follows .mixedOrders = true) (hz : ∀ T, ∀ c ∈ (ttOf pg T).zero, Bd c) (hG : GF G)
include hm hz hG
theorem spec_goodFlat.ok {a1 : List Int} {a2 : Int} (hp : RO 16 ⟨a1, a2⟩) : FnOK pg G 149 [.ptr 0 0 2 0 0] (([⟨0, true, 2, .one [.sl (a1.map eIu8), .int .i64 a2]⟩] : List EObj).map EObj.toObj) (.agg [.fr 1 (((goodFlatV ⟨a1, a2⟩).1.places).map eI), .fr 2 (((goodFlatV ⟨a1, a2⟩).1.names).map ePair)]) (([⟨0, true, 2, .one [.sl (((goodFlatV ⟨a1, a2⟩).2.bs).map eIu8), .int .i64 ((goodFlatV ⟨a1, a2⟩).2.at_)]⟩] : List EObj).map EObj.toObj) true := by
  let R1 : List Int → List Pair → Int → Rd → Flat × Rd := fun p q n r => (⟨p, (pairsV n.toNat q r).1⟩, (pairsV n.toNat q r).2)
  let R0 : List Int → Int → Rd → Flat × Rd := fun p n r => let x := placesV n.toNat p r; let y := rOne x.2 [1, 2, 0, 3, 0]; R1 x.1 [] y.1 y.2
  refine @spec_goodFlat.w G hm hz hG a1 a2 (fun s => 0 ≤ s.1 ∧ s.1 ≤ 8 ∧ RO (7 + s.1.toNat) ⟨s.2.1, s.2.2.1⟩ ∧ s.2.2.2.length + s.1.toNat ≤ 8) (fun s => s.1.toNat) (fun s => R0 s.2.2.2 s.1 ⟨s.2.1, s.2.2.1⟩)
    (fun _ s => 0 ≤ s.1 ∧ s.1 ≤ 3 ∧ RO (2 * s.1.toNat) ⟨s.2.1, s.2.2.1⟩ ∧ s.2.2.2.length + s.1.toNat ≤ 3) (fun _ s => s.1.toNat) (fun p s => R1 p s.2.2.2 s.1 ⟨s.2.1, s.2.2.1⟩) ?_ ?_ _ ?_
  · rintro ⟨n, bs, at_, p⟩ ⟨h0, h8, hr, hl⟩
    simp only at h0 h8 hr hl
    simp only [spec_goodFlat.b0]
    refine ite_ok (fun h => ?_) (fun h => ?_)
    · obtain ⟨k, hk⟩ : ∃ k : Nat, n.toNat = k + 1 := ⟨n.toNat - 1, by omega⟩
      have hk1 : (n - 1).toNat = k := by omega
      rw [hk] at hr hl
      rw [gd_ok (hr.le (by omega))]
      simp only [on_I_Rd, lv]
      rw [gd_ok (by omega), arr_ok (by omega), LI_ok ⟨⟨by omega, by omega, by rw [hk1]; exact RO_aNum hr, by rw [hk1]; simp; omega⟩, by simp only; omega⟩]
      simp only [R0, hk, hk1, placesV, eta_Rd]
    · have hn : n = 0 := by omega
      subst hn
      have hr : RO 7 ⟨bs, at_⟩ := hr.le (by omega)
      rw [gd_ok ⟨hr.le (by omega), by decide, by decide⟩]
      simp only [on_I_Rd]
      obtain ⟨m1, m2⟩ := mem_rng (b := 3) (rOne_mem (l := [1, 2, 0, 3, 0]) (hr.le (by omega)) (by decide)) rfl
      have hx := RO_one (n := 6) (l := [1, 2, 0, 3, 0]) hr
      rw [EI_ok ⟨m1, m2, hx.le (by omega), by simp; omega⟩]
      rfl
  · rintro p ⟨n, bs, at_, q⟩ ⟨h0, h8, hr, hl⟩
    simp only at h0 h8 hr hl
    simp only [spec_goodFlat.b1]
    refine ite_ok (fun h => ?_) (fun h => ?_)
    · obtain ⟨k, hk⟩ : ∃ k : Nat, n.toNat = k + 1 := ⟨n.toNat - 1, by omega⟩
      have hk1 : (n - 1).toNat = k := by omega
      rw [hk] at hr hl
      rw [gd_ok (hr.le (by omega))]
      simp only [on_S_Rd, on_I_Rd, on_LPair]
      have hr1 : RO (2 * k + 1) (aNameV ⟨bs, at_⟩).2 := RO_aName hr
      rw [gd_ok (hr1.le (by omega)), gd_ok (by omega), arr_ok (by omega), LI_ok ⟨⟨by omega, by omega, by rw [hk1]; exact RO_aNum hr1, by rw [hk1]; have := putPairV_len q ⟨(aNameV ⟨bs, at_⟩).1, (aNumberV (aNameV ⟨bs, at_⟩).2).1⟩; simp only [eta_Rd] at this ⊢; omega⟩, by simp only; omega⟩]
      simp only [R1, hk, hk1, pairsV, eta_Rd]
    · have hn : n = 0 := by omega
      subst hn
      rfl
  · simp only [spec_goodFlat.f]
    rw [gd_ok ⟨hp.le (by omega), by decide, by decide⟩]
    simp only [on_I_Rd]
    obtain ⟨m1, m2⟩ := mem_rng (b := 8) (rOne_mem (l := [2, 1, 3, 0, 4, 8]) (hp.le (by omega)) (by decide)) rfl
    have hx := RO_one (n := 15) (l := [2, 1, 3, 0, 4, 8]) hp
    rw [EI_ok ⟨m1, m2, hx.le (by omega), by simp; omega⟩]
    rfl
end
theorem goodFlatV_ok {n : Nat} {r : Rd} (h : RO (n + 16) r) : RO n (goodFlatV r).2 ∧ (goodFlatV r).1.places.length ≤ 8 ∧ (goodFlatV r).1.names.length ≤ 3 := by
  obtain ⟨m1, m2⟩ := mem_rng (b := 8) (rOne_mem (l := [2, 1, 3, 0, 4, 8]) (h.le (by omega)) (by decide)) rfl
  have h1 : RO (n + 15) (rOne r [2, 1, 3, 0, 4, 8]).2 := RO_one h
  obtain ⟨h2, h3⟩ := placesV_ok (rOne r [2, 1, 3, 0, 4, 8]).1.toNat [] _ (n + 7) (h1.le (by omega))
  have h4 : RO (n + 6) (rOne (placesV (rOne r [2, 1, 3, 0, 4, 8]).1.toNat [] (rOne r [2, 1, 3, 0, 4, 8]).2).2 [1, 2, 0, 3, 0]).2 := RO_one h2
  obtain ⟨m3, m4⟩ := mem_rng (b := 3) (rOne_mem (l := [1, 2, 0, 3, 0]) (h2.le (by omega)) (by decide)) rfl
  obtain ⟨h5, h6⟩ := pairsV_ok (rOne (placesV (rOne r [2, 1, 3, 0, 4, 8]).1.toNat [] (rOne r [2, 1, 3, 0, 4, 8]).2).2 [1, 2, 0, 3, 0]).1.toNat [] _ n (h4.le (by omega))
  refine ⟨h5, ?_, ?_⟩
  · show (placesV _ _ _).1.length ≤ 8; rw [h3]; simp; omega
  · show (pairsV _ _ _).1.length ≤ 3; simp at h6; omega
end Go.Proofs.YtoofegkjdjlpkaaGreatDoor.M
