/- Generators: calls; the law FnParseCall. -/
import Derived.Test.YtoofegkjdjlpkaaGreatDoorQ6
set_option linter.unusedVariables false
set_option linter.unusedSimpArgs false
set_option linter.unusedSectionVars false
namespace Go.Proofs.YtoofegkjdjlpkaaGreatDoor.M
open Go Go.Proofs
set_option maxRecDepth 100000
theorem aNum_val {r : Rd} (h : RO 1 r) : isValue (aNumberV r).1 = true := by
  have hm : (aNumberV r).1 ∈ numsA := rOne_mem h (by decide)
  have : numsA.all isValue = true := by decide
  rw [List.all_eq_true] at this; exact this _ hm
theorem aName_val {r : Rd} (h : RO 1 r) : isName (aNameV r).1 = true := by
  have hm : (aNameV r).1 ∈ namesA := rOf_mem h (by decide)
  have : namesA.all isName = true := by decide
  rw [List.all_eq_true] at this; exact this _ hm
theorem placesV_vals : ∀ (k : Nat) (l : List Int) (r : Rd), RO k r → areValues l = true → areValues (placesV k l r).1 = true
  | 0, l, r, _, h => h
  | k + 1, l, r, hr, h => placesV_vals k _ _ (RO_aNum hr) (by simp only [areValues, List.all_append, List.all_cons, List.all_nil, Bool.and_true, Bool.and_eq_true]; exact ⟨h, aNum_val (hr.le (by omega))⟩)
theorem putPairV_val {l : List Pair} {p : Pair} (h : validPairs l = true) (hp : validPair p = true) : validPairs (putPairV l p) = true := by
  unfold validPairs at *
  rw [List.all_eq_true] at *
  intro x hx
  unfold putPairV at hx
  split at hx
  · rcases List.mem_or_eq_of_mem_set hx with h1 | h1
    · exact h x h1
    · rw [h1]; exact hp
  · rcases List.mem_append.1 hx with h1 | h1
    · exact h x h1
    · simp at h1; rw [h1]; exact hp
theorem pairsV_vals : ∀ (k : Nat) (l : List Pair) (r : Rd), RO (2 * k) r → validPairs l = true → validPairs (pairsV k l r).1 = true
  | 0, l, r, _, h => h
  | k + 1, l, r, hr, h => pairsV_vals k _ _ (RO_aNum (RO_aName (hr.le (by omega)))) (putPairV_val h (by
      simp only [validPair, Bool.and_eq_true]; exact ⟨aName_val (hr.le (by omega)), aNum_val (RO_aName (hr.le (by omega)))⟩))
theorem goodFlatV_vals {r : Rd} (h : RO 16 r) : areValues (goodFlatV r).1.places = true ∧ validPairs (goodFlatV r).1.names = true := by
  obtain ⟨m1, m2⟩ := mem_rng (b := 8) (rOne_mem (l := [2, 1, 3, 0, 4, 8]) (h.le (by omega)) (by decide)) rfl
  have h1 : RO 15 (rOne r [2, 1, 3, 0, 4, 8]).2 := RO_one h
  obtain ⟨h2, h3⟩ := placesV_ok (rOne r [2, 1, 3, 0, 4, 8]).1.toNat [] _ 7 (h1.le (by omega))
  have h4 : RO 6 (rOne (placesV (rOne r [2, 1, 3, 0, 4, 8]).1.toNat [] (rOne r [2, 1, 3, 0, 4, 8]).2).2 [1, 2, 0, 3, 0]).2 := RO_one h2
  obtain ⟨m3, m4⟩ := mem_rng (b := 3) (rOne_mem (l := [1, 2, 0, 3, 0]) (h2.le (by omega)) (by decide)) rfl
  exact ⟨placesV_vals _ _ _ (h1.le (by omega)) rfl, pairsV_vals _ _ _ (h4.le (by omega)) rfl⟩
def starsV : Nat → List Arg → Rd → List Arg × Rd
  | 0, l, r => (l, r)
  | k + 1, l, r => if pickI r 3 = 0 then starsV k (l ++ [⟨1, [], (goodFlatV (pickV r 3).2).1.places, []⟩]) (goodFlatV (pickV r 3).2).2
    else starsV k (l ++ [⟨0, [], [(aNumberV (pickV r 3).2).1], []⟩]) (aNumberV (pickV r 3).2).2
def mapsV : Nat → List Arg → Rd → List Arg × Rd
  | 0, l, r => (l, r)
  | k + 1, l, r => if pickI r 3 = 0 then mapsV k (l ++ [⟨3, [], [], (goodFlatV (pickV r 3).2).1.names⟩]) (goodFlatV (pickV r 3).2).2
    else mapsV k (l ++ [⟨2, (aNameV (pickV r 3).2).1, [(aNumberV (aNameV (pickV r 3).2).2).1], []⟩]) (aNumberV (aNameV (pickV r 3).2).2).2
def goodCallV (r : Rd) : Cal × Rd :=
  let x := rOne r [2, 1, 3, 0]
  let p := starsV x.1.toNat [] x.2
  let y := rOne p.2 [2, 1, 0, 3]
  let q := mapsV y.1.toNat p.1 y.2
  (⟨q.1⟩, q.2)
def isStar (a : Arg) : Bool := validArg a && !byN a
def isMapA (a : Arg) : Bool := validArg a && byN a
theorem starsV_ok : ∀ (k : Nat) (l : List Arg) (r : Rd) (n : Nat), RO (n + 17 * k) r → l.all isStar = true → RO n (starsV k l r).2 ∧ (starsV k l r).1.length = l.length + k ∧ (starsV k l r).1.all isStar = true
  | 0, l, r, n, h, hl => ⟨h, rfl, hl⟩
  | k + 1, l, r, n, h, hl => by
    have h1 : RO (n + 17 * k + 16) (pickV r 3).2 := RO_pick (h.le (by omega))
    unfold starsV
    split
    · obtain ⟨g1, g2, g3⟩ := goodFlatV_ok h1
      obtain ⟨v1, v2⟩ := goodFlatV_vals (h1.le (by omega))
      obtain ⟨q1, q2, q3⟩ := starsV_ok k _ _ n g1 (show (l ++ [(⟨1, [], (goodFlatV (pickV r 3).2).1.places, []⟩ : Arg)]).all isStar = true by
        rw [List.all_append, hl]; simp only [List.all_cons, List.all_nil, isStar, validArg, byN, v1]; simp; omega)
      exact ⟨q1, by rw [q2]; simp; omega, q3⟩
    · have v1 := aNum_val (r := (pickV r 3).2) (h1.le (by omega))
      obtain ⟨q1, q2, q3⟩ := starsV_ok k _ _ n ((RO_aNum (n := n + 17 * k + 15) h1).le (by omega)) (show (l ++ [(⟨0, [], [(aNumberV (pickV r 3).2).1], []⟩ : Arg)]).all isStar = true by
        rw [List.all_append, hl]; simp [isStar, validArg, byN, areValues, v1])
      exact ⟨q1, by rw [q2]; simp; omega, q3⟩
theorem mapsV_ok : ∀ (k : Nat) (l : List Arg) (r : Rd) (n : Nat), RO (n + 17 * k) r → RO n (mapsV k l r).2 ∧ (mapsV k l r).1.length = l.length + k ∧ ∃ m, (mapsV k l r).1 = l ++ m ∧ m.all isMapA = true
  | 0, l, r, n, h => ⟨h, rfl, [], by simp [mapsV], rfl⟩
  | k + 1, l, r, n, h => by
    have h1 : RO (n + 17 * k + 16) (pickV r 3).2 := RO_pick (h.le (by omega))
    unfold mapsV
    split
    · obtain ⟨g1, g2, g3⟩ := goodFlatV_ok h1
      obtain ⟨v1, v2⟩ := goodFlatV_vals (h1.le (by omega))
      obtain ⟨q1, q2, m, q3, q4⟩ := mapsV_ok k (l ++ [⟨3, [], [], (goodFlatV (pickV r 3).2).1.names⟩]) _ n g1
      refine ⟨q1, by rw [q2]; simp; omega, _ :: m, by rw [q3, List.append_assoc]; rfl, ?_⟩
      rw [List.all_cons, q4]; simp [isMapA, validArg, byN, v2]; omega
    · have h2 : RO (n + 17 * k + 15) (aNameV (pickV r 3).2).2 := RO_aName h1
      have v1 := aName_val (r := (pickV r 3).2) (h1.le (by omega))
      have v2 := aNum_val (r := (aNameV (pickV r 3).2).2) (h2.le (by omega))
      obtain ⟨q1, q2, m, q3, q4⟩ := mapsV_ok k (l ++ [⟨2, (aNameV (pickV r 3).2).1, [(aNumberV (aNameV (pickV r 3).2).2).1], []⟩]) _ n ((RO_aNum (n := n + 17 * k + 14) h2).le (by omega))
      refine ⟨q1, by rw [q2]; simp; omega, _ :: m, by rw [q3, List.append_assoc]; rfl, ?_⟩
      rw [List.all_cons, q4]; simp [isMapA, validArg, byN, areValues, v1, v2]
theorem callGo_maps : ∀ {m : List Arg} {p : Bool}, m.all isMapA = true → callGo p m = true
  | [], _, _ => rfl
  | a :: r, p, h => by
    rw [List.all_cons, Bool.and_eq_true] at h
    obtain ⟨h1, h2⟩ := h
    simp only [isMapA, Bool.and_eq_true] at h1
    simp only [callGo, Bool.and_eq_true]
    exact ⟨⟨h1.1, by rw [h1.2]; simp⟩, callGo_maps h2⟩
theorem callGo_stars : ∀ {l m : List Arg}, l.all isStar = true → m.all isMapA = true → callGo false (l ++ m) = true
  | [], m, _, h => callGo_maps h
  | a :: r, m, h, hm => by
    rw [List.all_cons, Bool.and_eq_true] at h
    obtain ⟨h1, h2⟩ := h
    simp only [isStar, Bool.and_eq_true, Bool.not_eq_true'] at h1
    simp only [List.cons_append, callGo, Bool.and_eq_true]
    exact ⟨⟨h1.1, rfl⟩, by rw [h1.2]; exact callGo_stars h2 hm⟩
theorem goodCallV_ok {n : Nat} {r : Rd} (h : RO (n + 104) r) : RO n (goodCallV r).2 ∧ validCall (goodCallV r).1 = true := by
  obtain ⟨m1, m2⟩ := mem_rng (b := 3) (rOne_mem (l := [2, 1, 3, 0]) (h.le (by omega)) (by decide)) rfl
  have h1 : RO (n + 103) (rOne r [2, 1, 3, 0]).2 := RO_one h
  obtain ⟨h2, h3, h4⟩ := starsV_ok (rOne r [2, 1, 3, 0]).1.toNat [] _ (n + 52) (h1.le (by omega)) rfl
  have h5 : RO (n + 51) (rOne (starsV (rOne r [2, 1, 3, 0]).1.toNat [] (rOne r [2, 1, 3, 0]).2).2 [2, 1, 0, 3]).2 := RO_one h2
  obtain ⟨m3, m4⟩ := mem_rng (b := 3) (rOne_mem (l := [2, 1, 0, 3]) (h2.le (by omega)) (by decide)) rfl
  obtain ⟨h6, h7, m, h8, h9⟩ := mapsV_ok (rOne (starsV (rOne r [2, 1, 3, 0]).1.toNat [] (rOne r [2, 1, 3, 0]).2).2 [2, 1, 0, 3]).1.toNat (starsV (rOne r [2, 1, 3, 0]).1.toNat [] (rOne r [2, 1, 3, 0]).2).1 _ n (h5.le (by omega))
  refine ⟨h6, ?_⟩
  show (callGo false (mapsV _ _ _).1 && decide (((mapsV _ _ _).1.length : Int) ≤ 16)) = true
  rw [h8, callGo_stars h4 h9, ← h8, h7, h3]
  simp; omega
def on_Flat_Rd {R : Type} (v : Flat × Rd) (f : (List Int) → (List Pair) → (List Int) → Int → Option R) : Option R := f (v.1.places) (v.1.names) (v.2.bs) (v.2.at_)
section
variable {A : Bx} {P : Program} {G : Glob} {own : Nat} {o : Nat → EObj} {g : FuncId} {K : C → List (Nat × EObj) → Prop} {R : Type} {r : R} {V : Vx} {v : Flat × Rd} {f : (List Int) → (List Pair) → (List Int) → Int → Option R}
variable {U : List C → List EObj → (C → List (Nat × EObj) → Prop) → Prop} {bs : List C} {ext : List EObj} {ids tops : List Nat}
theorem s_vFFlat_Rd_1 (hV : IsV V) (hU : U = callW P G own o g ids tops) (H : on_Flat_Rd v f = some r) (hok : FnOK P G g bs (ext.map EObj.toObj) (.agg [.fr 1 ((v.1.places).map eI), .fr 2 ((v.1.names).map ePair)]) (([⟨0, true, 2, .one [.sl ((v.2.bs).map eIu8), .int .i64 (v.2.at_)]⟩] : List EObj).map EObj.toObj) true) (ht : topsF o ids tops) (h : ∀ c0 c1 c2 c3, f c0 c1 c2 c3 = some r → K (.agg [.ref (own + 0) ((o (own + 0)).gen + 1) 1 0 (V.nI c0), .ref (own + 1) ((o (own + 1)).gen + 1) 2 0 (V.nPair c1)]) (putBackE o ids (([⟨0, true, 2, .one [.sl (V.rIu8 c2), .int .i64 c3]⟩] : List EObj).map EObj.toObj) ++ freezeE o tops ++ [(own + 0, ⟨(o (own + 0)).gen + 1, true, 1, .many (V.rI c0)⟩), (own + 1, ⟨(o (own + 1)).gen + 1, true, 2, .many (V.rPair c1)⟩)])) : U bs ext K := by
  rw [hU]
  refine ⟨_, _, hok, fun x hx r hr => ?_, topsF_sound ht, ?_⟩
  · simp only [List.mem_singleton] at hx; subst hx; simp [ED.rows] at hr; subst hr; rfl
  · have := h (v.1.places) (v.1.names) (v.2.bs) (v.2.at_) H
    rw [show V.nI (v.1.places) = ((v.1.places).map eI).length by rw [hV.nI, List.length_map]] at this
    rw [show V.nPair (v.1.names) = ((v.1.names).map ePair).length by rw [hV.nPair, List.length_map]] at this
    simp only [hV.rI, hV.rIu8, hV.rPair] at this
    exact this
end
noncomputable def spec_goodCallOf.b1 (a1 : List Int) (a2 : Int)  (h1 : (Int × (List Int) × Int × (List Arg)) → Option (Cal × Rd)) (z_ : Cal × Rd) (x343 : Int) (x344 : List Int) (x345 : Int) (x346 : List Arg) : Option (Cal × Rd) := (if 0 < x343 then (lj 1 (fun J1 => (gd (RO 1 ⟨x344, x345⟩) (on_I_Rd (pickV (⟨x344, x345⟩) 3) fun v414 v415 v416 => (if v414 = 0 then (gd (RO 16 ⟨v415, v416⟩) (on_Flat_Rd (goodFlatV (⟨v415, v416⟩)) fun v417 v418 v419 v420 => (gd ((x346.length + 1) * 72 ≤ 140737488355328) (lv (x346 ++ [⟨3, ([] : Str), [], v418⟩]) fun v421 => (J1 (v421, v419, v420)))))) else (gd (RO 1 ⟨v415, v416⟩) (on_S_Rd (aNameV (⟨v415, v416⟩)) fun v422 v423 v424 => (gd (RO 1 ⟨v423, v424⟩) (on_I_Rd (aNumberV (⟨v423, v424⟩)) fun v425 v426 v427 => (gd ((x346.length + 1) * 72 ≤ 140737488355328) (lv (x346 ++ [⟨2, v422, [v425], []⟩]) fun v428 => (J1 (v428, v426, v427)))))))))))) (fun (x411, x412, x413) => (arr .i64 (x343 - 1) fun v429 => (h1 (v429, x412, x413, x411))))) else (some (⟨x346⟩, ⟨x344, x345⟩)))
noncomputable def spec_goodCallOf.b0 (a1 : List Int) (a2 : Int)  (h0 : (Int × (List Int) × Int × (List Arg)) → Option (Cal × Rd)) (h1 : (Int × (List Int) × Int × (List Arg)) → Option (Cal × Rd)) (z_ : Cal × Rd) (x125 : Int) (x126 : List Int) (x127 : Int) (x128 : List Arg) : Option (Cal × Rd) := (if 0 < x125 then (lj 0 (fun J0 => (gd (RO 1 ⟨x126, x127⟩) (on_I_Rd (pickV (⟨x126, x127⟩) 3) fun v184 v185 v186 => (if v184 = 0 then (gd (RO 16 ⟨v185, v186⟩) (on_Flat_Rd (goodFlatV (⟨v185, v186⟩)) fun v187 v188 v189 v190 => (gd ((x128.length + 1) * 72 ≤ 140737488355328) (lv (x128 ++ [⟨1, ([] : Str), v187, []⟩]) fun v191 => (J0 (v191, v189, v190)))))) else (gd (RO 1 ⟨v185, v186⟩) (on_I_Rd (aNumberV (⟨v185, v186⟩)) fun v192 v193 v194 => (gd ((x128.length + 1) * 72 ≤ 140737488355328) (lv (x128 ++ [⟨0, ([] : Str), [v192], []⟩]) fun v195 => (J0 (v195, v193, v194)))))))))) (fun (x181, x182, x183) => (arr .i64 (x125 - 1) fun v196 => (h0 (v196, x182, x183, x181))))) else (gd (RO 1 ⟨x126, x127⟩ ∧ 1 ≤ (([2, 1, 0, 3] : List Int)).length ∧ (([2, 1, 0, 3] : List Int)).length ≤ 1000) (on_I_Rd (rOne (⟨x126, x127⟩) ([2, 1, 0, 3])) fun v306 v307 v308 => (h1 (v306, v307, v308, x128)))))
noncomputable def spec_goodCallOf.f (a1 : List Int) (a2 : Int) (h0 : (Int × (List Int) × Int × (List Arg)) → Option (Cal × Rd)) (z_ : Cal × Rd) : Option (Cal × Rd) := (gd (RO 1 ⟨a1, a2⟩ ∧ 1 ≤ (([2, 1, 3, 0] : List Int)).length ∧ (([2, 1, 3, 0] : List Int)).length ≤ 1000) (on_I_Rd (rOne (⟨a1, a2⟩) ([2, 1, 3, 0])) fun v94 v95 v96 => (h0 (v94, v95, v96, []))))
theorem pin_spec_goodCallOf {e : ESt} {ns : List (Nat × Nat)} {ps : List (Nat × C)} {os : List (Nat × EObj)} (hs : pinPZ (pinZ e.o (os.map Prod.fst) ns) e.s ps := by first | (cbv <;> (repeat' (first | trivial | refine And.intro ?_ ?_)) <;> (first | rfl | assumption | omega | exact clI hV _ | exact clIu8 hV _ | exact clPair hV _ | exact clArg hV _ | with_unfolding_all exact hV.nI [] | with_unfolding_all exact (hV.nI []).symm | with_unfolding_all exact hV.nIu8 [] | with_unfolding_all exact (hV.nIu8 []).symm | with_unfolding_all exact hV.nPair [] | with_unfolding_all exact (hV.nPair []).symm | with_unfolding_all exact hV.nArg [] | with_unfolding_all exact (hV.nArg []).symm | with_unfolding_all exact hV.rI _ | with_unfolding_all exact hV.rIu8 _ | with_unfolding_all exact hV.rPair _ | with_unfolding_all exact hV.rArg _ | with_unfolding_all exact (hV.nI _).trans (Eq.trans (by simp only [hV.nI] at *; omega) (hV.nI _).symm) | with_unfolding_all exact (hV.nIu8 _).trans (Eq.trans (by simp only [hV.nIu8] at *; omega) (hV.nIu8 _).symm) | with_unfolding_all exact (hV.nPair _).trans (Eq.trans (by simp only [hV.nPair] at *; omega) (hV.nPair _).symm) | with_unfolding_all exact (hV.nArg _).trans (Eq.trans (by simp only [hV.nArg] at *; omega) (hV.nArg _).symm) | simp [closedCell])) | fail) (ho : ∀ B : (Nat → EObj) → List (List C) → List (List C) → Prop, (∀ o rows rows', rowsZ (pinZ o (os.map Prod.fst) ns) rows rows' → B o rows rows') → pinOZ (pinZ e.o (os.map Prod.fst) ns) B e.o ns os := by intro B hB; first | (cbv <;> (repeat' (first | trivial | refine And.intro ?_ ?_ | refine pin_same hB ?_ | refine pin_nil hB ?_ | refine pin_dirty hB (by assumption) (by assumption) ?_ ?_ | exact pinL_n | refine pinL_c ?_ ?_ | exact pzr rfl rfl rfl (nrI hV _) (clI hV _) | exact pzr rfl rfl rfl (nrIu8 hV _) (clIu8 hV _) | exact pzr rfl rfl rfl (nrPair hV _) (clPair hV _) | exact pzr rfl rfl rfl (nrArg hV _) (clArg hV _) | (refine pz_go ?_; cbv) | (refine pinL_go ?_; cbv))) <;> (first | exact clI hV _ | exact clIu8 hV _ | exact clPair hV _ | exact clArg hV _ | with_unfolding_all exact hV.rI _ | with_unfolding_all exact hV.rIu8 _ | with_unfolding_all exact hV.rPair _ | with_unfolding_all exact hV.rArg _ | with_unfolding_all exact hV.nI [] | with_unfolding_all exact (hV.nI []).symm | with_unfolding_all exact hV.nIu8 [] | with_unfolding_all exact (hV.nIu8 []).symm | with_unfolding_all exact hV.nPair [] | with_unfolding_all exact (hV.nPair []).symm | with_unfolding_all exact hV.nArg [] | with_unfolding_all exact (hV.nArg []).symm | assumption | omega | rfl | with_unfolding_all exact (hV.nI _).trans (Eq.trans (by simp only [hV.nI] at *; omega) (hV.nI _).symm) | with_unfolding_all exact (hV.nIu8 _).trans (Eq.trans (by simp only [hV.nIu8] at *; omega) (hV.nIu8 _).symm) | with_unfolding_all exact (hV.nPair _).trans (Eq.trans (by simp only [hV.nPair] at *; omega) (hV.nPair _).symm) | with_unfolding_all exact (hV.nArg _).trans (Eq.trans (by simp only [hV.nArg] at *; omega) (hV.nArg _).symm) | simp [closedCell])) | fail) : PinnedZ e ns ps os := ⟨hs, ho⟩
section
variable {G : Glob} (hm : pg.follows .mixedOrders = true) (hz : ∀ T, ∀ c ∈ (ttOf pg T).zero, Bd c) (hG : GF G)
include hm hz hG
set_option maxHeartbeats 8000000 in
theorem spec_goodCallOf.w {a1 : List Int} {a2 : Int} (inv0 : (Int × (List Int) × Int × (List Arg)) → Prop) (mu0 : (Int × (List Int) × Int × (List Arg)) → Nat) (res0 : (Int × (List Int) × Int × (List Arg)) → Cal × Rd) (inv1 : (Int × (List Int) × Int × (List Arg)) → Prop) (mu1 : (Int × (List Int) × Int × (List Arg)) → Nat) (res1 : (Int × (List Int) × Int × (List Arg)) → Cal × Rd) (hb0 : ∀ (s_ : Int × (List Int) × Int × (List Arg)), inv0  s_ → spec_goodCallOf.b0 a1 a2  (LI (inv0 ) (mu0 ) (res0 ) (mu0  s_)) (EI (inv1 ) (mu1 ) (res1 )) (res0  s_) s_.1 s_.2.1 s_.2.2.1 s_.2.2.2 = some (res0  s_)) (hb1 : ∀ (s_ : Int × (List Int) × Int × (List Arg)), inv1  s_ → spec_goodCallOf.b1 a1 a2  (LI (inv1 ) (mu1 ) (res1 ) (mu1  s_)) (res1  s_) s_.1 s_.2.1 s_.2.2.1 s_.2.2.2 = some (res1  s_)) {r : Cal × Rd} (H : spec_goodCallOf.f a1 a2 (EI (inv0 ) (mu0 ) (res0 )) r = some r) : FnOK pg G 80 [.ptr 0 0 2 0 0] (([⟨0, true, 2, .one [.sl (a1.map eIu8), .int .i64 a2]⟩] : List EObj).map EObj.toObj) (.agg [.sl ((r.1.args).map eArg)]) (([⟨0, true, 2, .one [.sl ((r.2.bs).map eIu8), .int .i64 (r.2.at_)]⟩] : List EObj).map EObj.toObj) true := by
  obtain ⟨V, hV⟩ := exV
  have e0_I : V.rI [] = [] := hV.rI []
  have e1_I : ∀ x r, V.rI (x :: r) = eI x :: V.rI r := fun x r => by rw [hV.rI, hV.rI]; rfl
  have e0_Iu8 : V.rIu8 [] = [] := hV.rIu8 []
  have e1_Iu8 : ∀ x r, V.rIu8 (x :: r) = eIu8 x :: V.rIu8 r := fun x r => by rw [hV.rIu8, hV.rIu8]; rfl
  have e0_Pair : V.rPair [] = [] := hV.rPair []
  have e1_Pair : ∀ x r, V.rPair (x :: r) = ePair x :: V.rPair r := fun x r => by rw [hV.rPair, hV.rPair]; rfl
  have e0_Arg : V.rArg [] = [] := hV.rArg []
  simp only [← hV.rI, ← hV.rIu8, ← hV.rPair, ← hV.rArg]
  refine fn_okW (tt0 := tyG [ty3, ty4, ty9, ty22, ty24, ty36, ty37, ty39, ty74, ty80, ty90]) (fn := Tryz.f80) (body := bodyOf Tryz.f80) (ext := [⟨0, true, 2, .one [.sl (V.rIu8 a1), .int .i64 a2]⟩]) (ext' := [⟨0, true, 2, .one [.sl (V.rIu8 (r.2.bs)), .int .i64 (r.2.at_)]⟩]) hm (tyG_sub ⟨tt3, tt4, tt9, tt22, tt24, tt36, tt37, tt39, tt74, tt80, tt90, trivial⟩) hz 0 false [4, 10] (by unfold pg; exact Tryz.func80) rfl rfl (by simp [Tryz.f80]) (by simp [EObj.toObj]) (by cbv) ?_
  intro A F hA hF
  unfold spec_goodCallOf.f at H
  cbv
  repeat' (first
    | (with_reducible refine s_gd H (fun hg H => ?_))
    | (cases H; (try simp only [e0_I, e0_Iu8, e0_Pair, e0_Arg, e1_I, eI, e1_Iu8, eIu8, e1_Pair, ePair] at hF); with_reducible refine fin_W hF rfl (by simp [expIds, posCells, C.cells, idOf]) ?_ ?_ (by with_unfolding_all exact ⟨by first | (cbv <;> rfl) | fail, rfl, rfl, rfl, rfl, (by intro z hz; simp [ED.rows] at hz; subst hz; rfl), trivial⟩) <;> cbv)
    | (with_reducible refine s_lt H (fun H => ?_) (fun H => ?_) <;> cbv)
    | (with_reducible refine s_le H (fun H => ?_) (fun H => ?_) <;> cbv)
    | (with_reducible refine s_eq H (fun H => ?_) (fun H => ?_) <;> cbv)
    | (with_reducible refine s_ne H (fun H => ?_) (fun H => ?_) <;> cbv)
    | (with_reducible refine s_ar H (fun _ H => ?_); cbv)
    | (with_reducible refine s_apI hV H (fun _ H => ?_); cbv)
    | (with_reducible refine s_apL hV.rI hV.nI H (fun _ H => ?_); cbv)
    | (with_reducible refine s_apIu8 hV H (fun _ H => ?_); cbv)
    | (with_reducible refine s_apL hV.rIu8 hV.nIu8 H (fun _ H => ?_); cbv)
    | (with_reducible refine s_apPair hV H (fun _ H => ?_); cbv)
    | (with_reducible refine s_apL hV.rPair hV.nPair H (fun _ H => ?_); cbv)
    | (with_reducible refine s_apArg hV H (fun _ H => ?_); cbv)
    | (with_reducible refine s_apL hV.rArg hV.nArg H (fun _ H => ?_); cbv)
    | (with_reducible refine s_apZArg hV H (fun _ _ H hk_ zs_ hd_ => ?_); cbv)
    | (with_reducible refine s_bnZArg hV H (fun _ _ H hk_ zs_ hd_ => ?_); cbv)
    | (with_reducible refine s_a0ZArg hV H (fun _ _ H hk_ zs_ hd_ => ?_); cbv)
    | (with_reducible refine s_lv H (fun _ H => ?_); cbv)
    | (with_reducible refine s_loop hA H (fun s h => hb0  s h) [0, 2, 3] [128] (fun e s => [(4, .int .i64 (s.1))]) (fun e s => [ovO e 0 [(0, .sl (V.rIu8 (s.2.1))), (1, .int .i64 (s.2.2.1))], ovO e 192 [(0, .ref 384 0 4 0 (V.nArg (s.2.2.2)))], (384, ⟨0, true, 4, .many (V.rArg (s.2.2.2))⟩)]) [] pin_spec_goodCallOf nbOf ?_; rintro ⟨x125, x126, x127, x128⟩ H; unfold spec_goodCallOf.b0 at H; (try dsimp only at H); cbv)
    | (with_reducible refine s_loop hA H (fun s h => hb1  s h) [0, 2, 3] [128] (fun e s => [(5, .int .i64 (s.1))]) (fun e s => [ovO e 0 [(0, .sl (V.rIu8 (s.2.1))), (1, .int .i64 (s.2.2.1))], ovO e 192 [(0, .ref 384 0 4 0 (V.nArg (s.2.2.2)))], (384, ⟨0, true, 4, .many (V.rArg (s.2.2.2))⟩)]) [] pin_spec_goodCallOf nbOf ?_; rintro ⟨x343, x344, x345, x346⟩ H; unfold spec_goodCallOf.b1 at H; (try dsimp only at H); cbv)
    | (with_reducible refine s_next H pin_spec_goodCallOf nbOf)
    | (with_reducible refine s_joint 0 hA H [0, 2, 3, 4] [128] (fun e s => []) (fun e s => [ovO e 0 [(0, .sl (V.rIu8 (s.2.1))), (1, .int .i64 (s.2.2))], ovO e 192 [(0, .ref 384 0 4 0 (V.nArg (s.1)))], (384, ⟨0, true, 4, .many (V.rArg (s.1))⟩)]) (fun J0 H => ?_) ?_; rotate_left; (rintro ⟨x181, x182, x183⟩ H; (try dsimp only at H); cbv); rotate_left; cbv)
    | (with_reducible refine s_meet H [] pin_spec_goodCallOf nbOf)
    | (with_reducible refine s_joint 1 hA H [0, 2, 3, 5] [128] (fun e s => []) (fun e s => [ovO e 0 [(0, .sl (V.rIu8 (s.2.1))), (1, .int .i64 (s.2.2))], ovO e 192 [(0, .ref 384 0 4 0 (V.nArg (s.1)))], (384, ⟨0, true, 4, .many (V.rArg (s.1))⟩)]) (fun J1 H => ?_) ?_; rotate_left; (rintro ⟨x411, x412, x413⟩ H; (try dsimp only at H); cbv); rotate_left; cbv)
    | (with_reducible refine s_meet H [] pin_spec_goodCallOf nbOf)
    | (with_reducible refine s_vI_Rd_1 hV (by assumption) H (by (try simp only [hV.rI, hV.rIu8, hV.rPair, hV.rArg]); (first | (have hk_ := spec_reader_one.ok hm hz hG hg; with_unfolding_all exact hk_) | (with_unfolding_all exact spec_reader_one.ok hm hz hG (by first | assumption | omega)))) (by first | (cbv <;> (repeat' (first | trivial | refine And.intro ?_ ?_)) <;> (first | rfl | exact clI hV _ | with_unfolding_all exact clIu8 hV _ | with_unfolding_all exact clPair hV _ | with_unfolding_all exact clArg hV _ | simp [closedCell])) | fail) (fun _ _ _ H => ?_); cbv)
    | (with_reducible refine s_vI_Rd_1 hV (by assumption) H (by (try simp only [hV.rI, hV.rIu8, hV.rPair, hV.rArg]); (first | (have hk_ := spec_reader_pick.ok hm hz hG hg; with_unfolding_all exact hk_) | (with_unfolding_all exact spec_reader_pick.ok hm hz hG (by first | assumption | omega)))) (by first | (cbv <;> (repeat' (first | trivial | refine And.intro ?_ ?_)) <;> (first | rfl | exact clI hV _ | with_unfolding_all exact clIu8 hV _ | with_unfolding_all exact clPair hV _ | with_unfolding_all exact clArg hV _ | simp [closedCell])) | fail) (fun _ _ _ H => ?_); cbv)
    | (with_reducible refine s_vFFlat_Rd_1 hV (by assumption) H (by (try simp only [hV.rI, hV.rIu8, hV.rPair, hV.rArg]); (first | (have hk_ := spec_goodFlat.ok hm hz hG hg; with_unfolding_all exact hk_) | (with_unfolding_all exact spec_goodFlat.ok hm hz hG (by first | assumption | omega)))) (by first | (cbv <;> (repeat' (first | trivial | refine And.intro ?_ ?_)) <;> (first | rfl | exact clI hV _ | with_unfolding_all exact clIu8 hV _ | with_unfolding_all exact clPair hV _ | with_unfolding_all exact clArg hV _ | simp [closedCell])) | fail) (fun _ _ _ _ H => ?_); cbv)
    | (with_reducible refine s_vI_Rd_1 hV (by assumption) H (by (try simp only [hV.rI, hV.rIu8, hV.rPair, hV.rArg]); (first | (have hk_ := spec_aNumber.ok hm hz hG hg; with_unfolding_all exact hk_) | (with_unfolding_all exact spec_aNumber.ok hm hz hG (by first | assumption | omega)))) (by first | (cbv <;> (repeat' (first | trivial | refine And.intro ?_ ?_)) <;> (first | rfl | exact clI hV _ | with_unfolding_all exact clIu8 hV _ | with_unfolding_all exact clPair hV _ | with_unfolding_all exact clArg hV _ | simp [closedCell])) | fail) (fun _ _ _ H => ?_); cbv)
    | (with_reducible refine s_vS_Rd_1 hV (by assumption) H (by (try simp only [hV.rI, hV.rIu8, hV.rPair, hV.rArg]); (first | (have hk_ := spec_aName.ok hm hz hG hg; with_unfolding_all exact hk_) | (with_unfolding_all exact spec_aName.ok hm hz hG (by first | assumption | omega)))) (by first | (cbv <;> (repeat' (first | trivial | refine And.intro ?_ ?_)) <;> (first | rfl | exact clI hV _ | with_unfolding_all exact clIu8 hV _ | with_unfolding_all exact clPair hV _ | with_unfolding_all exact clArg hV _ | simp [closedCell])) | fail) (fun _ _ _ H => ?_); cbv)
    | (with_reducible refine callT_wp hA rfl (fun U hU => ?_); cbv)
    | (with_reducible refine indep_of hA ?_; cbv)
    | ((with_reducible refine side ?_); exact sideOf)
    | (with_reducible refine s_tkG hV.rI hV.nI ?_; cbv)
    | (with_reducible refine s_tkG hV.rIu8 hV.nIu8 ?_; cbv)
    | (with_reducible refine s_tkG hV.rPair hV.nPair ?_; cbv)
    | (with_reducible refine s_tkG hV.rArg hV.nArg ?_; cbv)
    | (with_reducible refine s_tk1 ?_; cbv)
    | (with_reducible refine s_eqL ?_; cbv)
    | (with_reducible refine And.intro ?_ ?_)
    | (intro ys hys; subst hys; rfl)
    | rfl
    | (first | exact True.intro | omega | exact clI hV _ | exact clIu8 hV _ | exact clPair hV _ | exact clArg hV _)
    | (intro h_; cases h_; done)
    | (with_reducible refine s_pl ?_; with_unfolding_all simp [plainV, plainA, plainC, plRI hV, plRIu8 hV, plRPair hV])
    | (intro ys hys; subst hys))
end
section
variable {G : Glob} (hm : pg.follows .mixedOrders = true) (hz : ∀ T, ∀ c ∈ (ttOf pg T).zero, Bd c) (hG : GF G)
include hm hz hG
theorem spec_goodCallOf.ok {a1 : List Int} {a2 : Int} (hp : RO 104 ⟨a1, a2⟩) : FnOK pg G 80 [.ptr 0 0 2 0 0] (([⟨0, true, 2, .one [.sl (a1.map eIu8), .int .i64 a2]⟩] : List EObj).map EObj.toObj) (.agg [.sl (((goodCallV ⟨a1, a2⟩).1.args).map eArg)]) (([⟨0, true, 2, .one [.sl (((goodCallV ⟨a1, a2⟩).2.bs).map eIu8), .int .i64 ((goodCallV ⟨a1, a2⟩).2.at_)]⟩] : List EObj).map EObj.toObj) true := by
  let R1 : List Arg → Int → Rd → Cal × Rd := fun q n r => (⟨(mapsV n.toNat q r).1⟩, (mapsV n.toNat q r).2)
  let R0 : List Arg → Int → Rd → Cal × Rd := fun p n r => let x := starsV n.toNat p r; let y := rOne x.2 [2, 1, 0, 3]; R1 x.1 y.1 y.2
  refine @spec_goodCallOf.w G hm hz hG a1 a2 (fun s => 0 ≤ s.1 ∧ s.1 ≤ 3 ∧ RO (52 + 17 * s.1.toNat) ⟨s.2.1, s.2.2.1⟩ ∧ s.2.2.2.length + s.1.toNat ≤ 3) (fun s => s.1.toNat) (fun s => R0 s.2.2.2 s.1 ⟨s.2.1, s.2.2.1⟩)
    (fun s => 0 ≤ s.1 ∧ s.1 ≤ 3 ∧ RO (17 * s.1.toNat) ⟨s.2.1, s.2.2.1⟩ ∧ s.2.2.2.length + s.1.toNat ≤ 6) (fun s => s.1.toNat) (fun s => R1 s.2.2.2 s.1 ⟨s.2.1, s.2.2.1⟩) ?_ ?_ _ ?_
  · rintro ⟨n, bs, at_, p⟩ ⟨h0, h8, hr, hl⟩
    simp only at h0 h8 hr hl
    simp only [spec_goodCallOf.b0, lj]
    refine ite_ok (fun h => ?_) (fun h => ?_)
    · obtain ⟨k, hk⟩ : ∃ k : Nat, n.toNat = k + 1 := ⟨n.toNat - 1, by omega⟩
      have hk1 : (n - 1).toNat = k := by omega
      rw [hk] at hr hl
      have hr1 : RO (52 + 17 * k + 16) (pickV ⟨bs, at_⟩ 3).2 := RO_pick (hr.le (by omega))
      have e0 : R0 p n ⟨bs, at_⟩ = if pickI ⟨bs, at_⟩ 3 = 0 then R0 (p ++ [⟨1, [], (goodFlatV (pickV ⟨bs, at_⟩ 3).2).1.places, []⟩]) k (goodFlatV (pickV ⟨bs, at_⟩ 3).2).2
          else R0 (p ++ [⟨0, [], [(aNumberV (pickV ⟨bs, at_⟩ 3).2).1], []⟩]) k (aNumberV (pickV ⟨bs, at_⟩ 3).2).2 := by
        simp only [R0, hk, Int.toNat_natCast, starsV]; split <;> rfl
      rw [gd_ok (hr.le (by omega)), e0]
      simp only [on_I_Rd, on_Flat_Rd, lv, eta_Rd, pickV_1]
      refine ite_ok (fun hc => ?_) (fun hc => ?_)
      · obtain ⟨g1, g2, g3⟩ := goodFlatV_ok hr1
        rw [if_pos hc, gd_ok (hr1.le (by omega)), gd_ok (by omega), arr_ok (by omega), LI_ok ⟨⟨by omega, by omega, by rw [hk1]; exact g1, by rw [hk1]; simp; omega⟩, by simp only; omega⟩]
        simp only [eta_Rd, show n - 1 = (k : Int) by omega]
      · rw [if_neg hc, gd_ok (hr1.le (by omega)), gd_ok (by omega), arr_ok (by omega), LI_ok ⟨⟨by omega, by omega, by rw [hk1]; exact (RO_aNum (n := 52 + 17 * k + 15) hr1).le (by omega), by rw [hk1]; simp; omega⟩, by simp only; omega⟩]
        simp only [eta_Rd, show n - 1 = (k : Int) by omega]
    · have hn : n = 0 := by omega
      subst hn
      have hr : RO 52 ⟨bs, at_⟩ := hr.le (by omega)
      rw [gd_ok ⟨hr.le (by omega), by decide, by decide⟩]
      simp only [on_I_Rd]
      obtain ⟨m1, m2⟩ := mem_rng (b := 3) (rOne_mem (l := [2, 1, 0, 3]) (hr.le (by omega)) (by decide)) rfl
      have hx := RO_one (n := 51) (l := [2, 1, 0, 3]) hr
      rw [EI_ok ⟨m1, m2, hx.le (by omega), by simp only at hl ⊢; omega⟩]
      rfl
  · rintro ⟨n, bs, at_, q⟩ ⟨h0, h8, hr, hl⟩
    simp only at h0 h8 hr hl
    simp only [spec_goodCallOf.b1, lj]
    refine ite_ok (fun h => ?_) (fun h => ?_)
    · obtain ⟨k, hk⟩ : ∃ k : Nat, n.toNat = k + 1 := ⟨n.toNat - 1, by omega⟩
      have hk1 : (n - 1).toNat = k := by omega
      rw [hk] at hr hl
      have hr1 : RO (17 * k + 16) (pickV ⟨bs, at_⟩ 3).2 := RO_pick (hr.le (by omega))
      have e0 : R1 q n ⟨bs, at_⟩ = if pickI ⟨bs, at_⟩ 3 = 0 then R1 (q ++ [⟨3, [], [], (goodFlatV (pickV ⟨bs, at_⟩ 3).2).1.names⟩]) k (goodFlatV (pickV ⟨bs, at_⟩ 3).2).2
          else R1 (q ++ [⟨2, (aNameV (pickV ⟨bs, at_⟩ 3).2).1, [(aNumberV (aNameV (pickV ⟨bs, at_⟩ 3).2).2).1], []⟩]) k (aNumberV (aNameV (pickV ⟨bs, at_⟩ 3).2).2).2 := by
        simp only [R1, hk, Int.toNat_natCast, mapsV]; split <;> rfl
      rw [gd_ok (hr.le (by omega)), e0]
      simp only [on_I_Rd, on_S_Rd, on_Flat_Rd, lv, eta_Rd, pickV_1]
      refine ite_ok (fun hc => ?_) (fun hc => ?_)
      · obtain ⟨g1, g2, g3⟩ := goodFlatV_ok hr1
        rw [if_pos hc, gd_ok (hr1.le (by omega)), gd_ok (by omega), arr_ok (by omega), LI_ok ⟨⟨by omega, by omega, by rw [hk1]; exact g1, by rw [hk1]; simp; omega⟩, by simp only; omega⟩]
        simp only [eta_Rd, show n - 1 = (k : Int) by omega]
      · have hr2 : RO (17 * k + 15) (aNameV (pickV ⟨bs, at_⟩ 3).2).2 := RO_aName hr1
        rw [if_neg hc, gd_ok (hr1.le (by omega)), gd_ok (hr2.le (by omega)), gd_ok (by omega), arr_ok (by omega), LI_ok ⟨⟨by omega, by omega, by rw [hk1]; exact (RO_aNum (n := 17 * k + 14) hr2).le (by omega), by rw [hk1]; simp; omega⟩, by simp only; omega⟩]
        simp only [eta_Rd, show n - 1 = (k : Int) by omega]
    · have hn : n = 0 := by omega
      subst hn
      rfl
  · simp only [spec_goodCallOf.f]
    rw [gd_ok ⟨hp.le (by omega), by decide, by decide⟩]
    simp only [on_I_Rd]
    obtain ⟨m1, m2⟩ := mem_rng (b := 3) (rOne_mem (l := [2, 1, 3, 0]) (hp.le (by omega)) (by decide)) rfl
    have hx := RO_one (n := 103) (l := [2, 1, 3, 0]) hp
    rw [EI_ok ⟨m1, m2, hx.le (by omega), by simp; omega⟩]
    rfl
end
def drawPC (c : List Int) : Str :=
  let x := goodCallV (newRd c)
  if pickI x.2 3 = 0 then (mutV (pickV x.2 3).2 (callText x.1)).1 else callText x.1
theorem callText_len {c : Cal} (h : validCall c = true) : (callText c).length ≤ 16 * 302 := by
  obtain ⟨h1, h2⟩ := validCall_args h
  have := joinW_len (n := 300) (s := [44, 32]) (c.args.map argText) (fun x hx => by obtain ⟨y, hy, rfl⟩ := List.mem_map.1 hx; exact argText_len (h1 y hy))
  rw [List.length_map] at this
  rw [callText, if_pos h]
  exact Nat.le_trans this (Nat.mul_le_mul h2 (Nat.le_refl 302))
theorem drawPC_len {c : List Int} (h : bytesOK c) : (drawPC c).length ≤ 1048576 := by
  obtain ⟨h1, h2⟩ := goodCallV_ok (n := 4) (RO_new h (n := 108) (by omega))
  have h3 := callText_len h2
  unfold drawPC
  simp only
  split
  · have := mutV_len (s := callText (goodCallV (newRd c)).1) (RO_pick (m := 3) h1); omega
  · omega
def on_Rd {R : Type} (v : Rd) (f : (List Int) → Int → Option R) : Option R := f (v.bs) (v.at_)
theorem s_cPRd {A : Bx} {P : Program} {G : Glob} {rg : Option Nat} {own : Nat} {o : Nat → EObj} {g : FuncId} {vs : List C} {sh : Bool} {K : C → List (Nat × EObj) → Prop} {R : Type} {r : R} {V : Vx} {v : Rd} {f : (List Int) → Int → Option R} (hV : IsV V) (hA : IsBx true rg P G A) (H : on_Rd v f = some r) (hok : FnOK P G g vs [] (.frp [.sl ((v.bs).map eIu8), .int .i64 (v.at_)]) [] sh) (hc : vs.all closedArg = true) (h : ∀ c0 c1, f c0 c1 = some r → K (.ptr (own + 0) ((o (own + 0)).gen + 1) 2 0 0) [(own + 0, ⟨(o (own + 0)).gen + 1, true, 2, .one [.sl (V.rIu8 c0), .int .i64 c1]⟩)]) : A.call own o g vs K := by
  refine callT_plain hA hok hc ?_
  have := h (v.bs) (v.at_) H
  simp only [hV.rIu8] at this
  exact this
def on_Cal_Rd {R : Type} (v : Cal × Rd) (f : (List Arg) → (List Int) → Int → Option R) : Option R := f (v.1.args) (v.2.bs) (v.2.at_)
section
variable {A : Bx} {P : Program} {G : Glob} {own : Nat} {o : Nat → EObj} {g : FuncId} {K : C → List (Nat × EObj) → Prop} {R : Type} {r : R} {V : Vx} {v : Cal × Rd} {f : (List Arg) → (List Int) → Int → Option R}
variable {U : List C → List EObj → (C → List (Nat × EObj) → Prop) → Prop} {bs : List C} {ext : List EObj} {ids tops : List Nat}
theorem s_vCal_Rd_1 (hV : IsV V) (hU : U = callW P G own o g ids tops) (H : on_Cal_Rd v f = some r) (hok : FnOK P G g bs (ext.map EObj.toObj) (.agg [.sl ((v.1.args).map eArg)]) (([⟨0, true, 2, .one [.sl ((v.2.bs).map eIu8), .int .i64 (v.2.at_)]⟩] : List EObj).map EObj.toObj) true) (ht : topsF o ids tops) (h : ∀ c0 c1 c2, f c0 c1 c2 = some r → K (.agg [.sl (V.rArg c0)]) (putBackE o ids (([⟨0, true, 2, .one [.sl (V.rIu8 c1), .int .i64 c2]⟩] : List EObj).map EObj.toObj) ++ freezeE o tops ++ [])) : U bs ext K := by
  rw [hU]
  refine ⟨_, _, hok, fun x hx r hr => ?_, topsF_sound ht, ?_⟩
  · simp only [List.mem_singleton] at hx; subst hx; simp [ED.rows] at hr; subst hr; rfl
  · have := h (v.1.args) (v.2.bs) (v.2.at_) H
    simp only [hV.rArg, hV.rIu8] at this
    exact this
end
noncomputable def spec_DrawParseCall.f (a1 : List Int)  (z_ : Str) : Option (Str) := (on_Rd (newRd a1) fun v2 v3 => (gd (RO 104 ⟨v2, v3⟩) (on_Cal_Rd (goodCallV (⟨v2, v3⟩)) fun v4 v5 v6 => (gd (validCall ⟨v4⟩ = true) (lv (callText (⟨v4⟩)) fun v7 => (gd (RO 1 ⟨v5, v6⟩) (on_I_Rd (pickV (⟨v5, v6⟩) 3) fun v8 v9 v10 => (if v8 = 0 then (gd (RO 3 ⟨v9, v10⟩ ∧ v7.length ≤ 1048576) (on_S_Rd (mutV (⟨v9, v10⟩) v7) fun v11 v12 v13 => (some v11))) else (some v7)))))))))
section
variable {G : Glob} (hm : pg.follows .mixedOrders = true) (hz : ∀ T, ∀ c ∈ (ttOf pg T).zero, Bd c) (hG : GF G)
include hm hz hG
theorem spec_DrawParseCall.w {a1 : List Int}  {r : Str} (H : spec_DrawParseCall.f a1  r = some r) : FnOK pg G 25 [.sl (a1.map eIu8)] [] (.str ⟨⟨r⟩⟩) [] false := by
  obtain ⟨V, hV⟩ := exV
  simp only [← hV.rI, ← hV.rIu8, ← hV.rPair, ← hV.rArg]
  refine fn_ok (tt0 := tyG [ty3, ty4, ty5, ty9, ty22, ty24, ty32, ty36, ty37, ty74, ty80, ty90]) (fn := Tryz.f25) (body := bodyOf Tryz.f25) (ext := []) hm (tyG_sub ⟨tt3, tt4, tt5, tt9, tt22, tt24, tt32, tt36, tt37, tt74, tt80, tt90, trivial⟩) hz 0 true [] (by unfold pg; exact Tryz.func25) rfl rfl (by simp [Tryz.f25]) (by simp [EObj.toObj]) (by cbv) ?_
  intro A F hA hF
  unfold spec_DrawParseCall.f at H
  cbv
  repeat' (first
    | (with_reducible refine s_gd H (fun hg H => ?_))
    | (cases H; exact fin_plain hF rfl rfl rfl rfl)
    | (with_reducible refine s_lt H (fun H => ?_) (fun H => ?_) <;> cbv)
    | (with_reducible refine s_le H (fun H => ?_) (fun H => ?_) <;> cbv)
    | (with_reducible refine s_eq H (fun H => ?_) (fun H => ?_) <;> cbv)
    | (with_reducible refine s_ne H (fun H => ?_) (fun H => ?_) <;> cbv)
    | (with_reducible refine s_apZArg hV H (fun _ _ H hk_ zs_ hd_ => ?_); cbv)
    | (with_reducible refine s_bnZArg hV H (fun _ _ H hk_ zs_ hd_ => ?_); cbv)
    | (with_reducible refine s_a0ZArg hV H (fun _ _ H hk_ zs_ hd_ => ?_); cbv)
    | (with_reducible refine s_lv H (fun _ H => ?_); cbv)
    | (with_reducible refine s_cPRd hV hA H (by (try simp only [hV.rI, hV.rIu8, hV.rPair, hV.rArg]); with_unfolding_all exact spec_newReader.ok hm hz hG) rfl (fun _ _ H => ?_); cbv)
    | (with_reducible refine s_vCal_Rd_1 hV (by assumption) H (by (try simp only [hV.rI, hV.rIu8, hV.rPair, hV.rArg]); (first | (have hk_ := spec_goodCallOf.ok hm hz hG hg; with_unfolding_all exact hk_) | (with_unfolding_all exact spec_goodCallOf.ok hm hz hG (by first | assumption | omega)))) (by first | (cbv <;> (repeat' (first | trivial | refine And.intro ?_ ?_)) <;> (first | rfl | exact clI hV _ | with_unfolding_all exact clIu8 hV _ | with_unfolding_all exact clPair hV _ | with_unfolding_all exact clArg hV _ | simp [closedCell])) | fail) (fun _ _ _ H => ?_); cbv)
    | (with_reducible refine s_cs hA H (by (try simp only [hV.rI, hV.rIu8, hV.rPair, hV.rArg]); (first | (have hk_ := spec_callText.ok hm hz hG hg; with_unfolding_all exact hk_) | (with_unfolding_all exact spec_callText.ok hm hz hG (by first | assumption | omega)))) rfl (fun _ H => ?_); cbv)
    | (with_reducible refine s_vI_Rd_1 hV (by assumption) H (by (try simp only [hV.rI, hV.rIu8, hV.rPair, hV.rArg]); (first | (have hk_ := spec_reader_pick.ok hm hz hG hg; with_unfolding_all exact hk_) | (with_unfolding_all exact spec_reader_pick.ok hm hz hG (by first | assumption | omega)))) (by first | (cbv <;> (repeat' (first | trivial | refine And.intro ?_ ?_)) <;> (first | rfl | exact clI hV _ | with_unfolding_all exact clIu8 hV _ | with_unfolding_all exact clPair hV _ | with_unfolding_all exact clArg hV _ | simp [closedCell])) | fail) (fun _ _ _ H => ?_); cbv)
    | (with_reducible refine s_vS_Rd_1 hV (by assumption) H (by (try simp only [hV.rI, hV.rIu8, hV.rPair, hV.rArg]); (first | (have hk_ := spec_mutate.ok hm hz hG hg; with_unfolding_all exact hk_) | (with_unfolding_all exact spec_mutate.ok hm hz hG (by first | assumption | omega)))) (by first | (cbv <;> (repeat' (first | trivial | refine And.intro ?_ ?_)) <;> (first | rfl | exact clI hV _ | with_unfolding_all exact clIu8 hV _ | with_unfolding_all exact clPair hV _ | with_unfolding_all exact clArg hV _ | simp [closedCell])) | fail) (fun _ _ _ H => ?_); cbv)
    | (with_reducible refine callT_wp hA rfl (fun U hU => ?_); cbv)
    | (with_reducible refine indep_of hA ?_; cbv)
    | ((with_reducible refine side ?_); exact sideOf)
    | (with_reducible refine s_tkG hV.rI hV.nI ?_; cbv)
    | (with_reducible refine s_tkG hV.rIu8 hV.nIu8 ?_; cbv)
    | (with_reducible refine s_tkG hV.rPair hV.nPair ?_; cbv)
    | (with_reducible refine s_tkG hV.rArg hV.nArg ?_; cbv)
    | (with_reducible refine s_tk1 ?_; cbv)
    | (with_reducible refine And.intro ?_ ?_)
    | (intro ys hys; subst hys; rfl)
    | rfl)
end
section
variable {G : Glob} (hm : pg.follows .mixedOrders = true) (hz : ∀ T, ∀ c ∈ (ttOf pg T).zero, Bd c) (hG : GF G)
include hm hz hG
theorem spec_DrawParseCall.ok {a1 : List Int} (hp : bytesOK a1) : FnOK pg G 25 [.sl (a1.map eIu8)] [] (.str ⟨⟨((drawPC a1))⟩⟩) [] false := by
  obtain ⟨h1, h2⟩ := goodCallV_ok (n := 4) (RO_new hp (n := 108) (by omega))
  have h3 := callText_len h2
  refine spec_DrawParseCall.w hm hz hG ?_
  have h0 : RO 104 (newRd a1) := RO_new hp (by omega)
  simp only [spec_DrawParseCall.f, on_Rd, on_Cal_Rd, on_I_Rd, on_S_Rd, lv, drawPC, eta_Rd, pickV_1]
  rw [gd_ok h0]
  have e1 : (⟨(goodCallV (newRd a1)).1.args⟩ : Cal) = (goodCallV (newRd a1)).1 := rfl
  rw [gd_ok (by exact h2), gd_ok (h1.le (by omega)), e1]
  refine ite_ok (fun h => ?_) (fun h => ?_)
  · rw [if_pos h, gd_ok ⟨RO_pick h1, by omega⟩]
  · rw [if_neg h]
end
noncomputable def laws_FnParseCall.f (a1 : List Int)  (z_ : Bool) : Option (Bool) := (ln' z_ (a1.length) fun v2 => (if 1048576 < v2 then (some true) else (gd (bytesOK a1) (lv (drawPC a1) fun v3 => (gd (v3.length ≤ 1048576) (on_Cal_B (parseCallI v3) fun v6 v7 => (gd (v3.length ≤ 1048576) (on_Cal_B (ParseCallS v3) fun v10 v11 => (cn ((fun (a b : Cal) => decide (a = b)) (⟨v6⟩) (⟨v10⟩)) (cn v7 (cn v11 (lv (callText (⟨v6⟩)) fun v12 => (if v12 = v3 then (cn (validCall (⟨v6⟩)) (some true) (some false)) else (some false))) (cn ((fun (a b : Cal) => decide (a = b)) (⟨v6⟩) (⟨v10⟩)) (some false) (some false))) (cn v11 (cn ((fun (a b : Cal) => decide (a = b)) (⟨v6⟩) (⟨v10⟩)) (some false) (some false)) (cn ((fun (a b : Cal) => decide (a = b)) (⟨v6⟩) (⟨v10⟩)) (some true) (some false)))) (cn ((fun (a b : Cal) => decide (a = b)) (⟨v6⟩) (⟨v10⟩)) (cn v7 (cn v11 (some true) (some false)) (cn v11 (some false) (some true))) (some false)))))))))))
section
variable {G : Glob} (hm : pg.follows .mixedOrders = true) (hz : ∀ T, ∀ c ∈ (ttOf pg T).zero, Bd c) (hG : GF G)
include hm hz hG
theorem laws_FnParseCall.w {a1 : List Int}  {r : Bool} (H : laws_FnParseCall.f a1  r = some r) : FnOK pg G 6 [.sl (a1.map eIu8)] [] (.bool r) [] false := by
  obtain ⟨V, hV⟩ := exV
  simp only [← hV.rI, ← hV.rIu8, ← hV.rPair, ← hV.rArg]
  refine fn_ok (tt0 := tyG [ty3, ty4, ty5, ty9, ty22, ty24, ty32, ty36, ty37, ty74, ty80]) (fn := Tryz.f6) (body := bodyOf Tryz.f6) (ext := []) hm (tyG_sub ⟨tt3, tt4, tt5, tt9, tt22, tt24, tt32, tt36, tt37, tt74, tt80, trivial⟩) hz 0 true [] (by unfold pg; exact Tryz.func6) rfl rfl (by simp [Tryz.f6]) (by simp [EObj.toObj]) (by cbv) ?_
  intro A F hA hF
  unfold laws_FnParseCall.f at H
  cbv
  repeat' (first
    | (with_reducible refine s_gd H (fun hg H => ?_))
    | (cases H; exact fin_plain hF rfl rfl rfl rfl)
    | (with_reducible refine s_lt H (fun H => ?_) (fun H => ?_) <;> cbv)
    | (with_reducible refine s_le H (fun H => ?_) (fun H => ?_) <;> cbv)
    | (with_reducible refine s_eq H (fun H => ?_) (fun H => ?_) <;> cbv)
    | (with_reducible refine s_ne H (fun H => ?_) (fun H => ?_) <;> cbv)
    | (with_reducible refine s_ln H lnOf (fun _ H => ?_); cbv)
    | (with_reducible refine s_apZArg hV H (fun _ _ H hk_ zs_ hd_ => ?_); cbv)
    | (with_reducible refine s_bnZArg hV H (fun _ _ H hk_ zs_ hd_ => ?_); cbv)
    | (with_reducible refine s_a0ZArg hV H (fun _ _ H hk_ zs_ hd_ => ?_); cbv)
    | (with_reducible refine s_lv H (fun _ H => ?_); cbv)
    | (with_reducible refine s_cs hA H (by (try simp only [hV.rI, hV.rIu8, hV.rPair, hV.rArg]); (first | (have hk_ := spec_DrawParseCall.ok hm hz hG hg; with_unfolding_all exact hk_) | (with_unfolding_all exact spec_DrawParseCall.ok hm hz hG (by first | assumption | omega)))) rfl (fun _ H => ?_); cbv)
    | (with_reducible refine s_cCal_B hV hA H (by (try simp only [hV.rI, hV.rIu8, hV.rPair, hV.rArg]); (first | (have hk_ := impl_ParseCall.ok hm hz hG hg; with_unfolding_all exact hk_) | (with_unfolding_all exact impl_ParseCall.ok hm hz hG (by first | assumption | omega)))) rfl (fun _ _ H => ?_); cbv)
    | (with_reducible refine s_cCal_B hV hA H (by (try simp only [hV.rI, hV.rIu8, hV.rPair, hV.rArg]); (first | (have hk_ := spec_ParseCall.ok hm hz hG hg; with_unfolding_all exact hk_) | (with_unfolding_all exact spec_ParseCall.ok hm hz hG (by first | assumption | omega)))) rfl (fun _ _ H => ?_); cbv)
    | (with_reducible refine s_cb hA H (by (try simp only [hV.rI, hV.rIu8, hV.rPair, hV.rArg]); with_unfolding_all exact laws_equalCall.ok hm hz hG) rfl (fun H => ?_) (fun H => ?_) <;> cbv)
    | (with_reducible refine s_cs hA H (by (try simp only [hV.rI, hV.rIu8, hV.rPair, hV.rArg]); with_unfolding_all exact impl_CallText.ok hm hz hG) rfl (fun _ H => ?_); cbv)
    | (with_reducible refine s_cb hA H (by (try simp only [hV.rI, hV.rIu8, hV.rPair, hV.rArg]); with_unfolding_all exact impl_ValidCall.ok hm hz hG) rfl (fun H => ?_) (fun H => ?_) <;> cbv)
    | (with_reducible refine indep_of hA ?_; cbv)
    | ((with_reducible refine side ?_); exact sideOf)
    | (with_reducible refine s_tkG hV.rI hV.nI ?_; cbv)
    | (with_reducible refine s_tkG hV.rIu8 hV.nIu8 ?_; cbv)
    | (with_reducible refine s_tkG hV.rPair hV.nPair ?_; cbv)
    | (with_reducible refine s_tkG hV.rArg hV.nArg ?_; cbv)
    | (with_reducible refine s_tk1 ?_; cbv)
    | (with_reducible refine And.intro ?_ ?_)
    | ((with_reducible refine s_cn H (fun hb H => ?_) (fun hb H => ?_)) <;> (revert H; subst hb; intro H; cbv))
    | (intro ys hys; subst hys; rfl)
    | rfl)
end
section
variable {G : Glob} (hm : pg.follows .mixedOrders = true) (hz : ∀ T, ∀ c ∈ (ttOf pg T).zero, Bd c) (hG : GF G)
include hm hz hG
theorem laws_FnParseCall.ok {a1 : List Int} (hp : bytesOK a1) : FnOK pg G 6 [.sl (a1.map eIu8)] [] (.bool (((fun (_ : List Int) => true) a1))) [] false := by
  have hl := drawPC_len hp
  refine laws_FnParseCall.w hm hz hG ?_
  simp only [laws_FnParseCall.f, on_Cal_B, lv]
  refine ln_ok fun hB => ite_ok (fun h => rfl) (fun h => ?_)
  generalize drawPC a1 = s at *
  have e := parseCall_same s
  rw [gd_ok hp, gd_ok hl, gd_ok hl, ← e]
  by_cases h : (parseCallI s).2 = true
  · obtain ⟨h1, h2⟩ := parseCallI_ok h
    have h1 : validCall ⟨(parseCallI s).1.args⟩ = true := h1
    have h2 : callText ⟨(parseCallI s).1.args⟩ = s := h2
    simp [cn_ite, h, h1, h2]
  · simp [cn_ite, h]
end
end Go.Proofs.YtoofegkjdjlpkaaGreatDoor.M
