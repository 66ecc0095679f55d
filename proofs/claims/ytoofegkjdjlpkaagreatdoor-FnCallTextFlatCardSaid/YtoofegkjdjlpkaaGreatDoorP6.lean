/- Texts of calls. -/
import Derived.Test.YtoofegkjdjlpkaaGreatDoorP5
set_option linter.unusedVariables false
set_option linter.unusedSimpArgs false
set_option linter.unusedSectionVars false
namespace Go.Proofs.YtoofegkjdjlpkaaGreatDoor.M
open Go Go.Proofs
set_option maxRecDepth 100000
def pairText (p : Pair) : Str := p.name ++ 61 :: number p.value
def numsText (l : List Int) : Str := joinW (l.map number) [32]
def pairsText (l : List Pair) : Str := joinW (l.map pairText) [32]
theorem joinW_nil (s : Str) : joinW [] s = [] := rfl
theorem joinW_one (x s : Str) : joinW [x] s = x := by simp [joinW, Lib.join, List.intercalate]
theorem joinW_cons (x y : Str) (r : List Str) (s : Str) : joinW (x :: y :: r) s = x ++ s ++ joinW (y :: r) s := by simp [joinW, Lib.join, List.intercalate]
theorem joinW_len {n : Nat} {s : Str} : ∀ (l : List Str), (∀ x ∈ l, x.length ≤ n) → (joinW l s).length ≤ l.length * (n + s.length)
  | [], _ => by simp [joinW_nil]
  | [x], h => by have := h x (by simp); rw [joinW_one]; simp; omega
  | x :: y :: r, h => by
    have h1 := h x (by simp)
    have h2 := joinW_len (n := n) (s := s) (y :: r) (fun z hz => h z (by simp [hz]))
    rw [joinW_cons]
    simp only [List.length_append, List.length_cons] at h2 ⊢
    rw [show (r.length + 1 + 1) * (n + s.length) = (r.length + 1) * (n + s.length) + (n + s.length) by rw [Nat.add_mul _ 1, Nat.one_mul]]
    omega
theorem isName_len {s : Str} (h : isName s = true) : 1 ≤ s.length ∧ s.length ≤ 6 := by
  simp only [isName, inRange, Bool.and_eq_true, decide_eq_true_eq] at h; omega
theorem isValue_rng {n : Int} (h : isValue n = true) : -99 ≤ n ∧ n ≤ 99 := by simpa [isValue, inRange] using h
theorem vnum_len {n : Int} (h : isValue n = true) : (number n).length ≤ 8 := number_len (by have := isValue_rng h; omega)
theorem pairText_len {p : Pair} (h : validPair p = true) : (pairText p).length ≤ 15 := by
  simp only [validPair, Bool.and_eq_true] at h
  have := isName_len h.1; have := vnum_len h.2
  simp [pairText]; omega
noncomputable def impl_numbersText.b0 (a1 : List Int) (v26 : Int) (h0 : (Int × (List Str)) → Option (Str)) (z_ : Str) (x34 : Int) (x35 : List Str) : Option (Str) := (if x34 < v26 then (ixI a1 x34 fun v46 => (gd (-9223372036854775808 ≤ v46 ∧ v46 ≤ 9223372036854775807) (lv (number v46) fun v47 => (gd ((x35.length + 1) * 16 ≤ 140737488355328) (lv (x35 ++ [v47]) fun v48 => (arr .i64 (x34 + 1) fun v49 => (h0 (v49, v48)))))))) else (gd ((joinW x35 (([32] : Str))).length ≤ 140737488355328 ∧ x35.length ≤ 140737488355328) (lv (joinW x35 ([32])) fun v50 => (some v50))))
noncomputable def impl_numbersText.f (a1 : List Int) (h0 : Int → (Int × (List Str)) → Option (Str)) (z_ : Str) : Option (Str) := (ln' z_ (a1.length) fun v26 => (h0 v26 (0, [])))
theorem pin_impl_numbersText {e : ESt} {ns : List (Nat × Nat)} {ps : List (Nat × C)} {os : List (Nat × EObj)} (hs : pinPZ (pinZ e.o (os.map Prod.fst) ns) e.s ps := by first | (cbv <;> (repeat' (first | trivial | refine And.intro ?_ ?_)) <;> (first | rfl | assumption | omega | exact clI hV _ | exact clS hV _ | with_unfolding_all exact hV.nI [] | with_unfolding_all exact (hV.nI []).symm | with_unfolding_all exact hV.nS [] | with_unfolding_all exact (hV.nS []).symm | with_unfolding_all exact hV.rI _ | with_unfolding_all exact hV.rS _ | with_unfolding_all exact (hV.nI _).trans (Eq.trans (by simp only [hV.nI] at *; omega) (hV.nI _).symm) | with_unfolding_all exact (hV.nS _).trans (Eq.trans (by simp only [hV.nS] at *; omega) (hV.nS _).symm) | simp [closedCell])) | fail) (ho : ∀ B : (Nat → EObj) → List (List C) → List (List C) → Prop, (∀ o rows rows', rowsZ (pinZ o (os.map Prod.fst) ns) rows rows' → B o rows rows') → pinOZ (pinZ e.o (os.map Prod.fst) ns) B e.o ns os := by intro B hB; first | (cbv <;> (repeat' (first | trivial | refine And.intro ?_ ?_ | refine pin_same hB ?_ | refine pin_nil hB ?_ | refine pin_dirty hB (by assumption) (by assumption) ?_ ?_ | exact pinL_n | refine pinL_c ?_ ?_ | exact pzr rfl rfl rfl (nrI hV _) (clI hV _) | exact pzr rfl rfl rfl (nrS hV _) (clS hV _) | (refine pz_go ?_; cbv) | (refine pinL_go ?_; cbv))) <;> (first | exact clI hV _ | exact clS hV _ | with_unfolding_all exact hV.rI _ | with_unfolding_all exact hV.rS _ | with_unfolding_all exact hV.nI [] | with_unfolding_all exact (hV.nI []).symm | with_unfolding_all exact hV.nS [] | with_unfolding_all exact (hV.nS []).symm | assumption | omega | rfl | with_unfolding_all exact (hV.nI _).trans (Eq.trans (by simp only [hV.nI] at *; omega) (hV.nI _).symm) | with_unfolding_all exact (hV.nS _).trans (Eq.trans (by simp only [hV.nS] at *; omega) (hV.nS _).symm) | simp [closedCell])) | fail) : PinnedZ e ns ps os := ⟨hs, ho⟩
section
variable {G : Glob} (hm : pg.follows .mixedOrders = true) (hz : ∀ T, ∀ c ∈ (ttOf pg T).zero, Bd c) (hG : GF G)
include hm hz hG
set_option maxHeartbeats 8000000 in
theorem impl_numbersText.w {a1 : List Int} (inv0 : Int → (Int × (List Str)) → Prop) (mu0 : Int → (Int × (List Str)) → Nat) (res0 : Int → (Int × (List Str)) → Str) (hb0 : ∀ (v26 : Int), ∀ (s_ : Int × (List Str)), inv0 v26 s_ → impl_numbersText.b0 a1 v26 (LI (inv0 v26) (mu0 v26) (res0 v26) (mu0 v26 s_)) (res0 v26 s_) s_.1 s_.2 = some (res0 v26 s_)) {r : Str} (H : impl_numbersText.f a1 (fun v26 => EI (inv0 v26) (mu0 v26) (res0 v26)) r = some r) : FnOK pg G 133 [.sl (a1.map eI)] [] (.str ⟨⟨r⟩⟩) [] false := by
  obtain ⟨V, hV⟩ := exV
  simp only [← hV.rI, ← hV.rS]
  refine fn_ok (tt0 := tyG [ty3, ty9, ty36, ty71]) (fn := Tryz.f133) (body := bodyOf Tryz.f133) (ext := []) hm (tyG_sub ⟨tt3, tt9, tt36, tt71, trivial⟩) hz 0 true [] (by unfold pg; exact Tryz.func133) rfl rfl (by simp [Tryz.f133]) (by simp [EObj.toObj]) (by cbv) ?_
  intro A F hA hF
  unfold impl_numbersText.f at H
  cbv
  repeat' (first
    | (with_reducible refine s_gd H (fun hg H => ?_))
    | (cases H; exact fin_plain hF rfl rfl rfl rfl)
    | (with_reducible refine s_lt H (fun H => ?_) (fun H => ?_) <;> cbv)
    | (with_reducible refine s_le H (fun H => ?_) (fun H => ?_) <;> cbv)
    | (with_reducible refine s_eq H (fun H => ?_) (fun H => ?_) <;> cbv)
    | (with_reducible refine s_ne H (fun H => ?_) (fun H => ?_) <;> cbv)
    | (with_reducible refine s_ln H lnOf (fun _ H => ?_); cbv)
    | (with_reducible refine s_ixI hV H (fun _ H => ?_); cbv)
    | (with_reducible refine s_ar H (fun _ H => ?_); cbv)
    | (with_reducible refine s_apI hV H (fun _ H => ?_); cbv)
    | (with_reducible refine s_apL hV.rI hV.nI H (fun _ H => ?_); cbv)
    | (with_reducible refine s_apS hV H (fun _ H => ?_); cbv)
    | (with_reducible refine s_apL hV.rS hV.nS H (fun _ H => ?_); cbv)
    | (with_reducible refine s_lv H (fun _ H => ?_); cbv)
    | (with_reducible refine s_loop hA H (fun s h => hb0 _ s h) [6, 7] [] (fun e s => [(8, .int .i64 (s.1)), (3, .ref 1024 0 1 0 (V.nS (s.2)))]) (fun e s => [(1024, ⟨0, true, 1, .many (V.rS (s.2))⟩)]) [(1024, 1)] pin_impl_numbersText nbOf ?_; rintro ⟨x34, x35⟩ H; unfold impl_numbersText.b0 at H; (try dsimp only at H); cbv)
    | (with_reducible refine s_next H pin_impl_numbersText nbOf)
    | (with_reducible refine s_cs hA H (by (try simp only [hV.rI, hV.rS]); with_unfolding_all exact strconv_Itoa.ok hm hz hG (by first | assumption | omega)) rfl (fun _ H => ?_); cbv)
    | (with_reducible refine s_cs hA H (by (try simp only [hV.rI, hV.rS]); with_unfolding_all exact strings_Join.ok hm hz hG (by first | assumption | omega)) rfl (fun _ H => ?_); cbv)
    | (with_reducible refine s_rs (by assumption) H (by (try simp only [hV.rI, hV.rS]); with_unfolding_all exact strings_Join.ok hm hz hG (by first | assumption | omega)) (fun _ H => ?_); cbv)
    | (with_reducible refine callT_cl hA (fun U hU => ?_); cbv)
    | (with_reducible refine indep_of hA ?_; cbv)
    | ((with_reducible refine side ?_); exact sideOf)
    | (with_reducible refine s_tkG hV.rI hV.nI ?_; cbv)
    | (with_reducible refine s_tkG hV.rS hV.nS ?_; cbv)
    | (with_reducible refine s_tk1 ?_; cbv)
    | (with_reducible refine And.intro ?_ ?_)
    | (intro ys hys; subst hys; rfl)
    | rfl)
end
noncomputable def impl_pairsText.b0 (a1 : List Pair) (v56 : Int) (h0 : (Int × (List Str)) → Option (Str)) (z_ : Str) (x74 : Int) (x75 : List Str) : Option (Str) := (if x74 < v56 then (ixPair a1 x74 fun v103 v104 => (gd (v103.length + ([61]).length ≤ 9223372036854775807) (lv (v103 ++ [61]) fun v105 => (gd (-9223372036854775808 ≤ v104 ∧ v104 ≤ 9223372036854775807) (lv (number v104) fun v106 => (gd (v105.length + v106.length ≤ 9223372036854775807) (lv (v105 ++ v106) fun v107 => (gd ((x75.length + 1) * 16 ≤ 140737488355328) (lv (x75 ++ [v107]) fun v108 => (arr .i64 (x74 + 1) fun v109 => (h0 (v109, v108)))))))))))) else (gd ((joinW x75 (([32] : Str))).length ≤ 140737488355328 ∧ x75.length ≤ 140737488355328) (lv (joinW x75 ([32])) fun v110 => (some v110))))
noncomputable def impl_pairsText.f (a1 : List Pair) (h0 : Int → (Int × (List Str)) → Option (Str)) (z_ : Str) : Option (Str) := (ln' z_ (a1.length) fun v56 => (h0 v56 (0, [])))
theorem pin_impl_pairsText {e : ESt} {ns : List (Nat × Nat)} {ps : List (Nat × C)} {os : List (Nat × EObj)} (hs : pinPZ (pinZ e.o (os.map Prod.fst) ns) e.s ps := by first | (cbv <;> (repeat' (first | trivial | refine And.intro ?_ ?_)) <;> (first | rfl | assumption | omega | exact clS hV _ | exact clPair hV _ | with_unfolding_all exact hV.nS [] | with_unfolding_all exact (hV.nS []).symm | with_unfolding_all exact hV.nPair [] | with_unfolding_all exact (hV.nPair []).symm | with_unfolding_all exact hV.rS _ | with_unfolding_all exact hV.rPair _ | with_unfolding_all exact (hV.nS _).trans (Eq.trans (by simp only [hV.nS] at *; omega) (hV.nS _).symm) | with_unfolding_all exact (hV.nPair _).trans (Eq.trans (by simp only [hV.nPair] at *; omega) (hV.nPair _).symm) | simp [closedCell])) | fail) (ho : ∀ B : (Nat → EObj) → List (List C) → List (List C) → Prop, (∀ o rows rows', rowsZ (pinZ o (os.map Prod.fst) ns) rows rows' → B o rows rows') → pinOZ (pinZ e.o (os.map Prod.fst) ns) B e.o ns os := by intro B hB; first | (cbv <;> (repeat' (first | trivial | refine And.intro ?_ ?_ | refine pin_same hB ?_ | refine pin_nil hB ?_ | refine pin_dirty hB (by assumption) (by assumption) ?_ ?_ | exact pinL_n | refine pinL_c ?_ ?_ | exact pzr rfl rfl rfl (nrS hV _) (clS hV _) | exact pzr rfl rfl rfl (nrPair hV _) (clPair hV _) | (refine pz_go ?_; cbv) | (refine pinL_go ?_; cbv))) <;> (first | exact clS hV _ | exact clPair hV _ | with_unfolding_all exact hV.rS _ | with_unfolding_all exact hV.rPair _ | with_unfolding_all exact hV.nS [] | with_unfolding_all exact (hV.nS []).symm | with_unfolding_all exact hV.nPair [] | with_unfolding_all exact (hV.nPair []).symm | assumption | omega | rfl | with_unfolding_all exact (hV.nS _).trans (Eq.trans (by simp only [hV.nS] at *; omega) (hV.nS _).symm) | with_unfolding_all exact (hV.nPair _).trans (Eq.trans (by simp only [hV.nPair] at *; omega) (hV.nPair _).symm) | simp [closedCell])) | fail) : PinnedZ e ns ps os := ⟨hs, ho⟩
section
variable {G : Glob} (hm : pg.follows .mixedOrders = true) (hz : ∀ T, ∀ c ∈ (ttOf pg T).zero, Bd c) (hG : GF G)
include hm hz hG
set_option maxHeartbeats 8000000 in
theorem impl_pairsText.w {a1 : List Pair} (inv0 : Int → (Int × (List Str)) → Prop) (mu0 : Int → (Int × (List Str)) → Nat) (res0 : Int → (Int × (List Str)) → Str) (hb0 : ∀ (v56 : Int), ∀ (s_ : Int × (List Str)), inv0 v56 s_ → impl_pairsText.b0 a1 v56 (LI (inv0 v56) (mu0 v56) (res0 v56) (mu0 v56 s_)) (res0 v56 s_) s_.1 s_.2 = some (res0 v56 s_)) {r : Str} (H : impl_pairsText.f a1 (fun v56 => EI (inv0 v56) (mu0 v56) (res0 v56)) r = some r) : FnOK pg G 134 [.sl (a1.map ePair)] [] (.str ⟨⟨r⟩⟩) [] false := by
  obtain ⟨V, hV⟩ := exV
  simp only [← hV.rS, ← hV.rPair]
  refine fn_ok (tt0 := tyG [ty3, ty9, ty37, ty71, ty80]) (fn := Tryz.f134) (body := bodyOf Tryz.f134) (ext := []) hm (tyG_sub ⟨tt3, tt9, tt37, tt71, tt80, trivial⟩) hz 0 true [] (by unfold pg; exact Tryz.func134) rfl rfl (by simp [Tryz.f134]) (by simp [EObj.toObj]) (by cbv) ?_
  intro A F hA hF
  unfold impl_pairsText.f at H
  cbv
  repeat' (first
    | (with_reducible refine s_gd H (fun hg H => ?_))
    | (cases H; exact fin_plain hF rfl rfl rfl rfl)
    | (with_reducible refine s_lt H (fun H => ?_) (fun H => ?_) <;> cbv)
    | (with_reducible refine s_le H (fun H => ?_) (fun H => ?_) <;> cbv)
    | (with_reducible refine s_eq H (fun H => ?_) (fun H => ?_) <;> cbv)
    | (with_reducible refine s_ne H (fun H => ?_) (fun H => ?_) <;> cbv)
    | (with_reducible refine s_ln H lnOf (fun _ H => ?_); cbv)
    | (with_reducible refine s_ixPair hV H (fun _ _ H => ?_); cbv)
    | (with_reducible refine s_ar H (fun _ H => ?_); cbv)
    | (with_reducible refine s_apS hV H (fun _ H => ?_); cbv)
    | (with_reducible refine s_apL hV.rS hV.nS H (fun _ H => ?_); cbv)
    | (with_reducible refine s_apPair hV H (fun _ H => ?_); cbv)
    | (with_reducible refine s_apL hV.rPair hV.nPair H (fun _ H => ?_); cbv)
    | (with_reducible refine s_lv H (fun _ H => ?_); cbv)
    | (with_reducible refine s_loop hA H (fun s h => hb0 _ s h) [6, 7] [] (fun e s => [(8, .int .i64 (s.1)), (3, .ref 1344 0 1 0 (V.nS (s.2)))]) (fun e s => [(1344, ⟨0, true, 1, .many (V.rS (s.2))⟩)]) [(1344, 1)] pin_impl_pairsText nbOf ?_; rintro ⟨x74, x75⟩ H; unfold impl_pairsText.b0 at H; (try dsimp only at H); cbv)
    | (with_reducible refine s_next H pin_impl_pairsText nbOf)
    | (with_reducible refine s_cs hA H (by (try simp only [hV.rS, hV.rPair]); with_unfolding_all exact strconv_Itoa.ok hm hz hG (by first | assumption | omega)) rfl (fun _ H => ?_); cbv)
    | (with_reducible refine s_cs hA H (by (try simp only [hV.rS, hV.rPair]); with_unfolding_all exact strings_Join.ok hm hz hG (by first | assumption | omega)) rfl (fun _ H => ?_); cbv)
    | (with_reducible refine s_rs (by assumption) H (by (try simp only [hV.rS, hV.rPair]); with_unfolding_all exact strings_Join.ok hm hz hG (by first | assumption | omega)) (fun _ H => ?_); cbv)
    | (with_reducible refine callT_cl hA (fun U hU => ?_); cbv)
    | (with_reducible refine indep_of hA ?_; cbv)
    | ((with_reducible refine side ?_); exact sideOf)
    | (with_reducible refine s_tkG hV.rS hV.nS ?_; cbv)
    | (with_reducible refine s_tkG hV.rPair hV.nPair ?_; cbv)
    | (with_reducible refine s_tk1 ?_; cbv)
    | (with_reducible refine And.intro ?_ ?_)
    | (intro ys hys; subst hys; rfl)
    | rfl)
end
section
variable {G : Glob} (hm : pg.follows .mixedOrders = true) (hz : ∀ T, ∀ c ∈ (ttOf pg T).zero, Bd c) (hG : GF G)
include hm hz hG
theorem impl_numbersText.ok {a1 : List Int} (hp : areValues a1 = true ∧ a1.length ≤ 16) : FnOK pg G 133 [.sl (a1.map eI)] [] (.str ⟨⟨((numsText a1))⟩⟩) [] false := by
  have hv : ∀ x ∈ a1, isValue x = true := List.all_eq_true.1 hp.1
  have hl : (numsText a1).length ≤ 16 * 9 := by
    have := joinW_len (n := 8) (s := [32]) (a1.map number) (fun x hx => by obtain ⟨y, hy, rfl⟩ := List.mem_map.1 hx; exact vnum_len (hv y hy))
    rw [List.length_map] at this
    exact Nat.le_trans this (Nat.mul_le_mul hp.2 (by simp))
  have A := @impl_numbersText.w G hm hz hG a1 (fun v => rgI (a1) (fun s : Int × List Str => s.1) (fun s : Int × List Str => v = a1.length ∧ s.2 = (a1.take s.1.toNat).map number)) (fun v => rgM (a1) (fun s : Int × List Str => s.1)) (fun v => rgR (a1) (fun s : Int × List Str => s.1) (fun r (s : Int × List Str) => numsText a1)) (fun v => rangeS (a1) (fun s : Int × List Str => s.1) (fun s : Int × List Str => v = a1.length ∧ s.2 = (a1.take s.1.toNat).map number) (fun r (s : Int × List Str) => numsText a1) (fun rec z s => impl_numbersText.b0 a1 v rec z s.1 s.2) ?_ ?_)
  · exact A (ln_ok fun hB => EI_fin (rg0 ⟨rfl, rfl⟩ rfl) rfl)
  · rintro rec ⟨i, acc⟩ ⟨rfl, hI⟩ h0 h1
    simp only at h0 h1 hI
    rw [take_len h1] at hI
    subst hI
    simp only [impl_numbersText.b0]
    rw [if_neg (by omega), gd_ok ⟨by exact Nat.le_trans hl (by omega), by simp; omega⟩]
    rfl
  · rintro rec ⟨i, acc⟩ x r ⟨rfl, hI⟩ h0 h1 hx hll hr
    simp only at h0 h1 hx hll hI
    subst hI
    have hx2 := isValue_rng (hv x (List.mem_of_getElem? hx))
    have hc := @map_take_le _ _ number a1 i.toNat
    simp only [impl_numbersText.b0]
    simp (disch := first | assumption | omega | (simp; done) | (simp; omega)) only [if_true, if_false, reduceIte, lv, lj, ln_at, cn_t, cn_f, cn_tf, cn_ft, cn_xx, gd_ok, arr_ok, arr_ok8, arr_ok32, arr_oku, ia_ok, bt_ok, EI_ok, LI_ok, h1, ixI, hx, h0, map_take_snoc h0 hx]
    exact hr _ ⟨rfl, rfl⟩ rfl
end
section
variable {G : Glob} (hm : pg.follows .mixedOrders = true) (hz : ∀ T, ∀ c ∈ (ttOf pg T).zero, Bd c) (hG : GF G)
include hm hz hG
theorem impl_pairsText.ok {a1 : List Pair} (hp : validPairs a1 = true ∧ a1.length ≤ 16) : FnOK pg G 134 [.sl (a1.map ePair)] [] (.str ⟨⟨((pairsText a1))⟩⟩) [] false := by
  have hv : ∀ x ∈ a1, validPair x = true := List.all_eq_true.1 hp.1
  have hl : (pairsText a1).length ≤ 16 * 16 := by
    have := joinW_len (n := 15) (s := [32]) (a1.map pairText) (fun x hx => by obtain ⟨y, hy, rfl⟩ := List.mem_map.1 hx; exact pairText_len (hv y hy))
    rw [List.length_map] at this
    exact Nat.le_trans this (Nat.mul_le_mul hp.2 (by simp))
  have A := @impl_pairsText.w G hm hz hG a1 (fun v => rgI (a1) (fun s : Int × List Str => s.1) (fun s : Int × List Str => v = a1.length ∧ s.2 = (a1.take s.1.toNat).map pairText)) (fun v => rgM (a1) (fun s : Int × List Str => s.1)) (fun v => rgR (a1) (fun s : Int × List Str => s.1) (fun r (s : Int × List Str) => pairsText a1)) (fun v => rangeS (a1) (fun s : Int × List Str => s.1) (fun s : Int × List Str => v = a1.length ∧ s.2 = (a1.take s.1.toNat).map pairText) (fun r (s : Int × List Str) => pairsText a1) (fun rec z s => impl_pairsText.b0 a1 v rec z s.1 s.2) ?_ ?_)
  · exact A (ln_ok fun hB => EI_fin (rg0 ⟨rfl, rfl⟩ rfl) rfl)
  · rintro rec ⟨i, acc⟩ ⟨rfl, hI⟩ h0 h1
    simp only at h0 h1 hI
    rw [take_len h1] at hI
    subst hI
    simp only [impl_pairsText.b0]
    rw [if_neg (by omega), gd_ok ⟨by exact Nat.le_trans hl (by omega), by simp; omega⟩]
    rfl
  · rintro rec ⟨i, acc⟩ x r ⟨rfl, hI⟩ h0 h1 hx hll hr
    simp only at h0 h1 hx hll hI
    subst hI
    have hx1 := hv x (List.mem_of_getElem? hx)
    simp only [validPair, Bool.and_eq_true] at hx1
    have hx2 := isValue_rng hx1.2
    have hx3 := isName_len hx1.1
    have hx4 := vnum_len hx1.2
    have hc := @map_take_le _ _ pairText a1 i.toNat
    simp only [impl_pairsText.b0]
    simp (disch := first | assumption | omega | (simp; done) | (simp; omega)) only [if_true, if_false, reduceIte, lv, lj, ln_at, cn_t, cn_f, cn_tf, cn_ft, cn_xx, gd_ok, arr_ok, arr_ok8, arr_ok32, arr_oku, ia_ok, bt_ok, EI_ok, LI_ok, h1, ixPair, hx, h0]
    rw [show x.name ++ [61] ++ number x.value = pairText x by simp [pairText], map_take_snoc h0 hx]
    exact hr _ ⟨rfl, rfl⟩ rfl
end
end Go.Proofs.YtoofegkjdjlpkaaGreatDoor.M
