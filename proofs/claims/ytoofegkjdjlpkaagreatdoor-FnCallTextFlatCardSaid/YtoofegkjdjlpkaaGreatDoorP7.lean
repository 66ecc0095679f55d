/- Texts of arguments and calls. -/
import Derived.Test.YtoofegkjdjlpkaaGreatDoorP6
set_option linter.unusedVariables false
set_option linter.unusedSimpArgs false
set_option linter.unusedSectionVars false
namespace Go.Proofs.YtoofegkjdjlpkaaGreatDoor.M
open Go Go.Proofs
set_option maxRecDepth 100000
def argText (a : Arg) : Str :=
  if a.kind = 1 then [42, 91] ++ numsText a.list ++ [93]
  else if a.kind = 2 then a.name ++ [61] ++ numsText a.list
  else if a.kind = 3 then [42, 42, 123] ++ pairsText a.pairs ++ [125]
  else numsText a.list
def callText (c : Cal) : Str := if validCall c = true then joinW (c.args.map argText) [44, 32] else []
theorem numsText_len {l : List Int} (h : areValues l = true) (hl : l.length ≤ 16) : (numsText l).length ≤ 144 := by
  have := joinW_len (n := 8) (s := [32]) (l.map number) (fun x hx => by obtain ⟨y, hy, rfl⟩ := List.mem_map.1 hx; exact vnum_len (List.all_eq_true.1 h y hy))
  rw [List.length_map] at this
  exact Nat.le_trans this (Nat.mul_le_mul hl (Nat.le_refl 9))
theorem pairsText_len {l : List Pair} (h : validPairs l = true) (hl : l.length ≤ 16) : (pairsText l).length ≤ 256 := by
  have := joinW_len (n := 15) (s := [32]) (l.map pairText) (fun x hx => by obtain ⟨y, hy, rfl⟩ := List.mem_map.1 hx; exact pairText_len (List.all_eq_true.1 h y hy))
  rw [List.length_map] at this
  exact Nat.le_trans this (Nat.mul_le_mul hl (Nat.le_refl 16))
theorem validArg_0 {a : Arg} (h : validArg a = true) (hk : a.kind = 0) : a.name = [] ∧ a.list.length = 1 ∧ a.pairs = [] ∧ areValues a.list = true := by
  simp [validArg, hk] at h; exact ⟨h.1.1.1, by omega, h.1.2, h.2⟩
theorem validArg_1 {a : Arg} (h : validArg a = true) (hk : a.kind = 1) : a.name = [] ∧ a.list.length ≤ 8 ∧ a.pairs = [] ∧ areValues a.list = true := by
  simp [validArg, hk] at h; exact ⟨h.1.1.1, by omega, h.1.2, h.2⟩
theorem validArg_2 {a : Arg} (h : validArg a = true) (hk : a.kind = 2) : isName a.name = true ∧ a.list.length = 1 ∧ a.pairs = [] ∧ areValues a.list = true := by
  simp [validArg, hk] at h; exact ⟨h.1.1.1, by omega, h.1.2, h.2⟩
theorem validArg_3 {a : Arg} (h : validArg a = true) (hk : a.kind = 3) : a.name = [] ∧ a.list = [] ∧ a.pairs.length ≤ 8 ∧ validPairs a.pairs = true := by
  simp [validArg, hk] at h; exact ⟨h.1.1.1, h.1.1.2, by omega, h.2⟩
theorem argText_len {a : Arg} (h : validArg a = true) : (argText a).length ≤ 300 := by
  unfold argText
  rcases valid_kind h with hk | hk | hk | hk <;> simp only [hk] <;> simp
  · obtain ⟨_, h2, _, h4⟩ := validArg_0 h hk; have := numsText_len h4 (by omega); omega
  · obtain ⟨_, h2, _, h4⟩ := validArg_1 h hk; have := numsText_len h4 (by omega); omega
  · obtain ⟨h1, h2, _, h4⟩ := validArg_2 h hk; have := numsText_len h4 (by omega); have := isName_len h1; omega
  · obtain ⟨_, _, h2, h4⟩ := validArg_3 h hk; have := pairsText_len h4 (by omega); omega
theorem callGo_valid : ∀ {l : List Arg} {p : Bool}, callGo p l = true → ∀ a ∈ l, validArg a = true
  | [], _, _, a, ha => by cases ha
  | b :: r, p, h, a, ha => by
    simp only [callGo, Bool.and_eq_true] at h
    rcases List.mem_cons.1 ha with rfl | ha
    · exact h.1.1
    · exact callGo_valid h.2 a ha
theorem validCall_args {c : Cal} (h : validCall c = true) : (∀ a ∈ c.args, validArg a = true) ∧ c.args.length ≤ 16 := by
  simp only [validCall, Bool.and_eq_true, decide_eq_true_eq] at h
  exact ⟨callGo_valid h.1, by omega⟩
noncomputable def impl_Arg_text.f (a1 : Int) (a2 : Str) (a3 : List Int) (a4 : List Pair)  (z_ : Str) : Option (Str) := (if a1 = 1 then (gd (areValues a3 = true ∧ a3.length ≤ 16) (lv (numsText a3) fun v5 => (gd (([42, 91]).length + v5.length ≤ 9223372036854775807) (lv ([42, 91] ++ v5) fun v6 => (gd (v6.length + ([93]).length ≤ 9223372036854775807) (lv (v6 ++ [93]) fun v7 => (some v7))))))) else (if a1 = 2 then (gd (a2.length + ([61]).length ≤ 9223372036854775807) (lv (a2 ++ [61]) fun v8 => (gd (areValues a3 = true ∧ a3.length ≤ 16) (lv (numsText a3) fun v9 => (gd (v8.length + v9.length ≤ 9223372036854775807) (lv (v8 ++ v9) fun v10 => (some v10))))))) else (if a1 = 3 then (gd (validPairs a4 = true ∧ a4.length ≤ 16) (lv (pairsText a4) fun v11 => (gd (([42, 42, 123]).length + v11.length ≤ 9223372036854775807) (lv ([42, 42, 123] ++ v11) fun v12 => (gd (v12.length + ([125]).length ≤ 9223372036854775807) (lv (v12 ++ [125]) fun v13 => (some v13))))))) else (gd (areValues a3 = true ∧ a3.length ≤ 16) (lv (numsText a3) fun v14 => (some v14))))))
section
variable {G : Glob} (hm : pg.follows .mixedOrders = true) (hz : ∀ T, ∀ c ∈ (ttOf pg T).zero, Bd c) (hG : GF G)
include hm hz hG
theorem impl_Arg_text.w {a1 : Int} {a2 : Str} {a3 : List Int} {a4 : List Pair}  {r : Str} (H : impl_Arg_text.f a1 a2 a3 a4  r = some r) : FnOK pg G 70 [.agg [.int .i64 a1, .str ⟨⟨a2⟩⟩, .sl (a3.map eI), .sl (a4.map ePair)]] [] (.str ⟨⟨r⟩⟩) [] false := by
  obtain ⟨V, hV⟩ := exV
  simp only [← hV.rI, ← hV.rPair]
  refine fn_ok (tt0 := tyG [ty3, ty4, ty9, ty36, ty37, ty74, ty80]) (fn := Tryz.f70) (body := bodyOf Tryz.f70) (ext := []) hm (tyG_sub ⟨tt3, tt4, tt9, tt36, tt37, tt74, tt80, trivial⟩) hz 0 true [] (by unfold pg; exact Tryz.func70) rfl rfl (by simp [Tryz.f70]) (by simp [EObj.toObj]) (by cbv) ?_
  intro A F hA hF
  unfold impl_Arg_text.f at H
  cbv
  repeat' (first
    | (with_reducible refine s_gd H (fun hg H => ?_))
    | (cases H; exact fin_plain hF rfl rfl rfl rfl)
    | (with_reducible refine s_lt H (fun H => ?_) (fun H => ?_) <;> cbv)
    | (with_reducible refine s_le H (fun H => ?_) (fun H => ?_) <;> cbv)
    | (with_reducible refine s_eq H (fun H => ?_) (fun H => ?_) <;> cbv)
    | (with_reducible refine s_ne H (fun H => ?_) (fun H => ?_) <;> cbv)
    | (with_reducible refine s_apI hV H (fun _ H => ?_); cbv)
    | (with_reducible refine s_apL hV.rI hV.nI H (fun _ H => ?_); cbv)
    | (with_reducible refine s_bnI hV H (fun _ H => ?_); cbv)
    | (with_reducible refine s_apPair hV H (fun _ H => ?_); cbv)
    | (with_reducible refine s_apL hV.rPair hV.nPair H (fun _ H => ?_); cbv)
    | (with_reducible refine s_bnPair hV H (fun _ H => ?_); cbv)
    | (with_reducible refine s_lv H (fun _ H => ?_); cbv)
    | (with_reducible refine s_cs hA H (by (try simp only [hV.rI, hV.rPair]); (first | (have hk_ := impl_numbersText.ok hm hz hG hg; with_unfolding_all exact hk_) | (with_unfolding_all exact impl_numbersText.ok hm hz hG (by first | assumption | omega)))) rfl (fun _ H => ?_); cbv)
    | (with_reducible refine s_cs hA H (by (try simp only [hV.rI, hV.rPair]); (first | (have hk_ := impl_pairsText.ok hm hz hG hg; with_unfolding_all exact hk_) | (with_unfolding_all exact impl_pairsText.ok hm hz hG (by first | assumption | omega)))) rfl (fun _ H => ?_); cbv)
    | (with_reducible refine indep_of hA ?_; cbv)
    | ((with_reducible refine side ?_); exact sideOf)
    | (with_reducible refine s_tkG hV.rI hV.nI ?_; cbv)
    | (with_reducible refine s_tkG hV.rPair hV.nPair ?_; cbv)
    | (with_reducible refine s_tk1 ?_; cbv)
    | (with_reducible refine And.intro ?_ ?_)
    | (intro ys hys; subst hys; rfl)
    | rfl)
end
section
variable {G : Glob} (hm : pg.follows .mixedOrders = true) (hz : ∀ T, ∀ c ∈ (ttOf pg T).zero, Bd c) (hG : GF G)
include hm hz hG
theorem impl_Arg_text.ok {a1 : Int} {a2 : Str} {a3 : List Int} {a4 : List Pair} (hp : validArg ⟨a1, a2, a3, a4⟩ = true) : FnOK pg G 70 [.agg [.int .i64 a1, .str ⟨⟨a2⟩⟩, .sl (a3.map eI), .sl (a4.map ePair)]] [] (.str ⟨⟨((argText ⟨a1, a2, a3, a4⟩))⟩⟩) [] false := by
  refine impl_Arg_text.w hm hz hG ?_
  simp only [impl_Arg_text.f, argText]
  rcases valid_kind hp with hk | hk | hk | hk <;> simp only at hk <;> subst hk
  · obtain ⟨_, h2, _, h4⟩ := validArg_0 hp rfl
    simp only at h2 h4
    simp (disch := first | assumption | omega | (simp; done) | (simp; omega)) only [if_true, if_false, reduceIte, lv, lj, ln_at, cn_t, cn_f, cn_tf, cn_ft, cn_xx, gd_ok, arr_ok, arr_ok8, arr_ok32, arr_oku, ia_ok, bt_ok, EI_ok, LI_ok, h4, true_and]
    try simp
  · obtain ⟨_, h2, _, h4⟩ := validArg_1 hp rfl
    simp only at h2 h4
    have := numsText_len h4 (by omega)
    simp (disch := first | assumption | omega | (simp; done) | (simp; omega)) only [if_true, if_false, reduceIte, lv, lj, ln_at, cn_t, cn_f, cn_tf, cn_ft, cn_xx, gd_ok, arr_ok, arr_ok8, arr_ok32, arr_oku, ia_ok, bt_ok, EI_ok, LI_ok, h4, true_and]
    try simp
  · obtain ⟨h1, h2, _, h4⟩ := validArg_2 hp rfl
    simp only at h1 h2 h4
    have := numsText_len h4 (by omega)
    have := isName_len h1
    simp (disch := first | assumption | omega | (simp; done) | (simp; omega)) only [if_true, if_false, reduceIte, lv, lj, ln_at, cn_t, cn_f, cn_tf, cn_ft, cn_xx, gd_ok, arr_ok, arr_ok8, arr_ok32, arr_oku, ia_ok, bt_ok, EI_ok, LI_ok, h4, true_and]
    try simp
  · obtain ⟨_, _, h2, h4⟩ := validArg_3 hp rfl
    simp only at h2 h4
    have := pairsText_len h4 (by omega)
    simp (disch := first | assumption | omega | (simp; done) | (simp; omega)) only [if_true, if_false, reduceIte, lv, lj, ln_at, cn_t, cn_f, cn_tf, cn_ft, cn_xx, gd_ok, arr_ok, arr_ok8, arr_ok32, arr_oku, ia_ok, bt_ok, EI_ok, LI_ok, h4, true_and]
    try simp
end
noncomputable def impl_CallText.b0 (a1 : List Arg) (v68 : Int) (h0 : ((List Str) × Int) → Option (Str)) (z_ : Str) (x90 : List Str) (x91 : Int) : Option (Str) := (if x91 < v68 then (ixArg a1 x91 fun v127 v128 v129 v130 => (gd (validArg ⟨v127, v128, v129, v130⟩ = true) (lv (argText (⟨v127, v128, v129, v130⟩)) fun v131 => (gd ((x90.length + 1) * 16 ≤ 140737488355328) (lv (x90 ++ [v131]) fun v132 => (arr .i64 (x91 + 1) fun v133 => (h0 (v132, v133)))))))) else (gd ((joinW x90 (([44, 32] : Str))).length ≤ 140737488355328 ∧ x90.length ≤ 140737488355328) (lv (joinW x90 ([44, 32])) fun v134 => (some v134))))
noncomputable def impl_CallText.f (a1 : List Arg) (h0 : Int → ((List Str) × Int) → Option (Str)) (z_ : Str) : Option (Str) := (cn (validCall (⟨a1⟩)) (ln' z_ (a1.length) fun v68 => (h0 v68 ([], 0))) (some (([] : Str))))
theorem pin_impl_CallText {e : ESt} {ns : List (Nat × Nat)} {ps : List (Nat × C)} {os : List (Nat × EObj)} (hs : pinPZ (pinZ e.o (os.map Prod.fst) ns) e.s ps := by first | (cbv <;> (repeat' (first | trivial | refine And.intro ?_ ?_)) <;> (first | rfl | assumption | omega | exact clI hV _ | exact clS hV _ | exact clPair hV _ | exact clArg hV _ | with_unfolding_all exact hV.nI [] | with_unfolding_all exact (hV.nI []).symm | with_unfolding_all exact hV.nS [] | with_unfolding_all exact (hV.nS []).symm | with_unfolding_all exact hV.nPair [] | with_unfolding_all exact (hV.nPair []).symm | with_unfolding_all exact hV.nArg [] | with_unfolding_all exact (hV.nArg []).symm | with_unfolding_all exact hV.rI _ | with_unfolding_all exact hV.rS _ | with_unfolding_all exact hV.rPair _ | with_unfolding_all exact hV.rArg _ | with_unfolding_all exact (hV.nI _).trans (Eq.trans (by simp only [hV.nI] at *; omega) (hV.nI _).symm) | with_unfolding_all exact (hV.nS _).trans (Eq.trans (by simp only [hV.nS] at *; omega) (hV.nS _).symm) | with_unfolding_all exact (hV.nPair _).trans (Eq.trans (by simp only [hV.nPair] at *; omega) (hV.nPair _).symm) | with_unfolding_all exact (hV.nArg _).trans (Eq.trans (by simp only [hV.nArg] at *; omega) (hV.nArg _).symm) | simp [closedCell])) | fail) (ho : ∀ B : (Nat → EObj) → List (List C) → List (List C) → Prop, (∀ o rows rows', rowsZ (pinZ o (os.map Prod.fst) ns) rows rows' → B o rows rows') → pinOZ (pinZ e.o (os.map Prod.fst) ns) B e.o ns os := by intro B hB; first | (cbv <;> (repeat' (first | trivial | refine And.intro ?_ ?_ | refine pin_same hB ?_ | refine pin_nil hB ?_ | refine pin_dirty hB (by assumption) (by assumption) ?_ ?_ | exact pinL_n | refine pinL_c ?_ ?_ | exact pzr rfl rfl rfl (nrI hV _) (clI hV _) | exact pzr rfl rfl rfl (nrS hV _) (clS hV _) | exact pzr rfl rfl rfl (nrPair hV _) (clPair hV _) | exact pzr rfl rfl rfl (nrArg hV _) (clArg hV _) | (refine pz_go ?_; cbv) | (refine pinL_go ?_; cbv))) <;> (first | exact clI hV _ | exact clS hV _ | exact clPair hV _ | exact clArg hV _ | with_unfolding_all exact hV.rI _ | with_unfolding_all exact hV.rS _ | with_unfolding_all exact hV.rPair _ | with_unfolding_all exact hV.rArg _ | with_unfolding_all exact hV.nI [] | with_unfolding_all exact (hV.nI []).symm | with_unfolding_all exact hV.nS [] | with_unfolding_all exact (hV.nS []).symm | with_unfolding_all exact hV.nPair [] | with_unfolding_all exact (hV.nPair []).symm | with_unfolding_all exact hV.nArg [] | with_unfolding_all exact (hV.nArg []).symm | assumption | omega | rfl | with_unfolding_all exact (hV.nI _).trans (Eq.trans (by simp only [hV.nI] at *; omega) (hV.nI _).symm) | with_unfolding_all exact (hV.nS _).trans (Eq.trans (by simp only [hV.nS] at *; omega) (hV.nS _).symm) | with_unfolding_all exact (hV.nPair _).trans (Eq.trans (by simp only [hV.nPair] at *; omega) (hV.nPair _).symm) | with_unfolding_all exact (hV.nArg _).trans (Eq.trans (by simp only [hV.nArg] at *; omega) (hV.nArg _).symm) | simp [closedCell])) | fail) : PinnedZ e ns ps os := ⟨hs, ho⟩
section
variable {G : Glob} (hm : pg.follows .mixedOrders = true) (hz : ∀ T, ∀ c ∈ (ttOf pg T).zero, Bd c) (hG : GF G)
include hm hz hG
set_option maxHeartbeats 8000000 in
theorem impl_CallText.w {a1 : List Arg} (inv0 : Int → ((List Str) × Int) → Prop) (mu0 : Int → ((List Str) × Int) → Nat) (res0 : Int → ((List Str) × Int) → Str) (hb0 : ∀ (v68 : Int), ∀ (s_ : (List Str) × Int), inv0 v68 s_ → impl_CallText.b0 a1 v68 (LI (inv0 v68) (mu0 v68) (res0 v68) (mu0 v68 s_)) (res0 v68 s_) s_.1 s_.2 = some (res0 v68 s_)) {r : Str} (H : impl_CallText.f a1 (fun v68 => EI (inv0 v68) (mu0 v68) (res0 v68)) r = some r) : FnOK pg G 18 [.agg [.sl (a1.map eArg)]] [] (.str ⟨⟨r⟩⟩) [] false := by
  obtain ⟨V, hV⟩ := exV
  simp only [← hV.rI, ← hV.rS, ← hV.rPair, ← hV.rArg]
  refine fn_ok (tt0 := tyG [ty3, ty4, ty9, ty22, ty24, ty36, ty37, ty71, ty74, ty80]) (fn := Tryz.f18) (body := bodyOf Tryz.f18) (ext := []) hm (tyG_sub ⟨tt3, tt4, tt9, tt22, tt24, tt36, tt37, tt71, tt74, tt80, trivial⟩) hz 0 true [] (by unfold pg; exact Tryz.func18) rfl rfl (by simp [Tryz.f18]) (by simp [EObj.toObj]) (by cbv) ?_
  intro A F hA hF
  unfold impl_CallText.f at H
  cbv
  repeat' (first
    | (with_reducible refine s_gd H (fun hg H => ?_))
    | (cases H; exact fin_plain hF rfl rfl rfl rfl)
    | (with_reducible refine s_lt H (fun H => ?_) (fun H => ?_) <;> cbv)
    | (with_reducible refine s_le H (fun H => ?_) (fun H => ?_) <;> cbv)
    | (with_reducible refine s_eq H (fun H => ?_) (fun H => ?_) <;> cbv)
    | (with_reducible refine s_ne H (fun H => ?_) (fun H => ?_) <;> cbv)
    | (with_reducible refine s_ln H lnOf (fun _ H => ?_); cbv)
    | (with_reducible refine s_ixArg hV H (fun _ _ _ _ H => ?_); cbv)
    | (with_reducible refine s_ar H (fun _ H => ?_); cbv)
    | (with_reducible refine s_apI hV H (fun _ H => ?_); cbv)
    | (with_reducible refine s_apL hV.rI hV.nI H (fun _ H => ?_); cbv)
    | (with_reducible refine s_apS hV H (fun _ H => ?_); cbv)
    | (with_reducible refine s_apL hV.rS hV.nS H (fun _ H => ?_); cbv)
    | (with_reducible refine s_apPair hV H (fun _ H => ?_); cbv)
    | (with_reducible refine s_apL hV.rPair hV.nPair H (fun _ H => ?_); cbv)
    | (with_reducible refine s_apArg hV H (fun _ H => ?_); cbv)
    | (with_reducible refine s_apL hV.rArg hV.nArg H (fun _ H => ?_); cbv)
    | (with_reducible refine s_apZArg hV H (fun _ _ H hk_ zs_ hd_ => ?_); cbv)
    | (with_reducible refine s_bnZArg hV H (fun _ _ H hk_ zs_ hd_ => ?_); cbv)
    | (with_reducible refine s_a0ZArg hV H (fun _ _ H hk_ zs_ hd_ => ?_); cbv)
    | (with_reducible refine s_lv H (fun _ H => ?_); cbv)
    | (with_reducible refine s_loop hA H (fun s h => hb0 _ s h) [11, 10] [] (fun e s => [(3, .ref 1280 0 1 0 (V.nS (s.1))), (12, .int .i64 (s.2))]) (fun e s => [(1280, ⟨0, true, 1, .many (V.rS (s.1))⟩)]) [(1280, 1)] pin_impl_CallText nbOf ?_; rintro ⟨x90, x91⟩ H; unfold impl_CallText.b0 at H; (try dsimp only at H); cbv)
    | (with_reducible refine s_next H pin_impl_CallText nbOf)
    | (with_reducible refine s_cb hA H (by (try simp only [hV.rI, hV.rS, hV.rPair, hV.rArg]); with_unfolding_all exact impl_ValidCall.ok hm hz hG) rfl (fun H => ?_) (fun H => ?_) <;> cbv)
    | (with_reducible refine s_cs hA H (by (try simp only [hV.rI, hV.rS, hV.rPair, hV.rArg]); (first | (have hk_ := impl_Arg_text.ok hm hz hG hg; with_unfolding_all exact hk_) | (with_unfolding_all exact impl_Arg_text.ok hm hz hG (by first | assumption | omega)))) rfl (fun _ H => ?_); cbv)
    | (with_reducible refine s_cs hA H (by (try simp only [hV.rI, hV.rS, hV.rPair, hV.rArg]); with_unfolding_all exact strings_Join.ok hm hz hG (by first | assumption | omega)) rfl (fun _ H => ?_); cbv)
    | (with_reducible refine s_rs (by assumption) H (by (try simp only [hV.rI, hV.rS, hV.rPair, hV.rArg]); with_unfolding_all exact strings_Join.ok hm hz hG (by first | assumption | omega)) (fun _ H => ?_); cbv)
    | (with_reducible refine callT_cl hA (fun U hU => ?_); cbv)
    | (with_reducible refine indep_of hA ?_; cbv)
    | ((with_reducible refine side ?_); exact sideOf)
    | (with_reducible refine s_tkG hV.rI hV.nI ?_; cbv)
    | (with_reducible refine s_tkG hV.rS hV.nS ?_; cbv)
    | (with_reducible refine s_tkG hV.rPair hV.nPair ?_; cbv)
    | (with_reducible refine s_tkG hV.rArg hV.nArg ?_; cbv)
    | (with_reducible refine s_tk1 ?_; cbv)
    | (with_reducible refine And.intro ?_ ?_)
    | ((with_reducible refine s_cn H (fun hb H => ?_) (fun hb H => ?_)) <;> (revert H; subst hb; intro H; cbv))
    | (intro ys hys; subst hys; rfl)
    | rfl)
end
section
variable {G : Glob} (hm : pg.follows .mixedOrders = true) (hz : ∀ T, ∀ c ∈ (ttOf pg T).zero, Bd c) (hG : GF G)
include hm hz hG
theorem impl_CallText.ok {a1 : List Arg}  : FnOK pg G 18 [.agg [.sl (a1.map eArg)]] [] (.str ⟨⟨((callText ⟨a1⟩))⟩⟩) [] false := by
  have hl : validCall ⟨a1⟩ = true → (joinW (a1.map argText) [44, 32]).length ≤ 16 * 302 := fun hv => by
    obtain ⟨h1, h2⟩ := validCall_args hv
    have := joinW_len (n := 300) (s := [44, 32]) (a1.map argText) (fun x hx => by obtain ⟨y, hy, rfl⟩ := List.mem_map.1 hx; exact argText_len (h1 y hy))
    rw [List.length_map] at this
    exact Nat.le_trans this (Nat.mul_le_mul h2 (Nat.le_refl 302))
  have A := @impl_CallText.w G hm hz hG a1 (fun v => rgI (a1) (fun s : List Str × Int => s.2) (fun s : List Str × Int => validCall ⟨a1⟩ = true ∧ v = a1.length ∧ s.1 = (a1.take s.2.toNat).map argText)) (fun v => rgM (a1) (fun s : List Str × Int => s.2)) (fun v => rgR (a1) (fun s : List Str × Int => s.2) (fun r (s : List Str × Int) => callText ⟨a1⟩)) (fun v => rangeS (a1) (fun s : List Str × Int => s.2) (fun s : List Str × Int => validCall ⟨a1⟩ = true ∧ v = a1.length ∧ s.1 = (a1.take s.2.toNat).map argText) (fun r (s : List Str × Int) => callText ⟨a1⟩) (fun rec z s => impl_CallText.b0 a1 v rec z s.1 s.2) ?_ ?_)
  · refine A ?_
    simp only [impl_CallText.f, cn_ite]
    refine ite_ok (fun hv => ln_ok fun hB => EI_fin (rg0 ⟨hv, rfl, rfl⟩ rfl) rfl) fun hv => ?_
    rw [callText, if_neg hv]
  · rintro rec ⟨acc, i⟩ ⟨hv, rfl, hI⟩ h0 h1
    simp only at h0 h1 hI
    rw [take_len h1] at hI
    subst hI
    have := (validCall_args hv).2
    simp only at this
    simp only [impl_CallText.b0]
    rw [if_neg (by omega), gd_ok ⟨by exact Nat.le_trans (hl hv) (by omega), by simp; omega⟩, callText, if_pos hv]
    rfl
  · rintro rec ⟨acc, i⟩ x r ⟨hv, rfl, hI⟩ h0 h1 hx hll hr
    simp only at h0 h1 hx hll hI
    subst hI
    have hx1 := (validCall_args hv).1 x (List.mem_of_getElem? hx)
    have := (validCall_args hv).2
    simp only at this
    have hc := @map_take_le _ _ argText a1 i.toNat
    simp only [impl_CallText.b0]
    simp (disch := first | assumption | omega | (simp; done) | (simp; omega)) only [if_true, if_false, reduceIte, lv, lj, ln_at, cn_t, cn_f, cn_tf, cn_ft, cn_xx, gd_ok, arr_ok, arr_ok8, arr_ok32, arr_oku, ia_ok, bt_ok, EI_ok, LI_ok, h1, ixArg, hx, h0, eta_Arg, map_take_snoc h0 hx]
    exact hr _ ⟨hv, rfl, rfl⟩ rfl
end
end Go.Proofs.YtoofegkjdjlpkaaGreatDoor.M
