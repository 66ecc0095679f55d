/- The reference's ParseCall; calls held against each other; FnTopCall. -/
import Derived.Test.YtoofegkjdjlpkaaGreatDoorPB
set_option linter.unusedVariables false
set_option linter.unusedSimpArgs false
set_option linter.unusedSectionVars false
namespace Go.Proofs.YtoofegkjdjlpkaaGreatDoor.M
open Go Go.Proofs
set_option maxRecDepth 100000
def parseArgS (s : Str) : Arg × Bool :=
  if (between s [42, 91] [93]).2 = true then
    match allOk readNumS (splitAt (between s [42, 91] [93]).1 32) with
    | some l => (⟨1, [], l, []⟩, true)
    | none => (arg0, false)
  else if (between s [42, 42, 123] [125]).2 = true then
    match allOk readPairS (splitAt (between s [42, 42, 123] [125]).1 32) with
    | some l => (⟨3, [], [], l⟩, true)
    | none => (arg0, false)
  else if (readPairS s).2 = true then (⟨2, (readPairS s).1.name, [(readPairS s).1.value], []⟩, true)
  else (⟨0, [], [(readNumS s).1], []⟩, (readNumS s).2)
def parseCallS (s : Str) : Cal × Bool :=
  match allOk parseArgS (splitList s) with
  | none => (⟨[]⟩, false)
  | some l => (⟨l⟩, validCall ⟨l⟩)
def ParseCallS (s : Str) : Cal × Bool := if (parseCallS s).2 = true then ((parseCallS s).1, true) else (⟨[]⟩, false)
theorem splitGo_len (c : Int) : ∀ (r cur : Str) (n : Nat), cur.length + r.length ≤ n → ∀ t ∈ splitGo c r cur, t.length ≤ n
  | [], cur, n, h, t, ht => by simp only [splitGo, List.mem_singleton] at ht; subst ht; simpa using h
  | b :: r, cur, n, h, t, ht => by
    simp only [splitGo] at ht
    simp only [List.length_cons] at h
    split at ht
    · rcases List.mem_cons.1 ht with rfl | ht
      · omega
      · exact splitGo_len c r [] n (by simp; omega) t ht
    · exact splitGo_len c r _ n (by simp; omega) t ht
theorem splitAt_len {s : Str} {c : Int} : ∀ t ∈ splitAt s c, t.length ≤ s.length := by
  intro t ht
  unfold splitAt at ht
  split at ht
  · cases ht
  · exact splitGo_len c s [] _ (by simp) t ht
theorem splitGo_count (c : Int) : ∀ (r cur : Str), (splitGo c r cur).length ≤ r.length + 1
  | [], cur => by simp [splitGo]
  | b :: r, cur => by
    simp only [splitGo]
    split
    · have := splitGo_count c r []; simp; omega
    · have := splitGo_count c r (cur ++ [b]); simp; omega
theorem splitAt_count {s : Str} {c : Int} : (splitAt s c).length ≤ s.length + 1 := by
  unfold splitAt
  split
  · simp
  · exact splitGo_count c s []
theorem splitL_len : ∀ (r cur : Str) (n : Nat), cur.length + r.length ≤ n → ∀ t ∈ splitL r cur, t.length ≤ n
  | [], cur, n, h, t, ht => by simp only [splitL, List.mem_singleton] at ht; subst ht; simpa using h
  | [b], cur, n, h, t, ht => by simp only [splitL, List.mem_singleton] at ht; subst ht; simpa using h
  | b :: d :: r, cur, n, h, t, ht => by
    simp only [splitL] at ht
    simp only [List.length_cons] at h
    split at ht
    · rcases List.mem_cons.1 ht with rfl | ht
      · omega
      · exact splitL_len r [] n (by simp; omega) t ht
    · exact splitL_len (d :: r) _ n (by simp; omega) t ht
theorem splitList_len {s : Str} : ∀ t ∈ splitList s, t.length ≤ s.length := by
  intro t ht
  unfold splitList at ht
  split at ht
  · cases ht
  · exact splitL_len s [] _ (by simp) t ht
theorem splitL_count : ∀ (r cur : Str), (splitL r cur).length ≤ r.length + 1
  | [], cur => by simp [splitL]
  | [b], cur => by simp [splitL]
  | b :: d :: r, cur => by
    simp only [splitL]
    split
    · have := splitL_count r []; simp; omega
    · have := splitL_count (d :: r) (cur ++ [b]); simp at this ⊢; omega
theorem splitList_count {s : Str} : (splitList s).length ≤ s.length + 1 := by
  unfold splitList
  split
  · simp
  · exact splitL_count s []
theorem between_len (s lo hi : Str) : (between s lo hi).1.length ≤ s.length := by
  unfold between
  split
  · simp
  · split
    · split
      · simp; omega
      · simp
    · simp
noncomputable def spec_parseArg.b1 (a1 : Str) (v265 : List Str) (h1 : (Int × (List Pair)) → Option (Arg × Bool)) (z_ : Arg × Bool) (x348 : Int) (x349 : List Pair) : Option (Arg × Bool) := (ln' z_ (v265.length) fun v370 => (if x348 < v370 then (ixS v265 x348 fun v384 => (gd (v384.length ≤ 9223372036854775806) (on_Pair_B (readPairS v384) fun v385 v386 v387 => (cn v387 (gd ((x349.length + 1) * 24 ≤ 140737488355328) (lv (x349 ++ [⟨v385, v386⟩]) fun v388 => (arr .i64 (x348 + 1) fun v389 => (h1 (v389, v388))))) (some (⟨0, ([] : Str), [], []⟩, false)))))) else (some (⟨3, ([] : Str), [], x349⟩, true))))
noncomputable def spec_parseArg.b0 (a1 : Str) (v71 : List Str) (h0 : (Int × (List Int)) → Option (Arg × Bool)) (z_ : Arg × Bool) (x114 : Int) (x115 : List Int) : Option (Arg × Bool) := (ln' z_ (v71.length) fun v126 => (if x114 < v126 then (ixS v71 x114 fun v131 => (on_I_B (readNumS v131) fun v132 v133 => (cn v133 (gd ((x115.length + 1) * 8 ≤ 140737488355328) (lv (x115 ++ [v132]) fun v134 => (arr .i64 (x114 + 1) fun v135 => (h0 (v135, v134))))) (some (⟨0, ([] : Str), [], []⟩, false))))) else (some (⟨1, ([] : Str), x115, []⟩, true))))
noncomputable def spec_parseArg.f (a1 : Str) (h0 : (List Str) → (Int × (List Int)) → Option (Arg × Bool)) (h1 : (List Str) → (Int × (List Pair)) → Option (Arg × Bool)) (z_ : Arg × Bool) : Option (Arg × Bool) := (gd ((([42, 91] : Str)).length + (([93] : Str)).length ≤ 9223372036854775807) (on_S_B (between a1 ([42, 91]) ([93])) fun v69 v70 => (cn v70 (gd (v69.length ≤ 1048576) (on_LS (splitAt v69 32) fun v71 => (h0 v71 (0, [])))) (gd ((([42, 42, 123] : Str)).length + (([125] : Str)).length ≤ 9223372036854775807) (on_S_B (between a1 ([42, 42, 123]) ([125])) fun v263 v264 => (cn v264 (gd (v263.length ≤ 1048576) (on_LS (splitAt v263 32) fun v265 => (h1 v265 (0, [])))) (gd (a1.length ≤ 9223372036854775806) (on_Pair_B (readPairS a1) fun v399 v400 v401 => (cn v401 (some (⟨2, v399, [v400], []⟩, true)) (on_I_B (readNumS a1) fun v402 v403 => (some (⟨0, ([] : Str), [v402], []⟩, v403))))))))))))
theorem pin_spec_parseArg {e : ESt} {ns : List (Nat × Nat)} {ps : List (Nat × C)} {os : List (Nat × EObj)} (hs : pinPZ (pinZ e.o (os.map Prod.fst) ns) e.s ps := by first | (cbv <;> (repeat' (first | trivial | refine And.intro ?_ ?_)) <;> (first | rfl | assumption | omega | exact clI hV _ | exact clS hV _ | exact clPair hV _ | with_unfolding_all exact hV.nI [] | with_unfolding_all exact (hV.nI []).symm | with_unfolding_all exact hV.nS [] | with_unfolding_all exact (hV.nS []).symm | with_unfolding_all exact hV.nPair [] | with_unfolding_all exact (hV.nPair []).symm | with_unfolding_all exact hV.rI _ | with_unfolding_all exact hV.rS _ | with_unfolding_all exact hV.rPair _ | with_unfolding_all exact (hV.nI _).trans (Eq.trans (by simp only [hV.nI] at *; omega) (hV.nI _).symm) | with_unfolding_all exact (hV.nS _).trans (Eq.trans (by simp only [hV.nS] at *; omega) (hV.nS _).symm) | with_unfolding_all exact (hV.nPair _).trans (Eq.trans (by simp only [hV.nPair] at *; omega) (hV.nPair _).symm) | simp [closedCell])) | fail) (ho : ∀ B : (Nat → EObj) → List (List C) → List (List C) → Prop, (∀ o rows rows', rowsZ (pinZ o (os.map Prod.fst) ns) rows rows' → B o rows rows') → pinOZ (pinZ e.o (os.map Prod.fst) ns) B e.o ns os := by intro B hB; first | (cbv <;> (repeat' (first | trivial | refine And.intro ?_ ?_ | refine pin_same hB ?_ | refine pin_nil hB ?_ | refine pin_dirty hB (by assumption) (by assumption) ?_ ?_ | exact pinL_n | refine pinL_c ?_ ?_ | exact pzr rfl rfl rfl (nrI hV _) (clI hV _) | exact pzr rfl rfl rfl (nrS hV _) (clS hV _) | exact pzr rfl rfl rfl (nrPair hV _) (clPair hV _) | (refine pz_go ?_; cbv) | (refine pinL_go ?_; cbv))) <;> (first | exact clI hV _ | exact clS hV _ | exact clPair hV _ | with_unfolding_all exact hV.rI _ | with_unfolding_all exact hV.rS _ | with_unfolding_all exact hV.rPair _ | with_unfolding_all exact hV.nI [] | with_unfolding_all exact (hV.nI []).symm | with_unfolding_all exact hV.nS [] | with_unfolding_all exact (hV.nS []).symm | with_unfolding_all exact hV.nPair [] | with_unfolding_all exact (hV.nPair []).symm | assumption | omega | rfl | with_unfolding_all exact (hV.nI _).trans (Eq.trans (by simp only [hV.nI] at *; omega) (hV.nI _).symm) | with_unfolding_all exact (hV.nS _).trans (Eq.trans (by simp only [hV.nS] at *; omega) (hV.nS _).symm) | with_unfolding_all exact (hV.nPair _).trans (Eq.trans (by simp only [hV.nPair] at *; omega) (hV.nPair _).symm) | simp [closedCell])) | fail) : PinnedZ e ns ps os := ⟨hs, ho⟩
section
variable {G : Glob} (hm : pg.follows .mixedOrders = true) (hz : ∀ T, ∀ c ∈ (ttOf pg T).zero, Bd c) (hG : GF G)
include hm hz hG
set_option maxHeartbeats 8000000 in
theorem spec_parseArg.w {a1 : Str} (inv0 : (List Str) → (Int × (List Int)) → Prop) (mu0 : (List Str) → (Int × (List Int)) → Nat) (res0 : (List Str) → (Int × (List Int)) → Arg × Bool) (inv1 : (List Str) → (Int × (List Pair)) → Prop) (mu1 : (List Str) → (Int × (List Pair)) → Nat) (res1 : (List Str) → (Int × (List Pair)) → Arg × Bool) (hb0 : ∀ (v71 : List Str), ∀ (s_ : Int × (List Int)), inv0 v71 s_ → spec_parseArg.b0 a1 v71 (LI (inv0 v71) (mu0 v71) (res0 v71) (mu0 v71 s_)) (res0 v71 s_) s_.1 s_.2 = some (res0 v71 s_)) (hb1 : ∀ (v265 : List Str), ∀ (s_ : Int × (List Pair)), inv1 v265 s_ → spec_parseArg.b1 a1 v265 (LI (inv1 v265) (mu1 v265) (res1 v265) (mu1 v265 s_)) (res1 v265 s_) s_.1 s_.2 = some (res1 v265 s_)) {r : Arg × Bool} (H : spec_parseArg.f a1 (fun v71 => EI (inv0 v71) (mu0 v71) (res0 v71)) (fun v265 => EI (inv1 v265) (mu1 v265) (res1 v265)) r = some r) : FnOK pg G 132 [.str ⟨⟨a1⟩⟩] [] (.tup [.agg [.int .i64 (r.1.kind), .str ⟨⟨(r.1.name)⟩⟩, .sl ((r.1.list).map eI), .sl ((r.1.pairs).map ePair)], .bool (r.2)]) [] true := by
  obtain ⟨V, hV⟩ := exV
  have e0_I : V.rI [] = [] := hV.rI []
  have e1_I : ∀ x r, V.rI (x :: r) = eI x :: V.rI r := fun x r => by rw [hV.rI, hV.rI]; rfl
  have e0_S : V.rS [] = [] := hV.rS []
  have e1_S : ∀ x r, V.rS (x :: r) = eS x :: V.rS r := fun x r => by rw [hV.rS, hV.rS]; rfl
  have e0_Pair : V.rPair [] = [] := hV.rPair []
  have e1_Pair : ∀ x r, V.rPair (x :: r) = ePair x :: V.rPair r := fun x r => by rw [hV.rPair, hV.rPair]; rfl
  simp only [← hV.rI, ← hV.rS, ← hV.rPair]
  refine fn_okS (tt0 := tyG [ty3, ty4, ty5, ty9, ty36, ty37, ty71, ty74, ty80]) (fn := Tryz.f132) (body := bodyOf Tryz.f132) (ext := []) hm (tyG_sub ⟨tt3, tt4, tt5, tt9, tt36, tt37, tt71, tt74, tt80, trivial⟩) hz 0 [] (by unfold pg; exact Tryz.func132) rfl rfl (by simp [Tryz.f132]) (by simp [EObj.toObj]) (by cbv) ?_
  intro A F hA hF
  unfold spec_parseArg.f at H
  cbv
  repeat' (first
    | (with_reducible refine s_gd H (fun hg H => ?_))
    | (cases H; (try simp only [e0_I, e0_S, e0_Pair, e1_I, eI, e1_S, eS, e1_Pair, ePair] at hF); with_reducible refine fin_close hF rfl (by simp [expIds, posCells, C.cells, idOf]) ?_; cbv)
    | (with_reducible refine s_lt H (fun H => ?_) (fun H => ?_) <;> cbv)
    | (with_reducible refine s_le H (fun H => ?_) (fun H => ?_) <;> cbv)
    | (with_reducible refine s_eq H (fun H => ?_) (fun H => ?_) <;> cbv)
    | (with_reducible refine s_ne H (fun H => ?_) (fun H => ?_) <;> cbv)
    | (with_reducible refine s_ln H lnOf (fun _ H => ?_); cbv)
    | (with_reducible refine s_ixS hV H (fun _ H => ?_); cbv)
    | (with_reducible refine s_ar H (fun _ H => ?_); cbv)
    | (with_reducible refine s_apI hV H (fun _ H => ?_); cbv)
    | (with_reducible refine s_apL hV.rI hV.nI H (fun _ H => ?_); cbv)
    | (with_reducible refine s_apS hV H (fun _ H => ?_); cbv)
    | (with_reducible refine s_apL hV.rS hV.nS H (fun _ H => ?_); cbv)
    | (with_reducible refine s_apPair hV H (fun _ H => ?_); cbv)
    | (with_reducible refine s_apL hV.rPair hV.nPair H (fun _ H => ?_); cbv)
    | (with_reducible refine s_lv H (fun _ H => ?_); cbv)
    | (with_reducible refine s_loop hA H (fun s h => hb0 _ s h) [2, 6, 7] [128] (fun e s => [(8, .int .i64 (s.1))]) (fun e s => [ovO e 384 [(2, .ref 3328 0 1 0 (V.nI (s.2)))], (3328, ⟨0, true, 1, .many (V.rI (s.2))⟩)]) [(3328, 1)] pin_spec_parseArg nbOf ?_; rintro ⟨x114, x115⟩ H; unfold spec_parseArg.b0 at H; (try dsimp only at H); cbv)
    | (with_reducible refine s_loop hA H (fun s h => hb1 _ s h) [2, 13, 14] [128] (fun e s => [(15, .int .i64 (s.1))]) (fun e s => [ovO e 832 [(3, .ref 5440 0 2 0 (V.nPair (s.2)))], (5440, ⟨0, true, 2, .many (V.rPair (s.2))⟩)]) [(5440, 2)] pin_spec_parseArg nbOf ?_; rintro ⟨x348, x349⟩ H; unfold spec_parseArg.b1 at H; (try dsimp only at H); cbv)
    | (with_reducible refine s_next H pin_spec_parseArg nbOf)
    | (with_reducible refine s_cS_B hV hA H (by (try simp only [hV.rI, hV.rS, hV.rPair]); (first | (have hk_ := spec_between.ok hm hz hG hg; with_unfolding_all exact hk_) | (with_unfolding_all exact spec_between.ok hm hz hG (by first | assumption | omega)))) rfl (fun _ _ H => ?_); cbv)
    | (with_reducible refine s_cLS hV hA H (by (try simp only [hV.rI, hV.rS, hV.rPair]); (first | (have hk_ := spec_splitAt.ok hm hz hG hg; with_unfolding_all exact hk_) | (with_unfolding_all exact spec_splitAt.ok hm hz hG (by first | assumption | omega)))) rfl (fun _ H => ?_); cbv)
    | (with_reducible refine s_cI_B hV hA H (by (try simp only [hV.rI, hV.rS, hV.rPair]); with_unfolding_all exact spec_readNumber.ok hm hz hG) rfl (fun _ _ H => ?_); cbv)
    | (with_reducible refine s_cPair_B hV hA H (by (try simp only [hV.rI, hV.rS, hV.rPair]); (first | (have hk_ := spec_readPair.ok hm hz hG hg; with_unfolding_all exact hk_) | (with_unfolding_all exact spec_readPair.ok hm hz hG (by first | assumption | omega)))) rfl (fun _ _ _ H => ?_); cbv)
    | (with_reducible refine indep_of hA ?_; cbv)
    | ((with_reducible refine side ?_); exact sideOf)
    | (with_reducible refine s_tkG hV.rI hV.nI ?_; cbv)
    | (with_reducible refine s_tkG hV.rS hV.nS ?_; cbv)
    | (with_reducible refine s_tkG hV.rPair hV.nPair ?_; cbv)
    | (with_reducible refine s_tk1 ?_; cbv)
    | (with_reducible refine And.intro ?_ ?_)
    | ((with_reducible refine s_cn H (fun hb H => ?_) (fun hb H => ?_)) <;> (revert H; subst hb; intro H; cbv))
    | (intro ys hys; subst hys; rfl)
    | rfl)
end
section
variable {G : Glob} (hm : pg.follows .mixedOrders = true) (hz : ∀ T, ∀ c ∈ (ttOf pg T).zero, Bd c) (hG : GF G)
include hm hz hG
theorem spec_parseArg.ok {a1 : Str} (hp : a1.length ≤ 1048576) : FnOK pg G 132 [.str ⟨⟨a1⟩⟩] [] (.tup [.agg [.int .i64 ((parseArgS a1).1.kind), .str ⟨⟨((parseArgS a1).1.name)⟩⟩, .sl (((parseArgS a1).1.list).map eI), .sl (((parseArgS a1).1.pairs).map ePair)], .bool ((parseArgS a1).2)]) [] true := by
  have b1 := between_len a1 [42, 91] [93]
  have b2 := between_len a1 [42, 42, 123] [125]
  refine spec_parseArg.w hm hz hG
    (fun (l : List Str) => rgI l (fun s : Int × List Int => s.1) (fun s => s.2.length = s.1.toNat ∧ (∀ t ∈ l, t.length ≤ 1048576) ∧ l.length ≤ 1048577)) (fun l => rgM l (fun s : Int × List Int => s.1)) (fun l => rgR l (fun s : Int × List Int => s.1) (fun r s => restOf (fun l => ((⟨1, [], l, []⟩ : Arg), true)) (arg0, false) s.2 (allOk readNumS r)))
    (fun (l : List Str) => rgI l (fun s : Int × List Pair => s.1) (fun s => s.2.length = s.1.toNat ∧ (∀ t ∈ l, t.length ≤ 1048576) ∧ l.length ≤ 1048577)) (fun l => rgM l (fun s : Int × List Pair => s.1)) (fun l => rgR l (fun s : Int × List Pair => s.1) (fun r s => restOf (fun l => ((⟨3, [], [], l⟩ : Arg), true)) (arg0, false) s.2 (allOk readPairS r)))
    (fun l => rangeS l (fun s : Int × List Int => s.1) _ _ (fun rec z s => spec_parseArg.b0 a1 l rec z s.1 s.2) ?_ ?_)
    (fun l => rangeS l (fun s : Int × List Pair => s.1) _ _ (fun rec z s => spec_parseArg.b1 a1 l rec z s.1 s.2) ?_ ?_) ?_
  · rintro rec ⟨i, acc⟩ ⟨hI, hL, hl⟩ h0 h1
    simp only at h0 h1 hI
    simp only [spec_parseArg.b0]
    refine ln_ok fun hB => ?_
    simp (disch := first | assumption | omega | (simp; done) | (simp; omega)) only [if_true, if_false, reduceIte, lv, lj, ln_at, cn_t, cn_f, cn_tf, cn_ft, cn_xx, gd_ok, arr_ok, arr_ok8, arr_ok32, arr_oku, ia_ok, bt_ok, EI_ok, LI_ok, h1, Int.lt_irrefl, allOk, restOf_nil]
  · rintro rec ⟨i, acc⟩ x r ⟨hI, hL, hl⟩ h0 h1 hx hll hr
    simp only at h0 h1 hx hll hI
    have hxl := hL x (List.mem_of_getElem? hx)
    simp only [spec_parseArg.b0, cn_ite]
    refine ln_ok fun hB => ?_
    simp (disch := first | assumption | omega | (simp; done) | (simp; omega)) only [if_true, if_false, reduceIte, lv, lj, ln_at, cn_t, cn_f, cn_tf, cn_ft, cn_xx, gd_ok, arr_ok, arr_ok8, arr_ok32, arr_oku, ia_ok, bt_ok, EI_ok, LI_ok, h1, ixS, hx, h0, on_I_B]
    refine ite_ok (fun hq => ?_) fun hq => ?_
    · rw [allOk_cons hq, restOf_cons]
      exact hr (_, _) ⟨by simp; omega, hL, hl⟩ rfl
    · rw [allOk_bad (by simpa using hq)]; rfl
  · rintro rec ⟨i, acc⟩ ⟨hI, hL, hl⟩ h0 h1
    simp only at h0 h1 hI
    simp only [spec_parseArg.b1]
    refine ln_ok fun hB => ?_
    simp (disch := first | assumption | omega | (simp; done) | (simp; omega)) only [if_true, if_false, reduceIte, lv, lj, ln_at, cn_t, cn_f, cn_tf, cn_ft, cn_xx, gd_ok, arr_ok, arr_ok8, arr_ok32, arr_oku, ia_ok, bt_ok, EI_ok, LI_ok, h1, Int.lt_irrefl, allOk, restOf_nil]
  · rintro rec ⟨i, acc⟩ x r ⟨hI, hL, hl⟩ h0 h1 hx hll hr
    simp only at h0 h1 hx hll hI
    have hxl := hL x (List.mem_of_getElem? hx)
    simp only [spec_parseArg.b1, cn_ite]
    refine ln_ok fun hB => ?_
    simp (disch := first | assumption | omega | (simp; done) | (simp; omega)) only [if_true, if_false, reduceIte, lv, lj, ln_at, cn_t, cn_f, cn_tf, cn_ft, cn_xx, gd_ok, arr_ok, arr_ok8, arr_ok32, arr_oku, ia_ok, bt_ok, EI_ok, LI_ok, h1, ixS, hx, h0, on_Pair_B]
    refine ite_ok (fun hq => ?_) fun hq => ?_
    · rw [allOk_cons hq, restOf_cons]
      exact hr (_, _) ⟨by simp; omega, hL, hl⟩ rfl
    · rw [allOk_bad (by simpa using hq)]; rfl
  · simp only [spec_parseArg.f, on_S_B, parseArgS, cn_ite]
    rw [gd_ok (by simp)]
    refine ite_ok (fun h1 => ?_) (fun h1 => ?_)
    · have hc := @splitAt_count (between a1 [42, 91] [93]).1 32
      rw [if_pos h1, gd_ok (by omega), on_LS]
      refine EI_fin (rg0 ⟨rfl, fun t ht => by have := splitAt_len t ht; omega, by omega⟩ rfl) ?_
      simp only [rgR, List.drop_zero, Int.toNat_zero]
      cases allOk readNumS (splitAt (between a1 [42, 91] [93]).1 32) <;> rfl
    · rw [if_neg h1, gd_ok (by simp)]
      refine ite_ok (fun h2 => ?_) (fun h2 => ?_)
      · have hc := @splitAt_count (between a1 [42, 42, 123] [125]).1 32
        rw [if_pos h2, gd_ok (by omega), on_LS]
        refine EI_fin (rg0 ⟨rfl, fun t ht => by have := splitAt_len t ht; omega, by omega⟩ rfl) ?_
        simp only [rgR, List.drop_zero, Int.toNat_zero]
        cases allOk readPairS (splitAt (between a1 [42, 42, 123] [125]).1 32) <;> rfl
      · rw [if_neg h2, gd_ok (by omega), on_Pair_B]
        refine ite_ok (fun h3 => by rw [if_pos h3]) (fun h3 => ?_)
        rw [if_neg h3, on_I_B]
end
noncomputable def spec_parseCall.b0 (a1 : Str) (v2 : List Str) (h0 : (Int × (List Arg)) → Option (Cal × Bool)) (z_ : Cal × Bool) (x117 : Int) (x118 : List Arg) : Option (Cal × Bool) := (ln' z_ (v2.length) fun v147 => (if x117 < v147 then (ixS v2 x117 fun v167 => (gd (v167.length ≤ 1048576) (on_Arg_B (parseArgS v167) fun v168 v169 v170 v171 v172 => (cn v172 (gd ((x118.length + 1) * 72 ≤ 140737488355328) (lv (x118 ++ [⟨v168, v169, v170, v171⟩]) fun v173 => (arr .i64 (x117 + 1) fun v174 => (h0 (v174, v173))))) (some (⟨[]⟩, false)))))) else (cn (validCall (⟨x118⟩)) (some (⟨x118⟩, true)) (some (⟨x118⟩, false)))))
noncomputable def spec_parseCall.f (a1 : Str) (h0 : (List Str) → (Int × (List Arg)) → Option (Cal × Bool)) (z_ : Cal × Bool) : Option (Cal × Bool) := (gd (a1.length ≤ 1048576) (on_LS (splitList a1) fun v2 => (h0 v2 (0, []))))
theorem pin_spec_parseCall {e : ESt} {ns : List (Nat × Nat)} {ps : List (Nat × C)} {os : List (Nat × EObj)} (hs : pinPZ (pinZ e.o (os.map Prod.fst) ns) e.s ps := by first | (cbv <;> (repeat' (first | trivial | refine And.intro ?_ ?_)) <;> (first | rfl | assumption | omega | exact clI hV _ | exact clS hV _ | exact clPair hV _ | exact clArg hV _ | with_unfolding_all exact hV.nI [] | with_unfolding_all exact (hV.nI []).symm | with_unfolding_all exact hV.nS [] | with_unfolding_all exact (hV.nS []).symm | with_unfolding_all exact hV.nPair [] | with_unfolding_all exact (hV.nPair []).symm | with_unfolding_all exact hV.nArg [] | with_unfolding_all exact (hV.nArg []).symm | with_unfolding_all exact hV.rI _ | with_unfolding_all exact hV.rS _ | with_unfolding_all exact hV.rPair _ | with_unfolding_all exact hV.rArg _ | with_unfolding_all exact (hV.nI _).trans (Eq.trans (by simp only [hV.nI] at *; omega) (hV.nI _).symm) | with_unfolding_all exact (hV.nS _).trans (Eq.trans (by simp only [hV.nS] at *; omega) (hV.nS _).symm) | with_unfolding_all exact (hV.nPair _).trans (Eq.trans (by simp only [hV.nPair] at *; omega) (hV.nPair _).symm) | with_unfolding_all exact (hV.nArg _).trans (Eq.trans (by simp only [hV.nArg] at *; omega) (hV.nArg _).symm) | simp [closedCell])) | fail) (ho : ∀ B : (Nat → EObj) → List (List C) → List (List C) → Prop, (∀ o rows rows', rowsZ (pinZ o (os.map Prod.fst) ns) rows rows' → B o rows rows') → pinOZ (pinZ e.o (os.map Prod.fst) ns) B e.o ns os := by intro B hB; first | (cbv <;> (repeat' (first | trivial | refine And.intro ?_ ?_ | refine pin_same hB ?_ | refine pin_nil hB ?_ | refine pin_dirty hB (by assumption) (by assumption) ?_ ?_ | exact pinL_n | refine pinL_c ?_ ?_ | exact pzr rfl rfl rfl (nrI hV _) (clI hV _) | exact pzr rfl rfl rfl (nrS hV _) (clS hV _) | exact pzr rfl rfl rfl (nrPair hV _) (clPair hV _) | exact pzr rfl rfl rfl (nrArg hV _) (clArg hV _) | (refine pz_go ?_; cbv) | (refine pinL_go ?_; cbv))) <;> (first | exact clI hV _ | exact clS hV _ | exact clPair hV _ | exact clArg hV _ | with_unfolding_all exact hV.rI _ | with_unfolding_all exact hV.rS _ | with_unfolding_all exact hV.rPair _ | with_unfolding_all exact hV.rArg _ | with_unfolding_all exact hV.nI [] | with_unfolding_all exact (hV.nI []).symm | with_unfolding_all exact hV.nS [] | with_unfolding_all exact (hV.nS []).symm | with_unfolding_all exact hV.nPair [] | with_unfolding_all exact (hV.nPair []).symm | with_unfolding_all exact hV.nArg [] | with_unfolding_all exact (hV.nArg []).symm | assumption | omega | rfl | with_unfolding_all exact (hV.nI _).trans (Eq.trans (by simp only [hV.nI] at *; omega) (hV.nI _).symm) | with_unfolding_all exact (hV.nS _).trans (Eq.trans (by simp only [hV.nS] at *; omega) (hV.nS _).symm) | with_unfolding_all exact (hV.nPair _).trans (Eq.trans (by simp only [hV.nPair] at *; omega) (hV.nPair _).symm) | with_unfolding_all exact (hV.nArg _).trans (Eq.trans (by simp only [hV.nArg] at *; omega) (hV.nArg _).symm) | simp [closedCell])) | fail) : PinnedZ e ns ps os := ⟨hs, ho⟩
section
variable {G : Glob} (hm : pg.follows .mixedOrders = true) (hz : ∀ T, ∀ c ∈ (ttOf pg T).zero, Bd c) (hG : GF G)
include hm hz hG
set_option maxHeartbeats 8000000 in
theorem spec_parseCall.w {a1 : Str} (inv0 : (List Str) → (Int × (List Arg)) → Prop) (mu0 : (List Str) → (Int × (List Arg)) → Nat) (res0 : (List Str) → (Int × (List Arg)) → Cal × Bool) (hb0 : ∀ (v2 : List Str), ∀ (s_ : Int × (List Arg)), inv0 v2 s_ → spec_parseCall.b0 a1 v2 (LI (inv0 v2) (mu0 v2) (res0 v2) (mu0 v2 s_)) (res0 v2 s_) s_.1 s_.2 = some (res0 v2 s_)) {r : Cal × Bool} (H : spec_parseCall.f a1 (fun v2 => EI (inv0 v2) (mu0 v2) (res0 v2)) r = some r) : FnOK pg G 67 [.str ⟨⟨a1⟩⟩] [] (.tup [.agg [.sl ((r.1.args).map eArg)], .bool (r.2)]) [] true := by
  obtain ⟨V, hV⟩ := exV
  have e0_I : V.rI [] = [] := hV.rI []
  have e1_I : ∀ x r, V.rI (x :: r) = eI x :: V.rI r := fun x r => by rw [hV.rI, hV.rI]; rfl
  have e0_S : V.rS [] = [] := hV.rS []
  have e1_S : ∀ x r, V.rS (x :: r) = eS x :: V.rS r := fun x r => by rw [hV.rS, hV.rS]; rfl
  have e0_Pair : V.rPair [] = [] := hV.rPair []
  have e1_Pair : ∀ x r, V.rPair (x :: r) = ePair x :: V.rPair r := fun x r => by rw [hV.rPair, hV.rPair]; rfl
  have e0_Arg : V.rArg [] = [] := hV.rArg []
  simp only [← hV.rI, ← hV.rS, ← hV.rPair, ← hV.rArg]
  refine fn_okS (tt0 := tyG [ty3, ty4, ty9, ty22, ty24, ty36, ty37, ty71, ty74, ty80]) (fn := Tryz.f67) (body := bodyOf Tryz.f67) (ext := []) hm (tyG_sub ⟨tt3, tt4, tt9, tt22, tt24, tt36, tt37, tt71, tt74, tt80, trivial⟩) hz 0 [] (by unfold pg; exact Tryz.func67) rfl rfl (by simp [Tryz.f67]) (by simp [EObj.toObj]) (by cbv) ?_
  intro A F hA hF
  unfold spec_parseCall.f at H
  cbv
  repeat' (first
    | (with_reducible refine s_gd H (fun hg H => ?_))
    | (cases H; (try simp only [e0_I, e0_S, e0_Pair, e0_Arg, e1_I, eI, e1_S, eS, e1_Pair, ePair] at hF); with_reducible refine fin_close hF rfl (by simp [expIds, posCells, C.cells, idOf]) ?_; cbv)
    | (with_reducible refine s_lt H (fun H => ?_) (fun H => ?_) <;> cbv)
    | (with_reducible refine s_le H (fun H => ?_) (fun H => ?_) <;> cbv)
    | (with_reducible refine s_eq H (fun H => ?_) (fun H => ?_) <;> cbv)
    | (with_reducible refine s_ne H (fun H => ?_) (fun H => ?_) <;> cbv)
    | (with_reducible refine s_ln H lnOf (fun _ H => ?_); cbv)
    | (with_reducible refine s_ixS hV H (fun _ H => ?_); cbv)
    | (with_reducible refine s_ar H (fun _ H => ?_); cbv)
    | (with_reducible refine s_apI hV H (fun _ H => ?_); cbv)
    | (with_reducible refine s_apL hV.rI hV.nI H (fun _ H => ?_); cbv)
    | (with_reducible refine s_apS hV H (fun _ H => ?_); cbv)
    | (with_reducible refine s_apL hV.rS hV.nS H (fun _ H => ?_); cbv)
    | (with_reducible refine s_apPair hV H (fun _ H => ?_); cbv)
    | (with_reducible refine s_apL hV.rPair hV.nPair H (fun _ H => ?_); cbv)
    | (with_reducible refine s_apArg hV H (fun _ H => ?_); cbv)
    | (with_reducible refine s_apL hV.rArg hV.nArg H (fun _ H => ?_); cbv)
    | (with_reducible refine s_apZArg hV H (fun _ _ H hk_ zs_ hd_ => ?_); cbv)
    | (with_reducible refine s_bnZArg hV H (fun _ _ H hk_ zs_ hd_ => ?_); cbv)
    | (with_reducible refine s_a0ZArg hV H (fun _ _ H hk_ zs_ hd_ => ?_); cbv)
    | (with_reducible refine s_lv H (fun _ H => ?_); cbv)
    | (with_reducible refine s_loop hA H (fun s h => hb0 _ s h) [2, 4, 5] [128] (fun e s => [(6, .int .i64 (s.1))]) (fun e s => [ovO e 256 [(0, .ref 576 0 4 0 (V.nArg (s.2)))], (576, ⟨0, true, 4, .many (V.rArg (s.2))⟩)]) [] pin_spec_parseCall nbOf ?_; rintro ⟨x117, x118⟩ H; unfold spec_parseCall.b0 at H; (try dsimp only at H); cbv)
    | (with_reducible refine s_next H pin_spec_parseCall nbOf)
    | (with_reducible refine s_cLS hV hA H (by (try simp only [hV.rI, hV.rS, hV.rPair, hV.rArg]); (first | (have hk_ := spec_splitList.ok hm hz hG hg; with_unfolding_all exact hk_) | (with_unfolding_all exact spec_splitList.ok hm hz hG (by first | assumption | omega)))) rfl (fun _ H => ?_); cbv)
    | (with_reducible refine s_cArg_B hV hA H (by (try simp only [hV.rI, hV.rS, hV.rPair, hV.rArg]); (first | (have hk_ := spec_parseArg.ok hm hz hG hg; with_unfolding_all exact hk_) | (with_unfolding_all exact spec_parseArg.ok hm hz hG (by first | assumption | omega)))) rfl (fun _ _ _ _ _ H => ?_); cbv)
    | (with_reducible refine s_cb hA H (by (try simp only [hV.rI, hV.rS, hV.rPair, hV.rArg]); with_unfolding_all exact spec_validCall.ok hm hz hG) rfl (fun H => ?_) (fun H => ?_) <;> cbv)
    | (with_reducible refine s_rb (by assumption) H (by (try simp only [hV.rI, hV.rS, hV.rPair, hV.rArg]); with_unfolding_all exact spec_validCall.ok hm hz hG) (fun H => ?_) (fun H => ?_) <;> cbv)
    | (with_reducible refine callT_cl hA (fun U hU => ?_); cbv)
    | (with_reducible refine indep_of hA ?_; cbv)
    | ((with_reducible refine side ?_); exact sideOf)
    | (with_reducible refine s_tkG hV.rI hV.nI ?_; cbv)
    | (with_reducible refine s_tkG hV.rS hV.nS ?_; cbv)
    | (with_reducible refine s_tkG hV.rPair hV.nPair ?_; cbv)
    | (with_reducible refine s_tkG hV.rArg hV.nArg ?_; cbv)
    | (with_reducible refine s_tk1 ?_; cbv)
    | (with_reducible refine And.intro ?_ ?_)
    | ((with_reducible refine s_cn H (fun hb H => ?_) (fun hb H => ?_)) <;> (revert H; subst hb; intro H; cbv))
    | (intro ys hys; subst hys; rfl)
    | rfl)
end
section
variable {G : Glob} (hm : pg.follows .mixedOrders = true) (hz : ∀ T, ∀ c ∈ (ttOf pg T).zero, Bd c) (hG : GF G)
include hm hz hG
theorem spec_parseCall.ok {a1 : Str} (hp : a1.length ≤ 1048576) : FnOK pg G 67 [.str ⟨⟨a1⟩⟩] [] (.tup [.agg [.sl (((parseCallS a1).1.args).map eArg)], .bool ((parseCallS a1).2)]) [] true := by
  refine spec_parseCall.w hm hz hG
    (fun (l : List Str) => rgI l (fun s : Int × List Arg => s.1) (fun s => s.2.length = s.1.toNat ∧ (∀ t ∈ l, t.length ≤ 1048576) ∧ l.length ≤ 1048577)) (fun l => rgM l (fun s : Int × List Arg => s.1)) (fun l => rgR l (fun s : Int × List Arg => s.1) (fun r s => restOf (fun l => ((⟨l⟩ : Cal), validCall ⟨l⟩)) (⟨[]⟩, false) s.2 (allOk parseArgS r)))
    (fun l => rangeS l (fun s : Int × List Arg => s.1) _ _ (fun rec z s => spec_parseCall.b0 a1 l rec z s.1 s.2) ?_ ?_) ?_
  · rintro rec ⟨i, acc⟩ ⟨hI, hL, hl⟩ h0 h1
    simp only at h0 h1 hI
    simp only [spec_parseCall.b0]
    refine ln_ok fun hB => ?_
    simp (disch := first | assumption | omega | (simp; done) | (simp; omega)) only [if_true, if_false, reduceIte, lv, lj, ln_at, cn_t, cn_f, cn_tf, cn_ft, cn_xx, gd_ok, arr_ok, arr_ok8, arr_ok32, arr_oku, ia_ok, bt_ok, EI_ok, LI_ok, h1, Int.lt_irrefl, allOk, restOf_nil]
    cases validCall ⟨acc⟩ <;> rfl
  · rintro rec ⟨i, acc⟩ x r ⟨hI, hL, hl⟩ h0 h1 hx hll hr
    simp only at h0 h1 hx hll hI
    have hxl := hL x (List.mem_of_getElem? hx)
    simp only [spec_parseCall.b0, cn_ite]
    refine ln_ok fun hB => ?_
    simp (disch := first | assumption | omega | (simp; done) | (simp; omega)) only [if_true, if_false, reduceIte, lv, lj, ln_at, cn_t, cn_f, cn_tf, cn_ft, cn_xx, gd_ok, arr_ok, arr_ok8, arr_ok32, arr_oku, ia_ok, bt_ok, EI_ok, LI_ok, h1, ixS, hx, h0, on_Arg_B]
    refine ite_ok (fun hq => ?_) fun hq => ?_
    · rw [allOk_cons hq, restOf_cons]
      exact hr (_, _) ⟨by simp; omega, hL, hl⟩ rfl
    · rw [allOk_bad (by simpa using hq)]; rfl
  · simp only [spec_parseCall.f, parseCallS]
    have hc := @splitList_count a1
    rw [gd_ok (by omega), on_LS]
    refine EI_fin (rg0 ⟨rfl, fun t ht => by have := splitList_len t ht; omega, by omega⟩ rfl) ?_
    simp only [rgR, List.drop_zero, Int.toNat_zero]
    cases allOk parseArgS (splitList a1) <;> rfl
end
def on_Cal_B {R : Type} (v : Cal × Bool) (f : (List Arg) → Bool → Option R) : Option R := f (v.1.args) (v.2)
section
variable {A : Bx} {P : Program} {G : Glob} {rg : Option Nat} {own : Nat} {o : Nat → EObj} {g : FuncId} {vs : List C} {sh : Bool} {K : C → List (Nat × EObj) → Prop} {R : Type} {r : R} {V : Vx} {v : Cal × Bool} {f : (List Arg) → Bool → Option R}
theorem s_cCal_B (hV : IsV V) (hA : IsBx true rg P G A) (H : on_Cal_B v f = some r) (hok : FnOK P G g vs [] (.tup [.agg [.sl ((v.1.args).map eArg)], .bool (v.2)]) [] sh) (hc : vs.all closedArg = true) (h : ∀ c0 c1, f c0 c1 = some r → K (.tup [.agg [.sl (V.rArg c0)], .bool c1]) []) : A.call own o g vs K := by
  refine callT_plain hA hok hc ?_
  have := h (v.1.args) (v.2) H
  simp only [hV.rArg] at this
  exact this
variable {U : List C → List Nat → (C → List (Nat × EObj) → Prop) → Prop} {bs : List C} {tops : List Nat}
end
noncomputable def spec_ParseCall.f (a1 : Str)  (z_ : Cal × Bool) : Option (Cal × Bool) := (gd (a1.length ≤ 1048576) (on_Cal_B (parseCallS a1) fun v4 v5 => (cn v5 (some (⟨v4⟩, true)) (some (⟨[]⟩, false)))))
section
variable {G : Glob} (hm : pg.follows .mixedOrders = true) (hz : ∀ T, ∀ c ∈ (ttOf pg T).zero, Bd c) (hG : GF G)
include hm hz hG
theorem spec_ParseCall.w {a1 : Str}  {r : Cal × Bool} (H : spec_ParseCall.f a1  r = some r) : FnOK pg G 16 [.str ⟨⟨a1⟩⟩] [] (.tup [.agg [.sl ((r.1.args).map eArg)], .bool (r.2)]) [] true := by
  obtain ⟨V, hV⟩ := exV
  have e0_I : V.rI [] = [] := hV.rI []
  have e1_I : ∀ x r, V.rI (x :: r) = eI x :: V.rI r := fun x r => by rw [hV.rI, hV.rI]; rfl
  have e0_Pair : V.rPair [] = [] := hV.rPair []
  have e1_Pair : ∀ x r, V.rPair (x :: r) = ePair x :: V.rPair r := fun x r => by rw [hV.rPair, hV.rPair]; rfl
  have e0_Arg : V.rArg [] = [] := hV.rArg []
  simp only [← hV.rI, ← hV.rPair, ← hV.rArg]
  refine fn_okS (tt0 := tyG [ty3, ty4, ty9, ty22, ty24, ty36, ty37, ty74, ty80]) (fn := Tryz.f16) (body := bodyOf Tryz.f16) (ext := []) hm (tyG_sub ⟨tt3, tt4, tt9, tt22, tt24, tt36, tt37, tt74, tt80, trivial⟩) hz 0 [] (by unfold pg; exact Tryz.func16) rfl rfl (by simp [Tryz.f16]) (by simp [EObj.toObj]) (by cbv) ?_
  intro A F hA hF
  unfold spec_ParseCall.f at H
  cbv
  repeat' (first
    | (with_reducible refine s_gd H (fun hg H => ?_))
    | (cases H; (try simp only [e0_I, e0_Pair, e0_Arg, e1_I, eI, e1_Pair, ePair] at hF); with_reducible refine fin_close hF rfl (by simp [expIds, posCells, C.cells, idOf]) ?_; cbv)
    | (with_reducible refine s_lv H (fun _ H => ?_); cbv)
    | (with_reducible refine s_cCal_B hV hA H (by (try simp only [hV.rI, hV.rPair, hV.rArg]); (first | (have hk_ := spec_parseCall.ok hm hz hG hg; with_unfolding_all exact hk_) | (with_unfolding_all exact spec_parseCall.ok hm hz hG (by first | assumption | omega)))) rfl (fun _ _ H => ?_); cbv)
    | (with_reducible refine indep_of hA ?_; cbv)
    | ((with_reducible refine side ?_); exact sideOf)
    | (with_reducible refine s_tkG hV.rI hV.nI ?_; cbv)
    | (with_reducible refine s_tkG hV.rPair hV.nPair ?_; cbv)
    | (with_reducible refine s_tkG hV.rArg hV.nArg ?_; cbv)
    | (with_reducible refine s_tk1 ?_; cbv)
    | (with_reducible refine And.intro ?_ ?_)
    | ((with_reducible refine s_cn H (fun hb H => ?_) (fun hb H => ?_)) <;> (revert H; subst hb; intro H; cbv))
    | (intro ys hys; subst hys; rfl)
    | rfl)
end
section
variable {G : Glob} (hm : pg.follows .mixedOrders = true) (hz : ∀ T, ∀ c ∈ (ttOf pg T).zero, Bd c) (hG : GF G)
include hm hz hG
theorem spec_ParseCall.ok {a1 : Str} (hp : a1.length ≤ 1048576) : FnOK pg G 16 [.str ⟨⟨a1⟩⟩] [] (.tup [.agg [.sl (((ParseCallS a1).1.args).map eArg)], .bool ((ParseCallS a1).2)]) [] true := by
  refine spec_ParseCall.w hm hz hG ?_
  simp only [spec_ParseCall.f, on_Cal_B, ParseCallS, cn_ite]
  rw [gd_ok hp]
  refine ite_ok (fun h => by rw [if_pos h]) (fun h => by rw [if_neg h])
end
end Go.Proofs.YtoofegkjdjlpkaaGreatDoor.M
