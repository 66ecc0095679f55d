/- The reference's texts of calls. -/
import Derived.Test.YtoofegkjdjlpkaaGreatDoorQ3
set_option linter.unusedVariables false
set_option linter.unusedSimpArgs false
set_option linter.unusedSectionVars false
namespace Go.Proofs.YtoofegkjdjlpkaaGreatDoor.M
open Go Go.Proofs
set_option maxRecDepth 100000
theorem joinW_snoc {s x : Str} : ∀ {l : List Str}, l ≠ [] → joinW (l ++ [x]) s = joinW l s ++ s ++ x
  | [], h => absurd rfl h
  | [a], _ => by rw [List.singleton_append, joinW_cons, joinW_one, joinW_one]
  | a :: b :: r, _ => by
    rw [List.cons_append, List.cons_append, joinW_cons, joinW_cons, ← List.cons_append, joinW_snoc (l := b :: r) (by simp)]
    simp [List.append_assoc]
theorem joinW_take {s : Str} {l : List Str} : ∀ {r k : List Str}, l = k ++ r → (joinW k s).length ≤ (joinW l s).length
  | [], k, h => by rw [h, List.append_nil]; exact Nat.le_refl _
  | x :: r, k, h => by
    refine Nat.le_trans ?_ (joinW_take (r := r) (k := k ++ [x]) (by rw [h]; simp))
    by_cases hk : k = []
    · subst hk; simp [joinW_nil]
    · rw [joinW_snoc hk]; simp
noncomputable def spec_joinWith.b0 (a1 : List Str) (a2 : Str)  (h0 : (Str × Int) → Option (Str)) (z_ : Str) (x9 : Str) (x10 : Int) : Option (Str) := (ln' z_ (a1.length) fun v17 => (if x10 < v17 then (lj 0 (fun J0 => (if 0 < x10 then (gd (x9.length + a2.length ≤ 9223372036854775807) (lv (x9 ++ a2) fun v20 => (J0 v20))) else (J0 x9))) (fun x19 => (ixS a1 x10 fun v21 => (gd (x19.length + v21.length ≤ 9223372036854775807) (lv (x19 ++ v21) fun v22 => (arr .i64 (x10 + 1) fun v23 => (h0 (v22, v23)))))))) else (some x9)))
noncomputable def spec_joinWith.f (a1 : List Str) (a2 : Str) (h0 : (Str × Int) → Option (Str)) (z_ : Str) : Option (Str) := (h0 (([] : Str), 0))
theorem pin_spec_joinWith {e : ESt} {ns : List (Nat × Nat)} {ps : List (Nat × C)} {os : List (Nat × EObj)} (hs : pinPZ (pinZ e.o (os.map Prod.fst) ns) e.s ps := by first | (cbv <;> (repeat' (first | trivial | refine And.intro ?_ ?_)) <;> (first | rfl | assumption | omega | exact clS hV _ | with_unfolding_all exact hV.nS [] | with_unfolding_all exact (hV.nS []).symm | with_unfolding_all exact hV.rS _ | with_unfolding_all exact (hV.nS _).trans (Eq.trans (by simp only [hV.nS] at *; omega) (hV.nS _).symm) | simp [closedCell])) | fail) (ho : ∀ B : (Nat → EObj) → List (List C) → List (List C) → Prop, (∀ o rows rows', rowsZ (pinZ o (os.map Prod.fst) ns) rows rows' → B o rows rows') → pinOZ (pinZ e.o (os.map Prod.fst) ns) B e.o ns os := by intro B hB; first | (cbv <;> (repeat' (first | trivial | refine And.intro ?_ ?_ | refine pin_same hB ?_ | refine pin_nil hB ?_ | refine pin_dirty hB (by assumption) (by assumption) ?_ ?_ | exact pinL_n | refine pinL_c ?_ ?_ | exact pzr rfl rfl rfl (nrS hV _) (clS hV _) | (refine pz_go ?_; cbv) | (refine pinL_go ?_; cbv))) <;> (first | exact clS hV _ | with_unfolding_all exact hV.rS _ | with_unfolding_all exact hV.nS [] | with_unfolding_all exact (hV.nS []).symm | assumption | omega | rfl | with_unfolding_all exact (hV.nS _).trans (Eq.trans (by simp only [hV.nS] at *; omega) (hV.nS _).symm) | simp [closedCell])) | fail) : PinnedZ e ns ps os := ⟨hs, ho⟩
section
variable {G : Glob} (hm : pg.follows .mixedOrders = true) (hz : ∀ T, ∀ c ∈ (ttOf pg T).zero, Bd c) (hG : GF G)
include hm hz hG
set_option maxHeartbeats 8000000 in
theorem spec_joinWith.w {a1 : List Str} {a2 : Str} (inv0 : (Str × Int) → Prop) (mu0 : (Str × Int) → Nat) (res0 : (Str × Int) → Str) (hb0 : ∀ (s_ : Str × Int), inv0  s_ → spec_joinWith.b0 a1 a2  (LI (inv0 ) (mu0 ) (res0 ) (mu0  s_)) (res0  s_) s_.1 s_.2 = some (res0  s_)) {r : Str} (H : spec_joinWith.f a1 a2 (EI (inv0 ) (mu0 ) (res0 )) r = some r) : FnOK pg G 148 [.sl (a1.map eS), .str ⟨⟨a2⟩⟩] [] (.str ⟨⟨r⟩⟩) [] false := by
  obtain ⟨V, hV⟩ := exV
  simp only [← hV.rS]
  refine fn_ok (tt0 := tyG [ty3, ty4, ty9, ty71]) (fn := Tryz.f148) (body := bodyOf Tryz.f148) (ext := []) hm (tyG_sub ⟨tt3, tt4, tt9, tt71, trivial⟩) hz 0 true [7] (by unfold pg; exact Tryz.func148) rfl rfl (by simp [Tryz.f148]) (by simp [EObj.toObj]) (by cbv) ?_
  intro A F hA hF
  unfold spec_joinWith.f at H
  cbv
  repeat' (first
    | (with_reducible refine s_gd H (fun hg H => ?_))
    | (cases H; exact fin_plain hF rfl rfl rfl rfl)
    | (with_reducible refine s_lt H (fun H => ?_) (fun H => ?_) <;> cbv)
    | (with_reducible refine s_le H (fun H => ?_) (fun H => ?_) <;> cbv)
    | (with_reducible refine s_eq H (fun H => ?_) (fun H => ?_) <;> cbv)
    | (with_reducible refine s_ne H (fun H => ?_) (fun H => ?_) <;> cbv)
    | (with_reducible refine s_ln H lnOf (fun _ H => ?_); cbv)
    | (with_reducible refine s_ixS hV H (fun _ H => ?_); cbv)
    | (with_reducible refine s_ar H (fun _ H => ?_); cbv)
    | (with_reducible refine s_apS hV H (fun _ H => ?_); cbv)
    | (with_reducible refine s_apL hV.rS hV.nS H (fun _ H => ?_); cbv)
    | (with_reducible refine s_lv H (fun _ H => ?_); cbv)
    | (with_reducible refine s_loop hA H (fun s h => hb0  s h) [0, 1] [] (fun e s => [(5, .str ⟨⟨(s.1)⟩⟩), (6, .int .i64 (s.2))]) (fun e s => []) [] pin_spec_joinWith nbOf ?_; rintro ⟨x9, x10⟩ H; unfold spec_joinWith.b0 at H; (try dsimp only at H); cbv)
    | (with_reducible refine s_next H pin_spec_joinWith nbOf)
    | (with_reducible refine s_joint 0 hA H [0, 1, 6] [] (fun e s => [(5, .str ⟨⟨s⟩⟩)]) (fun e s => []) (fun J0 H => ?_) ?_; rotate_left; (rintro x19 H; (try dsimp only at H); cbv); rotate_left; cbv)
    | (with_reducible refine s_meet H [] pin_spec_joinWith nbOf)
    | (with_reducible refine indep_of hA ?_; cbv)
    | ((with_reducible refine side ?_); exact sideOf)
    | (with_reducible refine s_tkG hV.rS hV.nS ?_; cbv)
    | (with_reducible refine s_tk1 ?_; cbv)
    | (with_reducible refine And.intro ?_ ?_)
    | (intro ys hys; subst hys; rfl)
    | rfl)
end
section
variable {G : Glob} (hm : pg.follows .mixedOrders = true) (hz : ∀ T, ∀ c ∈ (ttOf pg T).zero, Bd c) (hG : GF G)
include hm hz hG
theorem spec_joinWith.ok {a1 : List Str} {a2 : Str} (hp : (joinW a1 a2).length ≤ 1000000000) : FnOK pg G 148 [.sl (a1.map eS), .str ⟨⟨a2⟩⟩] [] (.str ⟨⟨((joinW a1 a2))⟩⟩) [] false := by
  have A := @spec_joinWith.w G hm hz hG a1 a2 (rgI (a1) (fun s : Str × Int => s.2) (fun s : Str × Int => s.1 = joinW (a1.take s.2.toNat) a2)) (rgM (a1) (fun s : Str × Int => s.2)) (rgR (a1) (fun s : Str × Int => s.2) (fun r (s : Str × Int) => joinW a1 a2)) (rangeS (a1) (fun s : Str × Int => s.2) (fun s : Str × Int => s.1 = joinW (a1.take s.2.toNat) a2) (fun r (s : Str × Int) => joinW a1 a2) (fun rec z s => spec_joinWith.b0 a1 a2  rec z s.1 s.2) ?_ ?_)
  · exact A (EI_fin (rg0 rfl rfl) rfl)
  · rintro rec ⟨acc, i⟩ hI h0 h1
    simp only at h0 h1 hI
    rw [take_len h1] at hI
    subst hI
    simp only [spec_joinWith.b0]
    refine ln_ok fun hB => ?_
    rw [if_neg (by omega)]
  · rintro rec ⟨acc, i⟩ x r hI h0 h1 hx hll hr
    simp only at h0 h1 hx hll hI
    subst hI
    have e1 : a1.take (i + 1).toNat = a1.take i.toNat ++ [x] := by rw [show (i + 1).toNat = i.toNat + 1 by omega, take_snoc hx]
    have b1 := joinW_take (s := a2) (l := a1) (k := a1.take (i + 1).toNat) (r := a1.drop (i + 1).toNat) (List.take_append_drop _ _).symm
    rw [e1] at b1
    simp only [spec_joinWith.b0, lj, lv]
    refine ln_ok fun hB => ?_
    rw [if_pos (by omega), ixS_ok h0 hx, ixS_ok h0 hx]
    by_cases hi : 0 < i
    · have hne : a1.take i.toNat ≠ [] := by
        intro h
        rw [List.take_eq_nil_iff] at h
        rcases h with h | h
        · omega
        · subst h; simp at h1; omega
      rw [joinW_snoc hne] at b1
      simp only [List.length_append] at b1
      rw [if_pos hi, gd_ok (by omega), gd_ok (by simp; omega), arr_ok (by omega)]
      refine hr _ ?_ rfl
      rw [e1, joinW_snoc hne]
    · have hi : i = 0 := by omega
      subst hi
      simp only [Int.toNat_zero, List.take_zero, List.nil_append, joinW_one, joinW_nil, Int.lt_irrefl, if_false] at b1 ⊢
      rw [gd_ok (by simp; omega), arr_ok (by omega)]
      refine hr _ ?_ rfl
      rw [e1]
      simp [joinW_one]
end
noncomputable def spec_numbersText.b0 (a1 : List Int)  (h0 : (Int × (List Str)) → Option ((List Str))) (z_ : (List Str)) (x36 : Int) (x37 : List Str) : Option ((List Str)) := (ln' z_ (a1.length) fun v46 => (if x36 < v46 then (ixI a1 x36 fun v50 => (gd (-1000000 ≤ v50 ∧ v50 ≤ 1000000) (lv (number v50) fun v51 => (gd ((x37.length + 1) * 16 ≤ 140737488355328) (lv (x37 ++ [v51]) fun v52 => (arr .i64 (x36 + 1) fun v53 => (h0 (v53, v52)))))))) else (some x37)))
noncomputable def spec_numbersText.f (a1 : List Int) (h0 : (Int × (List Str)) → Option ((List Str))) (z_ : (List Str)) : Option ((List Str)) := (h0 (0, []))
theorem pin_spec_numbersText {e : ESt} {ns : List (Nat × Nat)} {ps : List (Nat × C)} {os : List (Nat × EObj)} (hs : pinPZ (pinZ e.o (os.map Prod.fst) ns) e.s ps := by first | (cbv <;> (repeat' (first | trivial | refine And.intro ?_ ?_)) <;> (first | rfl | assumption | omega | exact clI hV _ | exact clS hV _ | with_unfolding_all exact hV.nI [] | with_unfolding_all exact (hV.nI []).symm | with_unfolding_all exact hV.nS [] | with_unfolding_all exact (hV.nS []).symm | with_unfolding_all exact hV.rI _ | with_unfolding_all exact hV.rS _ | with_unfolding_all exact (hV.nI _).trans (Eq.trans (by simp only [hV.nI] at *; omega) (hV.nI _).symm) | with_unfolding_all exact (hV.nS _).trans (Eq.trans (by simp only [hV.nS] at *; omega) (hV.nS _).symm) | simp [closedCell])) | fail) (ho : ∀ B : (Nat → EObj) → List (List C) → List (List C) → Prop, (∀ o rows rows', rowsZ (pinZ o (os.map Prod.fst) ns) rows rows' → B o rows rows') → pinOZ (pinZ e.o (os.map Prod.fst) ns) B e.o ns os := by intro B hB; first | (cbv <;> (repeat' (first | trivial | refine And.intro ?_ ?_ | refine pin_same hB ?_ | refine pin_nil hB ?_ | refine pin_dirty hB (by assumption) (by assumption) ?_ ?_ | exact pinL_n | refine pinL_c ?_ ?_ | exact pzr rfl rfl rfl (nrI hV _) (clI hV _) | exact pzr rfl rfl rfl (nrS hV _) (clS hV _) | (refine pz_go ?_; cbv) | (refine pinL_go ?_; cbv))) <;> (first | exact clI hV _ | exact clS hV _ | with_unfolding_all exact hV.rI _ | with_unfolding_all exact hV.rS _ | with_unfolding_all exact hV.nI [] | with_unfolding_all exact (hV.nI []).symm | with_unfolding_all exact hV.nS [] | with_unfolding_all exact (hV.nS []).symm | assumption | omega | rfl | with_unfolding_all exact (hV.nI _).trans (Eq.trans (by simp only [hV.nI] at *; omega) (hV.nI _).symm) | with_unfolding_all exact (hV.nS _).trans (Eq.trans (by simp only [hV.nS] at *; omega) (hV.nS _).symm) | simp [closedCell])) | fail) : PinnedZ e ns ps os := ⟨hs, ho⟩
section
variable {G : Glob} (hm : pg.follows .mixedOrders = true) (hz : ∀ T, ∀ c ∈ (ttOf pg T).zero, Bd c) (hG : GF G)
include hm hz hG
set_option maxHeartbeats 8000000 in
theorem spec_numbersText.w {a1 : List Int} (inv0 : (Int × (List Str)) → Prop) (mu0 : (Int × (List Str)) → Nat) (res0 : (Int × (List Str)) → (List Str)) (hb0 : ∀ (s_ : Int × (List Str)), inv0  s_ → spec_numbersText.b0 a1  (LI (inv0 ) (mu0 ) (res0 ) (mu0  s_)) (res0  s_) s_.1 s_.2 = some (res0  s_)) {r : (List Str)} (H : spec_numbersText.f a1 (EI (inv0 ) (mu0 ) (res0 )) r = some r) : FnOK pg G 200 [.sl (a1.map eI)] [] (.sl (r.map eS)) [] true := by
  obtain ⟨V, hV⟩ := exV
  have e0_I : V.rI [] = [] := hV.rI []
  have e1_I : ∀ x r, V.rI (x :: r) = eI x :: V.rI r := fun x r => by rw [hV.rI, hV.rI]; rfl
  have e0_S : V.rS [] = [] := hV.rS []
  have e1_S : ∀ x r, V.rS (x :: r) = eS x :: V.rS r := fun x r => by rw [hV.rS, hV.rS]; rfl
  simp only [← hV.rI, ← hV.rS]
  refine fn_okS (tt0 := tyG [ty3, ty4, ty9, ty36, ty71]) (fn := Tryz.f200) (body := bodyOf Tryz.f200) (ext := []) hm (tyG_sub ⟨tt3, tt4, tt9, tt36, tt71, trivial⟩) hz 0 [] (by unfold pg; exact Tryz.func200) rfl rfl (by simp [Tryz.f200]) (by simp [EObj.toObj]) (by cbv) ?_
  intro A F hA hF
  unfold spec_numbersText.f at H
  cbv
  repeat' (first
    | (with_reducible refine s_gd H (fun hg H => ?_))
    | (cases H; (try simp only [e0_I, e0_S, e1_I, eI, e1_S, eS] at hF); with_reducible refine fin_close hF rfl (by simp [expIds, posCells, C.cells, idOf]) ?_; cbv)
    | (with_reducible refine s_lt H (fun H => ?_) (fun H => ?_) <;> cbv)
    | (with_reducible refine s_le H (fun H => ?_) (fun H => ?_) <;> cbv)
    | (with_reducible refine s_eq H (fun H => ?_) (fun H => ?_) <;> cbv)
    | (with_reducible refine s_ne H (fun H => ?_) (fun H => ?_) <;> cbv)
    | (with_reducible refine s_ln H lnOf (fun _ H => ?_); cbv)
    | (with_reducible refine s_ixI hV H (fun _ H => ?_); cbv)
    | (with_reducible refine s_ar H (fun _ H => ?_); cbv)
    | (with_reducible refine s_apI hV H (fun _ H => ?_); cbv)
    | (with_reducible refine s_apL hV.rI hV.nI H (fun _ H => ?_); cbv)
    | (with_reducible refine s_apS hV H (fun _ H => ?_); cbv)
    | (with_reducible refine s_apL hV.rS hV.nS H (fun _ H => ?_); cbv)
    | (with_reducible refine s_lv H (fun _ H => ?_); cbv)
    | (with_reducible refine s_loop hA H (fun s h => hb0  s h) [0] [] (fun e s => [(3, .ref 320 0 1 0 (V.nS (s.2))), (4, .int .i64 (s.1))]) (fun e s => [(320, ⟨0, true, 1, .many (V.rS (s.2))⟩)]) [] pin_spec_numbersText nbOf ?_; rintro ⟨x36, x37⟩ H; unfold spec_numbersText.b0 at H; (try dsimp only at H); cbv)
    | (with_reducible refine s_next H pin_spec_numbersText nbOf)
    | (with_reducible refine s_cs hA H (by (try simp only [hV.rI, hV.rS]); (first | (have hk_ := spec_number.ok hm hz hG hg; with_unfolding_all exact hk_) | (with_unfolding_all exact spec_number.ok hm hz hG (by first | assumption | omega)))) rfl (fun _ H => ?_); cbv)
    | (with_reducible refine indep_of hA ?_; cbv)
    | ((with_reducible refine side ?_); exact sideOf)
    | (with_reducible refine s_tkG hV.rI hV.nI ?_; cbv)
    | (with_reducible refine s_tkG hV.rS hV.nS ?_; cbv)
    | (with_reducible refine s_tk1 ?_; cbv)
    | (with_reducible refine And.intro ?_ ?_)
    | (intro ys hys; subst hys; rfl)
    | rfl)
end
section
variable {G : Glob} (hm : pg.follows .mixedOrders = true) (hz : ∀ T, ∀ c ∈ (ttOf pg T).zero, Bd c) (hG : GF G)
include hm hz hG
theorem spec_numbersText.ok {a1 : List Int} (hp : areValues a1 = true ∧ a1.length ≤ 1000) : FnOK pg G 200 [.sl (a1.map eI)] [] (.sl ((((fun (l : List Int) => l.map number) a1)).map eS)) [] true := by
  have hv : ∀ x ∈ a1, isValue x = true := List.all_eq_true.1 hp.1
  have A := @spec_numbersText.w G hm hz hG a1 (rgI (a1) (fun s : Int × List Str => s.1) (fun s : Int × List Str => s.2 = (a1.take s.1.toNat).map number)) (rgM (a1) (fun s : Int × List Str => s.1)) (rgR (a1) (fun s : Int × List Str => s.1) (fun r (s : Int × List Str) => a1.map number)) (rangeS (a1) (fun s : Int × List Str => s.1) (fun s : Int × List Str => s.2 = (a1.take s.1.toNat).map number) (fun r (s : Int × List Str) => a1.map number) (fun rec z s => spec_numbersText.b0 a1  rec z s.1 s.2) ?_ ?_)
  · exact A (EI_fin (rg0 rfl rfl) rfl)
  · rintro rec ⟨i, acc⟩ hI h0 h1
    simp only at h0 h1 hI
    rw [take_len h1] at hI
    subst hI
    simp only [spec_numbersText.b0]
    refine ln_ok fun hB => ?_
    rw [if_neg (by omega)]
  · rintro rec ⟨i, acc⟩ x r hI h0 h1 hx hll hr
    simp only at h0 h1 hx hll hI
    subst hI
    have hx2 := isValue_rng (hv x (List.mem_of_getElem? hx))
    have hc := @map_take_le _ _ number a1 i.toNat
    simp only [spec_numbersText.b0]
    refine ln_ok fun hB => ?_
    simp (disch := first | assumption | omega | (simp; done) | (simp; omega)) only [if_true, if_false, reduceIte, lv, lj, ln_at, cn_t, cn_f, cn_tf, cn_ft, cn_xx, gd_ok, arr_ok, arr_ok8, arr_ok32, arr_oku, ia_ok, bt_ok, EI_ok, LI_ok, h1, ixI, hx, h0, map_take_snoc h0 hx]
    exact hr _ rfl rfl
end
noncomputable def spec_argText.b0 (a1 : Int) (a2 : Str) (a3 : List Int) (a4 : List Pair)  (h0 : (Int × (List Str)) → Option (Str)) (z_ : Str) (x89 : Int) (x90 : List Str) : Option (Str) := (ln' z_ (a4.length) fun v109 => (if x89 < v109 then (ixPair a4 x89 fun v118 v119 => (gd (v118.length + ([61]).length ≤ 9223372036854775807) (lv (v118 ++ [61]) fun v120 => (ixPair a4 x89 fun v121 v122 => (gd (-1000000 ≤ v122 ∧ v122 ≤ 1000000) (lv (number v122) fun v123 => (gd (v120.length + v123.length ≤ 9223372036854775807) (lv (v120 ++ v123) fun v124 => (gd ((x90.length + 1) * 16 ≤ 140737488355328) (lv (x90 ++ [v124]) fun v125 => (arr .i64 (x89 + 1) fun v126 => (h0 (v126, v125))))))))))))) else (gd ((joinW x90 (([32] : Str))).length ≤ 1000000000) (lv (joinW x90 ([32])) fun v127 => (gd (([42, 42, 123]).length + v127.length ≤ 9223372036854775807) (lv ([42, 42, 123] ++ v127) fun v128 => (gd (v128.length + ([125]).length ≤ 9223372036854775807) (lv (v128 ++ [125]) fun v129 => (some v129)))))))))
noncomputable def spec_argText.f (a1 : Int) (a2 : Str) (a3 : List Int) (a4 : List Pair) (h0 : (Int × (List Str)) → Option (Str)) (z_ : Str) : Option (Str) := (if a1 = 0 then (ixI a3 0 fun v5 => (gd (-1000000 ≤ v5 ∧ v5 ≤ 1000000) (lv (number v5) fun v6 => (some v6)))) else (if a1 = 1 then (gd (areValues a3 = true ∧ a3.length ≤ 1000) (on_LS ((fun (l : List Int) => l.map number) a3) fun v7 => (gd ((joinW v7 (([32] : Str))).length ≤ 1000000000) (lv (joinW v7 ([32])) fun v8 => (gd (([42, 91]).length + v8.length ≤ 9223372036854775807) (lv ([42, 91] ++ v8) fun v9 => (gd (v9.length + ([93]).length ≤ 9223372036854775807) (lv (v9 ++ [93]) fun v10 => (some v10))))))))) else (if a1 = 2 then (gd (a2.length + ([61]).length ≤ 9223372036854775807) (lv (a2 ++ [61]) fun v11 => (ixI a3 0 fun v12 => (gd (-1000000 ≤ v12 ∧ v12 ≤ 1000000) (lv (number v12) fun v13 => (gd (v11.length + v13.length ≤ 9223372036854775807) (lv (v11 ++ v13) fun v14 => (some v14)))))))) else (h0 (0, [])))))
theorem pin_spec_argText {e : ESt} {ns : List (Nat × Nat)} {ps : List (Nat × C)} {os : List (Nat × EObj)} (hs : pinPZ (pinZ e.o (os.map Prod.fst) ns) e.s ps := by first | (cbv <;> (repeat' (first | trivial | refine And.intro ?_ ?_)) <;> (first | rfl | assumption | omega | exact clI hV _ | exact clS hV _ | exact clPair hV _ | with_unfolding_all exact hV.nI [] | with_unfolding_all exact (hV.nI []).symm | with_unfolding_all exact hV.nS [] | with_unfolding_all exact (hV.nS []).symm | with_unfolding_all exact hV.nPair [] | with_unfolding_all exact (hV.nPair []).symm | with_unfolding_all exact hV.rI _ | with_unfolding_all exact hV.rS _ | with_unfolding_all exact hV.rPair _ | with_unfolding_all exact (hV.nI _).trans (Eq.trans (by simp only [hV.nI] at *; omega) (hV.nI _).symm) | with_unfolding_all exact (hV.nS _).trans (Eq.trans (by simp only [hV.nS] at *; omega) (hV.nS _).symm) | with_unfolding_all exact (hV.nPair _).trans (Eq.trans (by simp only [hV.nPair] at *; omega) (hV.nPair _).symm) | simp [closedCell])) | fail) (ho : ∀ B : (Nat → EObj) → List (List C) → List (List C) → Prop, (∀ o rows rows', rowsZ (pinZ o (os.map Prod.fst) ns) rows rows' → B o rows rows') → pinOZ (pinZ e.o (os.map Prod.fst) ns) B e.o ns os := by intro B hB; first | (cbv <;> (repeat' (first | trivial | refine And.intro ?_ ?_ | refine pin_same hB ?_ | refine pin_nil hB ?_ | refine pin_dirty hB (by assumption) (by assumption) ?_ ?_ | exact pinL_n | refine pinL_c ?_ ?_ | exact pzr rfl rfl rfl (nrI hV _) (clI hV _) | exact pzr rfl rfl rfl (nrS hV _) (clS hV _) | exact pzr rfl rfl rfl (nrPair hV _) (clPair hV _) | (refine pz_go ?_; cbv) | (refine pinL_go ?_; cbv))) <;> (first | exact clI hV _ | exact clS hV _ | exact clPair hV _ | with_unfolding_all exact hV.rI _ | with_unfolding_all exact hV.rS _ | with_unfolding_all exact hV.rPair _ | with_unfolding_all exact hV.nI [] | with_unfolding_all exact (hV.nI []).symm | with_unfolding_all exact hV.nS [] | with_unfolding_all exact (hV.nS []).symm | with_unfolding_all exact hV.nPair [] | with_unfolding_all exact (hV.nPair []).symm | assumption | omega | rfl | with_unfolding_all exact (hV.nI _).trans (Eq.trans (by simp only [hV.nI] at *; omega) (hV.nI _).symm) | with_unfolding_all exact (hV.nS _).trans (Eq.trans (by simp only [hV.nS] at *; omega) (hV.nS _).symm) | with_unfolding_all exact (hV.nPair _).trans (Eq.trans (by simp only [hV.nPair] at *; omega) (hV.nPair _).symm) | simp [closedCell])) | fail) : PinnedZ e ns ps os := ⟨hs, ho⟩
section
variable {G : Glob} (hm : pg.follows .mixedOrders = true) (hz : ∀ T, ∀ c ∈ (ttOf pg T).zero, Bd c) (hG : GF G)
include hm hz hG
set_option maxHeartbeats 8000000 in
theorem spec_argText.w {a1 : Int} {a2 : Str} {a3 : List Int} {a4 : List Pair} (inv0 : (Int × (List Str)) → Prop) (mu0 : (Int × (List Str)) → Nat) (res0 : (Int × (List Str)) → Str) (hb0 : ∀ (s_ : Int × (List Str)), inv0  s_ → spec_argText.b0 a1 a2 a3 a4  (LI (inv0 ) (mu0 ) (res0 ) (mu0  s_)) (res0  s_) s_.1 s_.2 = some (res0  s_)) {r : Str} (H : spec_argText.f a1 a2 a3 a4 (EI (inv0 ) (mu0 ) (res0 )) r = some r) : FnOK pg G 147 [.agg [.int .i64 a1, .str ⟨⟨a2⟩⟩, .sl (a3.map eI), .sl (a4.map ePair)]] [] (.str ⟨⟨r⟩⟩) [] false := by
  obtain ⟨V, hV⟩ := exV
  simp only [← hV.rI, ← hV.rS, ← hV.rPair]
  refine fn_ok (tt0 := tyG [ty3, ty4, ty9, ty36, ty37, ty71, ty74, ty80]) (fn := Tryz.f147) (body := bodyOf Tryz.f147) (ext := []) hm (tyG_sub ⟨tt3, tt4, tt9, tt36, tt37, tt71, tt74, tt80, trivial⟩) hz 0 true [] (by unfold pg; exact Tryz.func147) rfl rfl (by simp [Tryz.f147]) (by simp [EObj.toObj]) (by cbv) ?_
  intro A F hA hF
  unfold spec_argText.f at H
  cbv
  repeat' (first
    | (with_reducible refine s_gd H (fun hg H => ?_))
    | (cases H; exact fin_plain hF rfl rfl rfl rfl)
    | (with_reducible refine s_lt H (fun H => ?_) (fun H => ?_) <;> cbv)
    | (with_reducible refine s_le H (fun H => ?_) (fun H => ?_) <;> cbv)
    | (with_reducible refine s_eq H (fun H => ?_) (fun H => ?_) <;> cbv)
    | (with_reducible refine s_ne H (fun H => ?_) (fun H => ?_) <;> cbv)
    | (with_reducible refine s_ln H lnOf (fun _ H => ?_); cbv)
    | (with_reducible refine s_ixI hV H (fun _ H => ?_); cbv)
    | (with_reducible refine s_ixPair hV H (fun _ _ H => ?_); cbv)
    | (with_reducible refine s_ar H (fun _ H => ?_); cbv)
    | (with_reducible refine s_apI hV H (fun _ H => ?_); cbv)
    | (with_reducible refine s_apL hV.rI hV.nI H (fun _ H => ?_); cbv)
    | (with_reducible refine s_bnI hV H (fun _ H => ?_); cbv)
    | (with_reducible refine s_apS hV H (fun _ H => ?_); cbv)
    | (with_reducible refine s_apL hV.rS hV.nS H (fun _ H => ?_); cbv)
    | (with_reducible refine s_bnS hV H (fun _ H => ?_); cbv)
    | (with_reducible refine s_apPair hV H (fun _ H => ?_); cbv)
    | (with_reducible refine s_apL hV.rPair hV.nPair H (fun _ H => ?_); cbv)
    | (with_reducible refine s_bnPair hV H (fun _ H => ?_); cbv)
    | (with_reducible refine s_lv H (fun _ H => ?_); cbv)
    | (with_reducible refine s_loop hA H (fun s h => hb0  s h) [1] [64] (fun e s => [(3, .ref 2112 0 1 0 (V.nS (s.2))), (4, .int .i64 (s.1))]) (fun e s => [(2112, ⟨0, true, 1, .many (V.rS (s.2))⟩)]) [] pin_spec_argText nbOf ?_; rintro ⟨x89, x90⟩ H; unfold spec_argText.b0 at H; (try dsimp only at H); cbv)
    | (with_reducible refine s_next H pin_spec_argText nbOf)
    | (with_reducible refine s_cs hA H (by (try simp only [hV.rI, hV.rS, hV.rPair]); (first | (have hk_ := spec_number.ok hm hz hG hg; with_unfolding_all exact hk_) | (with_unfolding_all exact spec_number.ok hm hz hG (by first | assumption | omega)))) rfl (fun _ H => ?_); cbv)
    | (with_reducible refine s_cLS hV hA H (by (try simp only [hV.rI, hV.rS, hV.rPair]); (first | (have hk_ := spec_numbersText.ok hm hz hG hg; with_unfolding_all exact hk_) | (with_unfolding_all exact spec_numbersText.ok hm hz hG (by first | assumption | omega)))) rfl (fun _ H => ?_); cbv)
    | (with_reducible refine s_cs hA H (by (try simp only [hV.rI, hV.rS, hV.rPair]); (first | (have hk_ := spec_joinWith.ok hm hz hG hg; with_unfolding_all exact hk_) | (with_unfolding_all exact spec_joinWith.ok hm hz hG (by first | assumption | omega)))) rfl (fun _ H => ?_); cbv)
    | (with_reducible refine s_cs hA H (by (try simp only [hV.rI, hV.rS, hV.rPair]); (first | (have hk_ := spec_joinWith.ok hm hz hG hg; with_unfolding_all exact hk_) | (with_unfolding_all exact spec_joinWith.ok hm hz hG (by first | assumption | omega)))) rfl (fun _ H => ?_); cbv)
    | (with_reducible refine s_rs (by assumption) H (by (try simp only [hV.rI, hV.rS, hV.rPair]); (first | (have hk_ := spec_joinWith.ok hm hz hG hg; with_unfolding_all exact hk_) | (with_unfolding_all exact spec_joinWith.ok hm hz hG (by first | assumption | omega)))) (fun _ H => ?_); cbv)
    | (with_reducible refine callT_cl hA (fun U hU => ?_); cbv)
    | (with_reducible refine indep_of hA ?_; cbv)
    | ((with_reducible refine side ?_); exact sideOf)
    | (with_reducible refine s_tkG hV.rI hV.nI ?_; cbv)
    | (with_reducible refine s_tkG hV.rS hV.nS ?_; cbv)
    | (with_reducible refine s_tkG hV.rPair hV.nPair ?_; cbv)
    | (with_reducible refine s_tk1 ?_; cbv)
    | (with_reducible refine And.intro ?_ ?_)
    | (intro ys hys; subst hys; rfl)
    | rfl)
end
section
variable {G : Glob} (hm : pg.follows .mixedOrders = true) (hz : ∀ T, ∀ c ∈ (ttOf pg T).zero, Bd c) (hG : GF G)
include hm hz hG
theorem spec_argText.ok {a1 : Int} {a2 : Str} {a3 : List Int} {a4 : List Pair} (hp : validArg ⟨a1, a2, a3, a4⟩ = true) : FnOK pg G 147 [.agg [.int .i64 a1, .str ⟨⟨a2⟩⟩, .sl (a3.map eI), .sl (a4.map ePair)]] [] (.str ⟨⟨((argText ⟨a1, a2, a3, a4⟩))⟩⟩) [] false := by
  have hk := valid_kind hp
  simp only at hk
  by_cases k3 : a1 = 3
  · subst k3
    obtain ⟨hn, hl, h8, hv⟩ := validArg_3 hp rfl
    simp only at hn hl h8 hv
    subst hn
    subst hl
    have hv' : ∀ x ∈ a4, validPair x = true := List.all_eq_true.1 hv
    have hj := pairsText_len hv (by omega)
    have A := @spec_argText.w G hm hz hG 3 [] [] a4 (rgI (a4) (fun s : Int × List Str => s.1) (fun s : Int × List Str => s.2 = (a4.take s.1.toNat).map pairText)) (rgM (a4) (fun s : Int × List Str => s.1)) (rgR (a4) (fun s : Int × List Str => s.1) (fun r (s : Int × List Str) => [42, 42, 123] ++ pairsText a4 ++ [125])) (rangeS (a4) (fun s : Int × List Str => s.1) (fun s : Int × List Str => s.2 = (a4.take s.1.toNat).map pairText) (fun r (s : Int × List Str) => [42, 42, 123] ++ pairsText a4 ++ [125]) (fun rec z s => spec_argText.b0 3 [] [] a4  rec z s.1 s.2) ?_ ?_)
    · refine A ?_
      simp only [spec_argText.f]
      rw [if_neg (by decide), if_neg (by decide), if_neg (by decide)]
      exact EI_fin (rg0 rfl rfl) rfl
    · rintro rec ⟨i, acc⟩ hI h0 h1
      simp only at h0 h1 hI
      rw [take_len h1] at hI
      subst hI
      simp only [spec_argText.b0, lv]
      refine ln_ok fun hB => ?_
      have hj : (joinW (a4.map pairText) [32]).length ≤ 256 := hj
      rw [if_neg (by omega), gd_ok (by omega), gd_ok (by simp; omega), gd_ok (by simp; omega)]
      rfl
    · rintro rec ⟨i, acc⟩ x r hI h0 h1 hx hll hr
      simp only at h0 h1 hx hll hI
      subst hI
      have hx1 := hv' x (List.mem_of_getElem? hx)
      have hx2 : isName x.name = true ∧ isValue x.value = true := by simpa [validPair] using hx1
      have hx3 := isValue_rng hx2.2
      have hx4 := isName_len hx2.1
      have hx5 := vnum_len hx2.2
      have hc := @map_take_le _ _ pairText a4 i.toNat
      have hs := map_take_snoc (f := pairText) h0 hx
      simp only [spec_argText.b0, lv]
      refine ln_ok fun hB => ?_
      rw [if_pos (by omega), ixPair_ok h0 hx, gd_ok (by simp; omega), ixPair_ok h0 hx, gd_ok (by omega), gd_ok (by simp; omega), gd_ok (by simp at hc ⊢; omega), arr_ok (by omega)]
      refine hr _ ?_ rfl
      rw [← hs]
      simp [pairText]
  · refine @spec_argText.w G hm hz hG a1 a2 a3 a4 (fun _ => False) (fun _ => 0) (fun _ => []) ?_ _ ?_
    · intro s h; exact h.elim
    · simp only [spec_argText.f, lv, on_LS]
      rcases hk with rfl | rfl | rfl | rfl
      · obtain ⟨hn, hl, hps, hv⟩ := validArg_0 hp rfl
        simp only at hn hl hps hv
        obtain ⟨n, rfl⟩ := list_one hl
        have hn2 := isValue_rng (show isValue n = true by simpa [areValues] using hv)
        rw [if_pos rfl, ixI_ok (x := n) (by omega) rfl, gd_ok (by omega)]
        simp only [argText, numsText_one, if_true]
        rfl
      · obtain ⟨hn, hl, hps, hv⟩ := validArg_1 hp rfl
        simp only at hn hl hps hv
        have hj := numsText_len hv (by omega)
        have hj : (joinW (a3.map number) [32]).length ≤ 144 := hj
        rw [if_neg (by decide), if_pos rfl, gd_ok ⟨hv, by omega⟩, gd_ok (by omega), gd_ok (by simp; omega), gd_ok (by simp; omega)]
        rfl
      · obtain ⟨hn, hl, hps, hv⟩ := validArg_2 hp rfl
        simp only at hn hl hps hv
        obtain ⟨n, rfl⟩ := list_one hl
        have hv := show isValue n = true by simpa [areValues] using hv
        have hn2 := isValue_rng hv
        have hn3 := isName_len hn
        have hn4 := vnum_len hv
        rw [if_neg (by decide), if_neg (by decide), if_pos rfl, gd_ok (by simp; omega), ixI_ok (x := n) (by omega) rfl, gd_ok (by omega), gd_ok (by simp; omega)]
        rw [argT2, numsText_one]
      · exact absurd rfl k3
end
noncomputable def spec_callText.b0 (a1 : List Arg)  (h0 : (Int × (List Str)) → Option (Str)) (z_ : Str) (x60 : Int) (x61 : List Str) : Option (Str) := (ln' z_ (a1.length) fun v76 => (if x60 < v76 then (ixArg a1 x60 fun v83 v84 v85 v86 => (gd (validArg ⟨v83, v84, v85, v86⟩ = true) (lv (argText (⟨v83, v84, v85, v86⟩)) fun v87 => (gd ((x61.length + 1) * 16 ≤ 140737488355328) (lv (x61 ++ [v87]) fun v88 => (arr .i64 (x60 + 1) fun v89 => (h0 (v89, v88)))))))) else (gd ((joinW x61 (([44, 32] : Str))).length ≤ 1000000000) (lv (joinW x61 ([44, 32])) fun v90 => (some v90)))))
noncomputable def spec_callText.f (a1 : List Arg) (h0 : (Int × (List Str)) → Option (Str)) (z_ : Str) : Option (Str) := (h0 (0, []))
theorem pin_spec_callText {e : ESt} {ns : List (Nat × Nat)} {ps : List (Nat × C)} {os : List (Nat × EObj)} (hs : pinPZ (pinZ e.o (os.map Prod.fst) ns) e.s ps := by first | (cbv <;> (repeat' (first | trivial | refine And.intro ?_ ?_)) <;> (first | rfl | assumption | omega | exact clI hV _ | exact clS hV _ | exact clPair hV _ | exact clArg hV _ | with_unfolding_all exact hV.nI [] | with_unfolding_all exact (hV.nI []).symm | with_unfolding_all exact hV.nS [] | with_unfolding_all exact (hV.nS []).symm | with_unfolding_all exact hV.nPair [] | with_unfolding_all exact (hV.nPair []).symm | with_unfolding_all exact hV.nArg [] | with_unfolding_all exact (hV.nArg []).symm | with_unfolding_all exact hV.rI _ | with_unfolding_all exact hV.rS _ | with_unfolding_all exact hV.rPair _ | with_unfolding_all exact hV.rArg _ | with_unfolding_all exact (hV.nI _).trans (Eq.trans (by simp only [hV.nI] at *; omega) (hV.nI _).symm) | with_unfolding_all exact (hV.nS _).trans (Eq.trans (by simp only [hV.nS] at *; omega) (hV.nS _).symm) | with_unfolding_all exact (hV.nPair _).trans (Eq.trans (by simp only [hV.nPair] at *; omega) (hV.nPair _).symm) | with_unfolding_all exact (hV.nArg _).trans (Eq.trans (by simp only [hV.nArg] at *; omega) (hV.nArg _).symm) | simp [closedCell])) | fail) (ho : ∀ B : (Nat → EObj) → List (List C) → List (List C) → Prop, (∀ o rows rows', rowsZ (pinZ o (os.map Prod.fst) ns) rows rows' → B o rows rows') → pinOZ (pinZ e.o (os.map Prod.fst) ns) B e.o ns os := by intro B hB; first | (cbv <;> (repeat' (first | trivial | refine And.intro ?_ ?_ | refine pin_same hB ?_ | refine pin_nil hB ?_ | refine pin_dirty hB (by assumption) (by assumption) ?_ ?_ | exact pinL_n | refine pinL_c ?_ ?_ | exact pzr rfl rfl rfl (nrI hV _) (clI hV _) | exact pzr rfl rfl rfl (nrS hV _) (clS hV _) | exact pzr rfl rfl rfl (nrPair hV _) (clPair hV _) | exact pzr rfl rfl rfl (nrArg hV _) (clArg hV _) | (refine pz_go ?_; cbv) | (refine pinL_go ?_; cbv))) <;> (first | exact clI hV _ | exact clS hV _ | exact clPair hV _ | exact clArg hV _ | with_unfolding_all exact hV.rI _ | with_unfolding_all exact hV.rS _ | with_unfolding_all exact hV.rPair _ | with_unfolding_all exact hV.rArg _ | with_unfolding_all exact hV.nI [] | with_unfolding_all exact (hV.nI []).symm | with_unfolding_all exact hV.nS [] | with_unfolding_all exact (hV.nS []).symm | with_unfolding_all exact hV.nPair [] | with_unfolding_all exact (hV.nPair []).symm | with_unfolding_all exact hV.nArg [] | with_unfolding_all exact (hV.nArg []).symm | assumption | omega | rfl | with_unfolding_all exact (hV.nI _).trans (Eq.trans (by simp only [hV.nI] at *; omega) (hV.nI _).symm) | with_unfolding_all exact (hV.nS _).trans (Eq.trans (by simp only [hV.nS] at *; omega) (hV.nS _).symm) | with_unfolding_all exact (hV.nPair _).trans (Eq.trans (by simp only [hV.nPair] at *; omega) (hV.nPair _).symm) | with_unfolding_all exact (hV.nArg _).trans (Eq.trans (by simp only [hV.nArg] at *; omega) (hV.nArg _).symm) | simp [closedCell])) | fail) : PinnedZ e ns ps os := ⟨hs, ho⟩
section
variable {G : Glob} (hm : pg.follows .mixedOrders = true) (hz : ∀ T, ∀ c ∈ (ttOf pg T).zero, Bd c) (hG : GF G)
include hm hz hG
set_option maxHeartbeats 8000000 in
theorem spec_callText.w {a1 : List Arg} (inv0 : (Int × (List Str)) → Prop) (mu0 : (Int × (List Str)) → Nat) (res0 : (Int × (List Str)) → Str) (hb0 : ∀ (s_ : Int × (List Str)), inv0  s_ → spec_callText.b0 a1  (LI (inv0 ) (mu0 ) (res0 ) (mu0  s_)) (res0  s_) s_.1 s_.2 = some (res0  s_)) {r : Str} (H : spec_callText.f a1 (EI (inv0 ) (mu0 ) (res0 )) r = some r) : FnOK pg G 79 [.agg [.sl (a1.map eArg)]] [] (.str ⟨⟨r⟩⟩) [] false := by
  obtain ⟨V, hV⟩ := exV
  simp only [← hV.rI, ← hV.rS, ← hV.rPair, ← hV.rArg]
  refine fn_ok (tt0 := tyG [ty3, ty4, ty9, ty22, ty24, ty36, ty37, ty71, ty74, ty80]) (fn := Tryz.f79) (body := bodyOf Tryz.f79) (ext := []) hm (tyG_sub ⟨tt3, tt4, tt9, tt22, tt24, tt36, tt37, tt71, tt74, tt80, trivial⟩) hz 0 true [] (by unfold pg; exact Tryz.func79) rfl rfl (by simp [Tryz.f79]) (by simp [EObj.toObj]) (by cbv) ?_
  intro A F hA hF
  unfold spec_callText.f at H
  cbv
  repeat' (first
    | (with_reducible refine s_gd H (fun hg H => ?_))
    | (cases H; exact fin_plain hF rfl rfl rfl rfl)
    | (with_reducible refine s_lt H (fun H => ?_) (fun H => ?_) <;> cbv)
    | (with_reducible refine s_le H (fun H => ?_) (fun H => ?_) <;> cbv)
    | (with_reducible refine s_eq H (fun H => ?_) (fun H => ?_) <;> cbv)
    | (with_reducible refine s_ne H (fun H => ?_) (fun H => ?_) <;> cbv)
    | (with_reducible refine s_ln H lnOf (fun _ H => ?_); cbv)
    | (with_reducible refine s_ixArg hV H (fun _ _ _ _ H => ?_); cbv)
    | (with_reducible refine s_ar H (fun _ H => ?_); cbv)
    | (with_reducible refine s_apI hV H (fun _ H => ?_); cbv)
    | (with_reducible refine s_apL hV.rI hV.nI H (fun _ H => ?_); cbv)
    | (with_reducible refine s_apS hV H (fun _ H => ?_); cbv)
    | (with_reducible refine s_apL hV.rS hV.nS H (fun _ H => ?_); cbv)
    | (with_reducible refine s_apPair hV H (fun _ H => ?_); cbv)
    | (with_reducible refine s_apL hV.rPair hV.nPair H (fun _ H => ?_); cbv)
    | (with_reducible refine s_apArg hV H (fun _ H => ?_); cbv)
    | (with_reducible refine s_apL hV.rArg hV.nArg H (fun _ H => ?_); cbv)
    | (with_reducible refine s_apZArg hV H (fun _ _ H hk_ zs_ hd_ => ?_); cbv)
    | (with_reducible refine s_bnZArg hV H (fun _ _ H hk_ zs_ hd_ => ?_); cbv)
    | (with_reducible refine s_a0ZArg hV H (fun _ _ H hk_ zs_ hd_ => ?_); cbv)
    | (with_reducible refine s_lv H (fun _ H => ?_); cbv)
    | (with_reducible refine s_loop hA H (fun s h => hb0  s h) [1] [64] (fun e s => [(3, .ref 320 0 1 0 (V.nS (s.2))), (4, .int .i64 (s.1))]) (fun e s => [(320, ⟨0, true, 1, .many (V.rS (s.2))⟩)]) [] pin_spec_callText nbOf ?_; rintro ⟨x60, x61⟩ H; unfold spec_callText.b0 at H; (try dsimp only at H); cbv)
    | (with_reducible refine s_next H pin_spec_callText nbOf)
    | (with_reducible refine s_cs hA H (by (try simp only [hV.rI, hV.rS, hV.rPair, hV.rArg]); (first | (have hk_ := spec_argText.ok hm hz hG hg; with_unfolding_all exact hk_) | (with_unfolding_all exact spec_argText.ok hm hz hG (by first | assumption | omega)))) rfl (fun _ H => ?_); cbv)
    | (with_reducible refine s_cs hA H (by (try simp only [hV.rI, hV.rS, hV.rPair, hV.rArg]); (first | (have hk_ := spec_joinWith.ok hm hz hG hg; with_unfolding_all exact hk_) | (with_unfolding_all exact spec_joinWith.ok hm hz hG (by first | assumption | omega)))) rfl (fun _ H => ?_); cbv)
    | (with_reducible refine s_rs (by assumption) H (by (try simp only [hV.rI, hV.rS, hV.rPair, hV.rArg]); (first | (have hk_ := spec_joinWith.ok hm hz hG hg; with_unfolding_all exact hk_) | (with_unfolding_all exact spec_joinWith.ok hm hz hG (by first | assumption | omega)))) (fun _ H => ?_); cbv)
    | (with_reducible refine callT_cl hA (fun U hU => ?_); cbv)
    | (with_reducible refine indep_of hA ?_; cbv)
    | ((with_reducible refine side ?_); exact sideOf)
    | (with_reducible refine s_tkG hV.rI hV.nI ?_; cbv)
    | (with_reducible refine s_tkG hV.rS hV.nS ?_; cbv)
    | (with_reducible refine s_tkG hV.rPair hV.nPair ?_; cbv)
    | (with_reducible refine s_tkG hV.rArg hV.nArg ?_; cbv)
    | (with_reducible refine s_tk1 ?_; cbv)
    | (with_reducible refine And.intro ?_ ?_)
    | (intro ys hys; subst hys; rfl)
    | rfl)
end
section
variable {G : Glob} (hm : pg.follows .mixedOrders = true) (hz : ∀ T, ∀ c ∈ (ttOf pg T).zero, Bd c) (hG : GF G)
include hm hz hG
theorem spec_callText.ok {a1 : List Arg} (hp : validCall ⟨a1⟩ = true) : FnOK pg G 79 [.agg [.sl (a1.map eArg)]] [] (.str ⟨⟨((callText ⟨a1⟩))⟩⟩) [] false := by
  have hl : (joinW (a1.map argText) [44, 32]).length ≤ 16 * 302 := by
    obtain ⟨h1, h2⟩ := validCall_args hp
    have := joinW_len (n := 300) (s := [44, 32]) (a1.map argText) (fun x hx => by obtain ⟨y, hy, rfl⟩ := List.mem_map.1 hx; exact argText_len (h1 y hy))
    rw [List.length_map] at this
    exact Nat.le_trans this (Nat.mul_le_mul h2 (Nat.le_refl 302))
  have h16 := (validCall_args hp).2
  simp only at h16
  have A := @spec_callText.w G hm hz hG a1 (rgI (a1) (fun s : Int × List Str => s.1) (fun s : Int × List Str => s.2 = (a1.take s.1.toNat).map argText)) (rgM (a1) (fun s : Int × List Str => s.1)) (rgR (a1) (fun s : Int × List Str => s.1) (fun r (s : Int × List Str) => callText ⟨a1⟩)) (rangeS (a1) (fun s : Int × List Str => s.1) (fun s : Int × List Str => s.2 = (a1.take s.1.toNat).map argText) (fun r (s : Int × List Str) => callText ⟨a1⟩) (fun rec z s => spec_callText.b0 a1  rec z s.1 s.2) ?_ ?_)
  · exact A (EI_fin (rg0 rfl rfl) rfl)
  · rintro rec ⟨i, acc⟩ hI h0 h1
    simp only at h0 h1 hI
    rw [take_len h1] at hI
    subst hI
    simp only [spec_callText.b0, lv]
    refine ln_ok fun hB => ?_
    rw [if_neg (by omega), gd_ok (by omega), callText, if_pos hp]
  · rintro rec ⟨i, acc⟩ x r hI h0 h1 hx hll hr
    simp only at h0 h1 hx hll hI
    subst hI
    have hx1 := (validCall_args hp).1 x (List.mem_of_getElem? hx)
    have hc := @map_take_le _ _ argText a1 i.toNat
    simp only [spec_callText.b0]
    refine ln_ok fun hB => ?_
    simp (disch := first | assumption | omega | (simp; done) | (simp; omega)) only [if_true, if_false, reduceIte, lv, lj, ln_at, cn_t, cn_f, cn_tf, cn_ft, cn_xx, gd_ok, arr_ok, arr_ok8, arr_ok32, arr_oku, ia_ok, bt_ok, EI_ok, LI_ok, h1, ixArg, hx, h0, eta_Arg, map_take_snoc h0 hx]
    exact hr _ rfl rfl
end
end Go.Proofs.YtoofegkjdjlpkaaGreatDoor.M
