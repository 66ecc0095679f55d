/- Generators: names, numbers, flat calls. -/
import Derived.Test.YtoofegkjdjlpkaaGreatDoorQ1
set_option linter.unusedVariables false
set_option linter.unusedSimpArgs false
set_option linter.unusedSectionVars false
namespace Go.Proofs.YtoofegkjdjlpkaaGreatDoor.M
open Go Go.Proofs
set_option maxRecDepth 100000
def on_S_Rd {R : Type} (v : Str × Rd) (f : Str → (List Int) → Int → Option R) : Option R := f (v.1) (v.2.bs) (v.2.at_)
section
variable {A : Bx} {P : Program} {G : Glob} {own : Nat} {o : Nat → EObj} {g : FuncId} {K : C → List (Nat × EObj) → Prop} {R : Type} {r : R} {V : Vx} {v : Str × Rd} {f : Str → (List Int) → Int → Option R}
variable {U : List C → List EObj → (C → List (Nat × EObj) → Prop) → Prop} {bs : List C} {ext : List EObj} {ids tops : List Nat}
theorem s_vS_Rd_1 (hV : IsV V) (hU : U = callW P G own o g ids tops) (H : on_S_Rd v f = some r) (hok : FnOK P G g bs (ext.map EObj.toObj) (.str ⟨⟨(v.1)⟩⟩) (([⟨0, true, 2, .one [.sl ((v.2.bs).map eIu8), .int .i64 (v.2.at_)]⟩] : List EObj).map EObj.toObj) true) (ht : topsF o ids tops) (h : ∀ c0 c1 c2, f c0 c1 c2 = some r → K (.str ⟨⟨c0⟩⟩) (putBackE o ids (([⟨0, true, 2, .one [.sl (V.rIu8 c1), .int .i64 c2]⟩] : List EObj).map EObj.toObj) ++ freezeE o tops ++ [])) : U bs ext K := by
  rw [hU]
  refine ⟨_, _, hok, fun x hx r hr => ?_, topsF_sound ht, ?_⟩
  · simp only [List.mem_singleton] at hx; subst hx; simp [ED.rows] at hr; subst hr; rfl
  · have := h (v.1) (v.2.bs) (v.2.at_) H
    simp only [hV.rIu8] at this
    exact this
end
section
variable {G : Glob} (hm : pg.follows .mixedOrders = true) (hz : ∀ T, ∀ c ∈ (ttOf pg T).zero, Bd c) (hG : GF G)
include hm hz hG
end
section
variable {G : Glob} (hm : pg.follows .mixedOrders = true) (hz : ∀ T, ∀ c ∈ (ttOf pg T).zero, Bd c) (hG : GF G)
include hm hz hG
end
section
variable {G : Glob} (hm : pg.follows .mixedOrders = true) (hz : ∀ T, ∀ c ∈ (ttOf pg T).zero, Bd c) (hG : GF G)
include hm hz hG
end
section
variable {G : Glob} (hm : pg.follows .mixedOrders = true) (hz : ∀ T, ∀ c ∈ (ttOf pg T).zero, Bd c) (hG : GF G)
include hm hz hG
end
def numsA : List Int := [1, 2, 3, 0, 5, -1, 7, 99, -99]
def aNumberV (r : Rd) : Int × Rd := rOne r numsA
noncomputable def spec_aNumber.f (a1 : List Int) (a2 : Int)  (z_ : Int × Rd) : Option (Int × Rd) := (gd (RO 1 ⟨a1, a2⟩ ∧ 1 ≤ (([1, 2, 3, 0, 5, (-1), 7, 99, (-99)] : List Int)).length ∧ (([1, 2, 3, 0, 5, (-1), 7, 99, (-99)] : List Int)).length ≤ 1000) (on_I_Rd (rOne (⟨a1, a2⟩) ([1, 2, 3, 0, 5, (-1), 7, 99, (-99)])) fun v3 v4 v5 => (some (v3, ⟨v4, v5⟩))))
section
variable {G : Glob} (hm : pg.follows .mixedOrders = true) (hz : ∀ T, ∀ c ∈ (ttOf pg T).zero, Bd c) (hG : GF G)
include hm hz hG
theorem spec_aNumber.w {a1 : List Int} {a2 : Int}  {r : Int × Rd} (H : spec_aNumber.f a1 a2  r = some r) : FnOK pg G 150 [.ptr 0 0 2 0 0] (([⟨0, true, 2, .one [.sl (a1.map eIu8), .int .i64 a2]⟩] : List EObj).map EObj.toObj) (.int .i64 (r.1)) (([⟨0, true, 2, .one [.sl ((r.2.bs).map eIu8), .int .i64 (r.2.at_)]⟩] : List EObj).map EObj.toObj) true := by
  obtain ⟨V, hV⟩ := exV
  have e0_I : V.rI [] = [] := hV.rI []
  have e1_I : ∀ x r, V.rI (x :: r) = eI x :: V.rI r := fun x r => by rw [hV.rI, hV.rI]; rfl
  have e0_Iu8 : V.rIu8 [] = [] := hV.rIu8 []
  have e1_Iu8 : ∀ x r, V.rIu8 (x :: r) = eIu8 x :: V.rIu8 r := fun x r => by rw [hV.rIu8, hV.rIu8]; rfl
  simp only [← hV.rI, ← hV.rIu8]
  refine fn_okW (tt0 := tyG [ty3, ty36, ty90]) (fn := Tryz.f150) (body := bodyOf Tryz.f150) (ext := [⟨0, true, 2, .one [.sl (V.rIu8 a1), .int .i64 a2]⟩]) (ext' := [⟨0, true, 2, .one [.sl (V.rIu8 (r.2.bs)), .int .i64 (r.2.at_)]⟩]) hm (tyG_sub ⟨tt3, tt36, tt90, trivial⟩) hz 0 false [] (by unfold pg; exact Tryz.func150) rfl rfl (by simp [Tryz.f150]) (by simp [EObj.toObj]) (by cbv) ?_
  intro A F hA hF
  unfold spec_aNumber.f at H
  cbv
  repeat' (first
    | (with_reducible refine s_gd H (fun hg H => ?_))
    | (cases H; exact fin_W hF rfl (by simp [expIds, posCells, C.cells, idOf]) (by cbv <;> rfl) (by simp [idsF, cellsV, C.cells, idOf]) ⟨by cbv <;> rfl, rfl, rfl, rfl, rfl, (by intro z hz; simp [ED.rows] at hz; subst hz; rfl), trivial⟩)
    | (with_reducible refine s_lv H (fun _ H => ?_); cbv)
    | (with_reducible refine s_vI_Rd_1 hV (by assumption) H (by (try simp only [hV.rI, hV.rIu8]); (first | (have hk_ := spec_reader_one.ok hm hz hG hg; with_unfolding_all exact hk_) | (with_unfolding_all exact spec_reader_one.ok hm hz hG (by first | assumption | omega)))) (by first | (cbv <;> (repeat' (first | trivial | refine And.intro ?_ ?_)) <;> (first | rfl | exact clI hV _ | with_unfolding_all exact clIu8 hV _ | simp [closedCell])) | fail) (fun _ _ _ H => ?_); cbv)
    | (with_reducible refine callT_wp hA rfl (fun U hU => ?_); cbv)
    | (with_reducible refine indep_of hA ?_; cbv)
    | ((with_reducible refine side ?_); exact sideOf)
    | (with_reducible refine s_tkG hV.rI hV.nI ?_; cbv)
    | (with_reducible refine s_tkG hV.rIu8 hV.nIu8 ?_; cbv)
    | (with_reducible refine s_tk1 ?_; cbv)
    | (with_reducible refine s_eqL ?_; cbv)
    | (with_reducible refine And.intro ?_ ?_)
    | (intro ys hys; subst hys; rfl)
    | rfl
    | (first | exact True.intro | omega | exact clI hV _ | exact clIu8 hV _)
    | (intro h_; cases h_; done)
    | (with_reducible refine s_pl ?_; with_unfolding_all simp [plainV, plainA, plainC, plRI hV, plRIu8 hV])
    | (intro ys hys; subst hys))
end
section
variable {G : Glob} (hm : pg.follows .mixedOrders = true) (hz : ∀ T, ∀ c ∈ (ttOf pg T).zero, Bd c) (hG : GF G)
include hm hz hG
theorem spec_aNumber.ok {a1 : List Int} {a2 : Int} (hp : RO 1 ⟨a1, a2⟩) : FnOK pg G 150 [.ptr 0 0 2 0 0] (([⟨0, true, 2, .one [.sl (a1.map eIu8), .int .i64 a2]⟩] : List EObj).map EObj.toObj) (.int .i64 ((aNumberV ⟨a1, a2⟩).1)) (([⟨0, true, 2, .one [.sl (((aNumberV ⟨a1, a2⟩).2.bs).map eIu8), .int .i64 ((aNumberV ⟨a1, a2⟩).2.at_)]⟩] : List EObj).map EObj.toObj) true := by
  refine spec_aNumber.w hm hz hG ?_
  simp only [spec_aNumber.f, on_I_Rd]
  rw [gd_ok ⟨hp, by decide, by decide⟩]; rfl
end
section
variable {G : Glob} (hm : pg.follows .mixedOrders = true) (hz : ∀ T, ∀ c ∈ (ttOf pg T).zero, Bd c) (hG : GF G)
include hm hz hG
end
section
variable {G : Glob} (hm : pg.follows .mixedOrders = true) (hz : ∀ T, ∀ c ∈ (ttOf pg T).zero, Bd c) (hG : GF G)
include hm hz hG
end
def mutA : List Str := [[48], [49], [32], [44], [97], [42], [61], [47], [45], [40], [41], [10]]
def mutB : List Str := [[48], [32], [44, 32, 97], [42], [47], [41]]
def mutV (r : Rd) (s : Str) : Str × Rd :=
  let k := (pickI r (s.length + 1)).toNat
  let r1 := (pickV r (s.length + 1)).2
  let c := pickI r1 5
  let r2 := (pickV r1 5).2
  if c = 0 ∨ c = 1 then (if k < s.length then (s.take k ++ (rOf r2 mutA).1 ++ s.drop (k + 1), (rOf r2 mutA).2) else (s, r2))
  else if c = 2 then (s.take k, r2) else if c = 3 then (s ++ (rOf r2 mutB).1, (rOf r2 mutB).2) else (s, r2)
theorem mutA_len {s : Str} (h : s ∈ mutA) : s.length ≤ 3 := by
  have : mutA.all (fun s => decide (s.length ≤ 3)) = true := by decide
  rw [List.all_eq_true] at this; simpa using this s h
theorem mutB_len {s : Str} (h : s ∈ mutB) : s.length ≤ 3 := by
  have : mutB.all (fun s => decide (s.length ≤ 3)) = true := by decide
  rw [List.all_eq_true] at this; simpa using this s h
theorem mutV_len {r : Rd} {s : Str} (h : RO 3 r) : (mutV r s).1.length ≤ s.length + 3 := by
  have hp2 : RO 1 (pickV (pickV r (s.length + 1)).2 5).2 := RO_pick (n := 1) (RO_pick (n := 2) h)
  have hA := mutA_len (rOf_mem (l := mutA) hp2 (by decide))
  have hB := mutB_len (rOf_mem (l := mutB) hp2 (by decide))
  unfold mutV
  simp only
  split
  · split
    · simp only [List.length_append, List.length_take, List.length_drop]; omega
    · simp
  · split
    · simp only [List.length_take]; omega
    · split
      · simp only [List.length_append]; omega
      · simp
noncomputable def spec_mutate.f (a1 : List Int) (a2 : Int) (a3 : Str)  (z_ : Str × Rd) : Option (Str × Rd) := (ln' z_ (a3.length) fun v4 => (arr .i64 (v4 + 1) fun v5 => (gd (RO 1 ⟨a1, a2⟩) (on_I_Rd (pickV (⟨a1, a2⟩) v5) fun v6 v7 v8 => (gd (RO 1 ⟨v7, v8⟩) (on_I_Rd (pickV (⟨v7, v8⟩) 5) fun v9 v10 v11 => (if v9 = 0 then (ln' z_ (a3.length) fun v12 => (if v6 < v12 then (gd (0 ≤ v6 ∧ v6.toNat ≤ a3.length) (lv (a3.take v6.toNat) fun v13 => (gd (RO 1 ⟨v10, v11⟩ ∧ 1 ≤ (([[48], [49], [32], [44], [97], [42], [61], [47], [45], [40], [41], [10]] : List Str)).length ∧ (([[48], [49], [32], [44], [97], [42], [61], [47], [45], [40], [41], [10]] : List Str)).length ≤ 1000) (on_S_Rd (rOf (⟨v10, v11⟩) ([[48], [49], [32], [44], [97], [42], [61], [47], [45], [40], [41], [10]])) fun v14 v15 v16 => (gd (v13.length + v14.length ≤ 9223372036854775807) (lv (v13 ++ v14) fun v17 => (arr .i64 (v6 + 1) fun v18 => (gd (0 ≤ v18 ∧ v18.toNat ≤ a3.length) (lv (a3.drop v18.toNat) fun v19 => (gd (v17.length + v19.length ≤ 9223372036854775807) (lv (v17 ++ v19) fun v20 => (some (v20, ⟨v15, v16⟩))))))))))))) else (some (a3, ⟨v10, v11⟩)))) else (if v9 = 1 then (ln' z_ (a3.length) fun v21 => (if v6 < v21 then (gd (0 ≤ v6 ∧ v6.toNat ≤ a3.length) (lv (a3.take v6.toNat) fun v22 => (gd (RO 1 ⟨v10, v11⟩ ∧ 1 ≤ (([[48], [49], [32], [44], [97], [42], [61], [47], [45], [40], [41], [10]] : List Str)).length ∧ (([[48], [49], [32], [44], [97], [42], [61], [47], [45], [40], [41], [10]] : List Str)).length ≤ 1000) (on_S_Rd (rOf (⟨v10, v11⟩) ([[48], [49], [32], [44], [97], [42], [61], [47], [45], [40], [41], [10]])) fun v23 v24 v25 => (gd (v22.length + v23.length ≤ 9223372036854775807) (lv (v22 ++ v23) fun v26 => (arr .i64 (v6 + 1) fun v27 => (gd (0 ≤ v27 ∧ v27.toNat ≤ a3.length) (lv (a3.drop v27.toNat) fun v28 => (gd (v26.length + v28.length ≤ 9223372036854775807) (lv (v26 ++ v28) fun v29 => (some (v29, ⟨v24, v25⟩))))))))))))) else (some (a3, ⟨v10, v11⟩)))) else (if v9 = 2 then (gd (0 ≤ v6 ∧ v6.toNat ≤ a3.length) (lv (a3.take v6.toNat) fun v30 => (some (v30, ⟨v10, v11⟩)))) else (if v9 = 3 then (gd (RO 1 ⟨v10, v11⟩ ∧ 1 ≤ (([[48], [32], [44, 32, 97], [42], [47], [41]] : List Str)).length ∧ (([[48], [32], [44, 32, 97], [42], [47], [41]] : List Str)).length ≤ 1000) (on_S_Rd (rOf (⟨v10, v11⟩) ([[48], [32], [44, 32, 97], [42], [47], [41]])) fun v31 v32 v33 => (gd (a3.length + v31.length ≤ 9223372036854775807) (lv (a3 ++ v31) fun v34 => (some (v34, ⟨v32, v33⟩)))))) else (some (a3, ⟨v10, v11⟩))))))))))))
section
variable {G : Glob} (hm : pg.follows .mixedOrders = true) (hz : ∀ T, ∀ c ∈ (ttOf pg T).zero, Bd c) (hG : GF G)
include hm hz hG
theorem spec_mutate.w {a1 : List Int} {a2 : Int} {a3 : Str}  {r : Str × Rd} (H : spec_mutate.f a1 a2 a3  r = some r) : FnOK pg G 82 [.ptr 0 0 2 0 0, .str ⟨⟨a3⟩⟩] (([⟨0, true, 2, .one [.sl (a1.map eIu8), .int .i64 a2]⟩] : List EObj).map EObj.toObj) (.str ⟨⟨(r.1)⟩⟩) (([⟨0, true, 2, .one [.sl ((r.2.bs).map eIu8), .int .i64 (r.2.at_)]⟩] : List EObj).map EObj.toObj) true := by
  obtain ⟨V, hV⟩ := exV
  have e0_S : V.rS [] = [] := hV.rS []
  have e1_S : ∀ x r, V.rS (x :: r) = eS x :: V.rS r := fun x r => by rw [hV.rS, hV.rS]; rfl
  have e0_Iu8 : V.rIu8 [] = [] := hV.rIu8 []
  have e1_Iu8 : ∀ x r, V.rIu8 (x :: r) = eIu8 x :: V.rIu8 r := fun x r => by rw [hV.rIu8, hV.rIu8]; rfl
  simp only [← hV.rS, ← hV.rIu8]
  refine fn_okW (tt0 := tyG [ty3, ty4, ty9, ty71, ty90]) (fn := Tryz.f82) (body := bodyOf Tryz.f82) (ext := [⟨0, true, 2, .one [.sl (V.rIu8 a1), .int .i64 a2]⟩]) (ext' := [⟨0, true, 2, .one [.sl (V.rIu8 (r.2.bs)), .int .i64 (r.2.at_)]⟩]) hm (tyG_sub ⟨tt3, tt4, tt9, tt71, tt90, trivial⟩) hz 0 false [] (by unfold pg; exact Tryz.func82) rfl rfl (by simp [Tryz.f82]) (by simp [EObj.toObj]) (by cbv) ?_
  intro A F hA hF
  unfold spec_mutate.f at H
  cbv
  repeat' (first
    | (with_reducible refine s_gd H (fun hg H => ?_))
    | (cases H; exact fin_W hF rfl (by simp [expIds, posCells, C.cells, idOf]) (by cbv <;> rfl) (by simp [idsF, cellsV, C.cells, idOf]) ⟨by cbv <;> rfl, rfl, rfl, rfl, rfl, (by intro z hz; simp [ED.rows] at hz; subst hz; rfl), trivial⟩)
    | (with_reducible refine s_lt H (fun H => ?_) (fun H => ?_) <;> cbv)
    | (with_reducible refine s_le H (fun H => ?_) (fun H => ?_) <;> cbv)
    | (with_reducible refine s_eq H (fun H => ?_) (fun H => ?_) <;> cbv)
    | (with_reducible refine s_ne H (fun H => ?_) (fun H => ?_) <;> cbv)
    | (with_reducible refine s_ln H lnOf (fun _ H => ?_); cbv)
    | (with_reducible refine s_ar H (fun _ H => ?_); cbv)
    | (with_reducible refine s_apS hV H (fun _ H => ?_); cbv)
    | (with_reducible refine s_apL hV.rS hV.nS H (fun _ H => ?_); cbv)
    | (with_reducible refine s_tkL hV.rS H (fun _ H => ?_); cbv)
    | (with_reducible refine s_tdL hV.rS H (fun _ H => ?_); cbv)
    | (with_reducible refine s_tkLn hV.rS (by with_unfolding_all rfl) H (fun _ H => ?_); cbv)
    | (with_reducible refine s_drL hV.rS H (fun _ H => ?_); cbv)
    | (with_reducible refine s_drLn hV.rS (by with_unfolding_all rfl) H (fun _ H => ?_); cbv)
    | (with_reducible refine s_apIu8 hV H (fun _ H => ?_); cbv)
    | (with_reducible refine s_apL hV.rIu8 hV.nIu8 H (fun _ H => ?_); cbv)
    | (with_reducible refine s_tkL hV.rIu8 H (fun _ H => ?_); cbv)
    | (with_reducible refine s_tdL hV.rIu8 H (fun _ H => ?_); cbv)
    | (with_reducible refine s_tkLn hV.rIu8 (by with_unfolding_all rfl) H (fun _ H => ?_); cbv)
    | (with_reducible refine s_drL hV.rIu8 H (fun _ H => ?_); cbv)
    | (with_reducible refine s_drLn hV.rIu8 (by with_unfolding_all rfl) H (fun _ H => ?_); cbv)
    | (with_reducible refine s_lv H (fun _ H => ?_); cbv)
    | (with_reducible refine s_vI_Rd_1 hV (by assumption) H (by (try simp only [hV.rS, hV.rIu8]); (first | (have hk_ := spec_reader_pick.ok hm hz hG hg; with_unfolding_all exact hk_) | (with_unfolding_all exact spec_reader_pick.ok hm hz hG (by first | assumption | omega)))) (by first | (cbv <;> (repeat' (first | trivial | refine And.intro ?_ ?_)) <;> (first | rfl | exact clS hV _ | with_unfolding_all exact clIu8 hV _ | simp [closedCell])) | fail) (fun _ _ _ H => ?_); cbv)
    | (with_reducible refine s_vS_Rd_1 hV (by assumption) H (by (try simp only [hV.rS, hV.rIu8]); (first | (have hk_ := spec_reader_of.ok hm hz hG hg; with_unfolding_all exact hk_) | (with_unfolding_all exact spec_reader_of.ok hm hz hG (by first | assumption | omega)))) (by first | (cbv <;> (repeat' (first | trivial | refine And.intro ?_ ?_)) <;> (first | rfl | exact clS hV _ | with_unfolding_all exact clIu8 hV _ | simp [closedCell])) | fail) (fun _ _ _ H => ?_); cbv)
    | (with_reducible refine callT_wp hA rfl (fun U hU => ?_); cbv)
    | (with_reducible refine indep_of hA ?_; cbv)
    | ((with_reducible refine side ?_); exact sideOf)
    | (with_reducible refine s_tkG hV.rS hV.nS ?_; cbv)
    | (with_reducible refine s_tkG hV.rIu8 hV.nIu8 ?_; cbv)
    | (with_reducible refine s_tkP hV.rS ?_; cbv)
    | (with_reducible refine s_drP hV.rS hV.nS ?_; cbv)
    | (with_reducible refine s_tkP hV.rIu8 ?_; cbv)
    | (with_reducible refine s_drP hV.rIu8 hV.nIu8 ?_; cbv)
    | (with_reducible refine s_eqn ?_; cbv)
    | (with_reducible refine s_eqn2 ?_; cbv)
    | (with_reducible refine s_tk1 ?_; cbv)
    | (with_reducible refine s_eqL ?_; cbv)
    | (with_reducible refine And.intro ?_ ?_)
    | (intro ys hys; subst hys; rfl)
    | rfl
    | (first | exact True.intro | omega | exact clS hV _ | exact clIu8 hV _)
    | (intro h_; cases h_; done)
    | (with_reducible refine s_pl ?_; with_unfolding_all simp [plainV, plainA, plainC, plRS hV, plRIu8 hV])
    | (intro ys hys; subst hys))
end
section
variable {G : Glob} (hm : pg.follows .mixedOrders = true) (hz : ∀ T, ∀ c ∈ (ttOf pg T).zero, Bd c) (hG : GF G)
include hm hz hG
theorem spec_mutate.ok {a1 : List Int} {a2 : Int} {a3 : Str} (hp : RO 3 ⟨a1, a2⟩ ∧ a3.length ≤ 1048576) : FnOK pg G 82 [.ptr 0 0 2 0 0, .str ⟨⟨a3⟩⟩] (([⟨0, true, 2, .one [.sl (a1.map eIu8), .int .i64 a2]⟩] : List EObj).map EObj.toObj) (.str ⟨⟨((mutV ⟨a1, a2⟩ a3).1)⟩⟩) (([⟨0, true, 2, .one [.sl (((mutV ⟨a1, a2⟩ a3).2.bs).map eIu8), .int .i64 ((mutV ⟨a1, a2⟩ a3).2.at_)]⟩] : List EObj).map EObj.toObj) true := by
  obtain ⟨hp, hl⟩ := hp
  refine spec_mutate.w hm hz hG ?_
  have hp1 : RO 2 (pickV ⟨a1, a2⟩ (a3.length + 1)).2 := RO_pick hp
  have hp2 : RO 1 (pickV (pickV ⟨a1, a2⟩ (a3.length + 1)).2 5).2 := RO_pick hp1
  obtain ⟨p1, p2⟩ := pickI_rng (hp.le (by omega)) (n := (a3.length : Int) + 1) (by omega)
  have hA := mutA_len (rOf_mem (l := mutA) hp2 (by decide))
  have hB := mutB_len (rOf_mem (l := mutB) hp2 (by decide))
  simp only [spec_mutate.f, on_I_Rd, on_S_Rd, lv, mutV, eta_Rd, eta_P, pickV_1] at *
  rw [ln_at (by omega), arr_ok (by omega), gd_ok (hp.le (by omega)), gd_ok (hp1.le (by omega))]
  have main : ∀ (k : Int) (r2 : Rd), 0 ≤ k → RO 1 r2 → (rOf r2 mutA).1.length ≤ 3 → ∀ z : Str × Rd, z = (if k.toNat < a3.length then (a3.take k.toNat ++ (rOf r2 mutA).1 ++ a3.drop (k.toNat + 1), (rOf r2 mutA).2) else (a3, r2)) →
      ln' z a3.length (fun v => if k < v then gd (0 ≤ k ∧ k.toNat ≤ a3.length) (gd (RO 1 r2 ∧ 1 ≤ mutA.length ∧ mutA.length ≤ 1000) (gd ((a3.take k.toNat).length + (rOf r2 mutA).1.length ≤ 9223372036854775807) (arr .i64 (k + 1) fun v18 => gd (0 ≤ v18 ∧ v18.toNat ≤ a3.length) (gd ((a3.take k.toNat ++ (rOf r2 mutA).1).length + (a3.drop v18.toNat).length ≤ 9223372036854775807) (some (a3.take k.toNat ++ (rOf r2 mutA).1 ++ a3.drop v18.toNat, (rOf r2 mutA).2)))))) else some (a3, r2)) = some z := by
    rintro k r2 k0 hp2 hA z rfl
    have hk : (k + 1).toNat = k.toNat + 1 := by omega
    refine ln_ok fun hB' => ite_ok (fun h => ?_) (fun h => ?_)
    · rw [if_pos (by omega), gd_ok (by omega), gd_ok ⟨hp2, by decide, by decide⟩, gd_ok (by simp; omega), arr_ok (by omega), gd_ok (by omega), gd_ok (by simp; omega), hk]
    · rw [if_neg (by omega)]
  refine ite_ok (fun h => ?_) (fun h => ?_)
  · rw [if_pos (.inl h)]; exact main _ _ p1 hp2 hA _ rfl
  refine ite_ok (fun h1 => ?_) (fun h1 => ?_)
  · rw [if_pos (.inr h1)]; exact main _ _ p1 hp2 hA _ rfl
  rw [if_neg (by omega)]
  refine ite_ok (fun h2 => ?_) (fun h2 => ?_)
  · rw [if_pos h2, gd_ok (by omega)]
  rw [if_neg h2]
  refine ite_ok (fun h3 => ?_) (fun h3 => ?_)
  · rw [if_pos h3, gd_ok ⟨hp2, by decide, by decide⟩]
    exact gd_ok (by simp only [mutB] at hB; omega)
  · rw [if_neg h3]
end
section
variable {G : Glob} (hm : pg.follows .mixedOrders = true) (hz : ∀ T, ∀ c ∈ (ttOf pg T).zero, Bd c) (hG : GF G)
include hm hz hG
end
section
variable {G : Glob} (hm : pg.follows .mixedOrders = true) (hz : ∀ T, ∀ c ∈ (ttOf pg T).zero, Bd c) (hG : GF G)
include hm hz hG
end
section
variable {G : Glob} (hm : pg.follows .mixedOrders = true) (hz : ∀ T, ∀ c ∈ (ttOf pg T).zero, Bd c) (hG : GF G)
include hm hz hG
end
section
variable {G : Glob} (hm : pg.follows .mixedOrders = true) (hz : ∀ T, ∀ c ∈ (ttOf pg T).zero, Bd c) (hG : GF G)
include hm hz hG
end
noncomputable def spec_copyParams.f (a1 : List Param)  (z_ : (List Param)) : Option ((List Param)) := (gd ((0 + a1.length) * 40 ≤ 140737488355328) (lv (([] : List Param) ++ a1) fun v3 => (some v3)))
section
variable {G : Glob} (hm : pg.follows .mixedOrders = true) (hz : ∀ T, ∀ c ∈ (ttOf pg T).zero, Bd c) (hG : GF G)
include hm hz hG
theorem spec_copyParams.w {a1 : List Param}  {r : (List Param)} (H : spec_copyParams.f a1  r = some r) : FnOK pg G 170 [.sl (a1.map eParam)] [] (.fr 4 (r.map eParam)) [] false := by
  obtain ⟨V, hV⟩ := exV
  have e0_Param : V.rParam [] = [] := hV.rParam []
  have e1_Param : ∀ x r, V.rParam (x :: r) = eParam x :: V.rParam r := fun x r => by rw [hV.rParam, hV.rParam]; rfl
  simp only [← hV.rParam]
  refine fn_ok (tt0 := tyG [ty3, ty4, ty9, ty46, ty99]) (fn := Tryz.f170) (body := bodyOf Tryz.f170) (ext := []) hm (tyG_sub ⟨tt3, tt4, tt9, tt46, tt99, trivial⟩) hz 0 true [] (by unfold pg; exact Tryz.func170) rfl rfl (by simp [Tryz.f170]) (by simp [EObj.toObj]) (by cbv) ?_
  intro A F hA hF
  unfold spec_copyParams.f at H
  cbv
  repeat' (first
    | (with_reducible refine s_gd H (fun hg H => ?_))
    | (cases H; (try simp only [e0_Param, e1_Param, eParam] at hF); with_reducible refine fin_ref hF rfl (by simp [expIds, posCells, C.cells, idOf]) ?_; cbv)
    | (with_reducible refine s_apParam hV H (fun _ H => ?_); cbv)
    | (with_reducible refine s_apL hV.rParam hV.nParam H (fun _ H => ?_); cbv)
    | (with_reducible refine s_ap0 hV.rParam hV.nParam (by first | exact (hV.rParam _).symm | (simp [eParam]; rfl)) H (fun _ H => ?_); cbv)
    | (with_reducible refine s_lv H (fun _ H => ?_); cbv)
    | (with_reducible refine indep_of hA ?_; cbv)
    | ((with_reducible refine side ?_); exact sideOf)
    | (with_reducible refine s_tkG hV.rParam hV.nParam ?_; cbv)
    | (with_reducible refine s_tk1 ?_; cbv)
    | (with_reducible refine And.intro ?_ ?_)
    | (intro ys hys; subst hys; rfl)
    | rfl
    | (intro h_; cases h_; done)
    | (with_reducible refine s_pl ?_; with_unfolding_all simp [plainV, plainA, plainC, plRParam hV])
    | (intro ys hys; subst hys))
end
section
variable {G : Glob} (hm : pg.follows .mixedOrders = true) (hz : ∀ T, ∀ c ∈ (ttOf pg T).zero, Bd c) (hG : GF G)
include hm hz hG
theorem spec_copyParams.ok {a1 : List Param} (hp : a1.length ≤ 1000) : FnOK pg G 170 [.sl (a1.map eParam)] [] (.fr 4 ((((fun (l : List Param) => l) a1)).map eParam)) [] false := by
  refine spec_copyParams.w hm hz hG ?_
  simp only [spec_copyParams.f, lv, List.nil_append]
  rw [gd_ok (by omega)]
end
end Go.Proofs.YtoofegkjdjlpkaaGreatDoor.M
