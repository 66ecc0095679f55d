/- The reference's splitting. -/
import Derived.Test.YtoofegkjdjlpkaaGreatDoorPA
set_option linter.unusedVariables false
set_option linter.unusedSimpArgs false
set_option linter.unusedSectionVars false
namespace Go.Proofs.YtoofegkjdjlpkaaGreatDoor.M
open Go Go.Proofs
set_option maxRecDepth 100000
theorem cut_snoc {s : Str} {f i : Int} {x : UInt8} (h0 : 0 ≤ f) (h : f ≤ i) (hx : s[i.toNat]? = some x) : (s.take (i + 1).toNat).drop f.toNat = (s.take i.toNat).drop f.toNat ++ [x] := by
  have hl := (List.getElem?_eq_some_iff.1 hx).1
  rw [show (i + 1).toNat = i.toNat + 1 by omega, take_snoc hx, List.drop_append_of_le_length (by rw [List.length_take]; omega)]
theorem cut_self {s : Str} {i : Int} : (s.take i.toNat).drop i.toNat = [] := List.drop_eq_nil_of_le (by rw [List.length_take]; omega)
theorem pin_spec_splitAt {e : ESt} {ns : List (Nat × Nat)} {ps : List (Nat × C)} {os : List (Nat × EObj)} (hs : pinPZ (pinZ e.o (os.map Prod.fst) ns) e.s ps := by first | (cbv <;> (repeat' (first | trivial | refine And.intro ?_ ?_)) <;> (first | rfl | assumption | omega | exact clS hV _ | with_unfolding_all exact hV.nS [] | with_unfolding_all exact (hV.nS []).symm | with_unfolding_all exact hV.rS _ | with_unfolding_all exact (hV.nS _).trans (Eq.trans (by simp only [hV.nS] at *; omega) (hV.nS _).symm) | simp [closedCell])) | fail) (ho : ∀ B : (Nat → EObj) → List (List C) → List (List C) → Prop, (∀ o rows rows', rowsZ (pinZ o (os.map Prod.fst) ns) rows rows' → B o rows rows') → pinOZ (pinZ e.o (os.map Prod.fst) ns) B e.o ns os := by intro B hB; first | (cbv <;> (repeat' (first | trivial | refine And.intro ?_ ?_ | refine pin_same hB ?_ | refine pin_nil hB ?_ | refine pin_dirty hB (by assumption) (by assumption) ?_ ?_ | exact pinL_n | refine pinL_c ?_ ?_ | exact pzr rfl rfl rfl (nrS hV _) (clS hV _) | (refine pz_go ?_; cbv) | (refine pinL_go ?_; cbv))) <;> (first | exact clS hV _ | with_unfolding_all exact hV.rS _ | with_unfolding_all exact hV.nS [] | with_unfolding_all exact (hV.nS []).symm | assumption | omega | rfl | with_unfolding_all exact (hV.nS _).trans (Eq.trans (by simp only [hV.nS] at *; omega) (hV.nS _).symm) | simp [closedCell])) | fail) : PinnedZ e ns ps os := ⟨hs, ho⟩
section
variable {G : Glob} (hm : pg.follows .mixedOrders = true) (hz : ∀ T, ∀ c ∈ (ttOf pg T).zero, Bd c) (hG : GF G)
include hm hz hG
end
section
variable {G : Glob} (hm : pg.follows .mixedOrders = true) (hz : ∀ T, ∀ c ∈ (ttOf pg T).zero, Bd c) (hG : GF G)
include hm hz hG
end
def splitL : Str → Str → List Str
  | [], cur => [cur]
  | [b], cur => [cur ++ [b]]
  | b :: d :: r, cur => if b.toNat = 44 ∧ d.toNat = 32 then cur :: splitL r [] else splitL (d :: r) (cur ++ [b])
def splitList (s : Str) : List Str := if s = [] then [] else splitL s []
def splR (s : Str) (x : Int × Int × List Str) : List Str := if x.1 ≤ x.2.1 then x.2.2 ++ splitL (s.drop x.2.1.toNat) ((s.take x.2.1.toNat).drop x.1.toNat) else x.2.2 ++ splitL (s.drop x.1.toNat) []
noncomputable def spec_splitList.b0 (a1 : Str)  (h0 : (Int × Int × (List Str)) → Option ((List Str))) (z_ : (List Str)) (x89 : Int) (x90 : Int) (x91 : List Str) : Option ((List Str)) := (arr .i64 (x90 + 1) fun v113 => (ln' z_ (a1.length) fun v114 => (if v113 < v114 then (bt a1 x90 fun v123 => (if v123 = 44 then (arr .i64 (x90 + 1) fun v124 => (bt a1 v124 fun v125 => (if v125 = 32 then (gd (0 ≤ x89 ∧ x89 ≤ x90 ∧ x90.toNat ≤ a1.length) (lv ((a1.take x90.toNat).drop x89.toNat) fun v128 => (gd ((x91.length + 1) * 16 ≤ 140737488355328) (lv (x91 ++ [v128]) fun v129 => (arr .i64 (x90 + 2) fun v130 => (arr .i64 (x90 + 1) fun v131 => (h0 (v130, v131, v129)))))))) else (arr .i64 (x90 + 1) fun v132 => (h0 (x89, v132, x91)))))) else (arr .i64 (x90 + 1) fun v133 => (h0 (x89, v133, x91))))) else (gd (0 ≤ x89 ∧ x89.toNat ≤ a1.length) (lv (a1.drop x89.toNat) fun v136 => (gd ((x91.length + 1) * 16 ≤ 140737488355328) (lv (x91 ++ [v136]) fun v137 => (some v137))))))))
noncomputable def spec_splitList.f (a1 : Str) (h0 : (Int × Int × (List Str)) → Option ((List Str))) (z_ : (List Str)) : Option ((List Str)) := (if a1 = ([] : Str) then (some []) else (h0 (0, 0, [])))
section
variable {G : Glob} (hm : pg.follows .mixedOrders = true) (hz : ∀ T, ∀ c ∈ (ttOf pg T).zero, Bd c) (hG : GF G)
include hm hz hG
set_option maxHeartbeats 8000000 in
theorem spec_splitList.w {a1 : Str} (inv0 : (Int × Int × (List Str)) → Prop) (mu0 : (Int × Int × (List Str)) → Nat) (res0 : (Int × Int × (List Str)) → (List Str)) (hb0 : ∀ (s_ : Int × Int × (List Str)), inv0  s_ → spec_splitList.b0 a1  (LI (inv0 ) (mu0 ) (res0 ) (mu0  s_)) (res0  s_) s_.1 s_.2.1 s_.2.2 = some (res0  s_)) {r : (List Str)} (H : spec_splitList.f a1 (EI (inv0 ) (mu0 ) (res0 )) r = some r) : FnOK pg G 131 [.str ⟨⟨a1⟩⟩] [] (.sl (r.map eS)) [] true := by
  obtain ⟨V, hV⟩ := exV
  have e0_S : V.rS [] = [] := hV.rS []
  have e1_S : ∀ x r, V.rS (x :: r) = eS x :: V.rS r := fun x r => by rw [hV.rS, hV.rS]; rfl
  simp only [← hV.rS]
  refine fn_okS (tt0 := tyG [ty3, ty4, ty5, ty9, ty71]) (fn := Tryz.f131) (body := bodyOf Tryz.f131) (ext := []) hm (tyG_sub ⟨tt3, tt4, tt5, tt9, tt71, trivial⟩) hz 0 [] (by unfold pg; exact Tryz.func131) rfl rfl (by simp [Tryz.f131]) (by simp [EObj.toObj]) (by cbv) ?_
  intro A F hA hF
  unfold spec_splitList.f at H
  cbv
  repeat' (first
    | (with_reducible refine s_gd H (fun hg H => ?_))
    | (cases H; (try simp only [e0_S, e1_S, eS] at hF); with_reducible refine fin_close hF rfl (by simp [expIds, posCells, C.cells, idOf]) ?_; cbv)
    | (with_reducible refine s_lt H (fun H => ?_) (fun H => ?_) <;> cbv)
    | (with_reducible refine s_le H (fun H => ?_) (fun H => ?_) <;> cbv)
    | (with_reducible refine s_eq H (fun H => ?_) (fun H => ?_) <;> cbv)
    | (with_reducible refine s_ne H (fun H => ?_) (fun H => ?_) <;> cbv)
    | (with_reducible refine s_ln H lnOf (fun _ H => ?_); cbv)
    | (with_reducible refine s_bt H (fun _ H => ?_); cbv)
    | (with_reducible refine s_ar H (fun _ H => ?_); cbv)
    | (with_reducible refine s_apS hV H (fun _ H => ?_); cbv)
    | (with_reducible refine s_apL hV.rS hV.nS H (fun _ H => ?_); cbv)
    | (with_reducible refine s_tkL hV.rS H (fun _ H => ?_); cbv)
    | (with_reducible refine s_tdL hV.rS H (fun _ H => ?_); cbv)
    | (with_reducible refine s_tkLn hV.rS (by with_unfolding_all rfl) H (fun _ H => ?_); cbv)
    | (with_reducible refine s_drL hV.rS H (fun _ H => ?_); cbv)
    | (with_reducible refine s_drLn hV.rS (by with_unfolding_all rfl) H (fun _ H => ?_); cbv)
    | (with_reducible refine s_lv H (fun _ H => ?_); cbv)
    | (with_reducible refine s_loop hA H (fun s h => hb0  s h) [0] [] (fun e s => [(3, .ref 384 0 1 0 (V.nS (s.2.2))), (4, .int .i64 (s.1)), (5, .int .i64 (s.2.1))]) (fun e s => [(384, ⟨0, true, 1, .many (V.rS (s.2.2))⟩)]) [] pin_spec_splitAt nbOf ?_; rintro ⟨x89, x90, x91⟩ H; unfold spec_splitList.b0 at H; (try dsimp only at H); cbv)
    | (with_reducible refine s_next H pin_spec_splitAt nbOf)
    | (with_reducible refine indep_of hA ?_; cbv)
    | ((with_reducible refine side ?_); exact sideOf)
    | (with_reducible refine s_tkG hV.rS hV.nS ?_; cbv)
    | (with_reducible refine s_tkP hV.rS ?_; cbv)
    | (with_reducible refine s_drP hV.rS hV.nS ?_; cbv)
    | (with_reducible refine s_eqn ?_; cbv)
    | (with_reducible refine s_eqn2 ?_; cbv)
    | (with_reducible refine s_tk1 ?_; cbv)
    | (with_reducible refine And.intro ?_ ?_)
    | (intro ys hys; subst hys; rfl)
    | rfl)
end
section
variable {G : Glob} (hm : pg.follows .mixedOrders = true) (hz : ∀ T, ∀ c ∈ (ttOf pg T).zero, Bd c) (hG : GF G)
include hm hz hG
theorem spec_splitList.ok {a1 : Str} (hp : a1.length ≤ 1048576) : FnOK pg G 131 [.str ⟨⟨a1⟩⟩] [] (.sl (((splitList a1)).map eS)) [] true := by
  refine spec_splitList.w hm hz hG (fun (s : Int × Int × List Str) => 0 ≤ s.1 ∧ s.1 ≤ s.2.1 + 1 ∧ 0 ≤ s.2.1 ∧ s.2.1 + 1 ≤ a1.length ∧ s.2.2.length ≤ s.2.1.toNat ∧ (s.1 = s.2.1 + 1 → (a1.getD s.2.1.toNat 0).toNat = 32)) (fun s => a1.length - s.2.1.toNat) (splR a1) ?_ ?_
  · rintro ⟨f, i, acc⟩ ⟨hf, hfi, hi, hil, hl, hsp⟩
    simp only at hf hfi hi hil hl hsp
    obtain ⟨x, hx, hd⟩ := drop_cons' hi (by omega : i < a1.length)
    simp only [spec_splitList.b0]
    rw [arr_ok (by omega)]
    refine ln_ok fun hB => ite_ok (fun h => ?_) (fun h => ?_)
    · obtain ⟨y, hy, hd2⟩ := drop_cons' (by omega : 0 ≤ i + 1) h
      rw [bt_ok (by omega), gD hx]
      have next : ¬ (x.toNat = 44 ∧ y.toNat = 32) → LI (fun (s : Int × Int × List Str) => 0 ≤ s.1 ∧ s.1 ≤ s.2.1 + 1 ∧ 0 ≤ s.2.1 ∧ s.2.1 + 1 ≤ a1.length ∧ s.2.2.length ≤ s.2.1.toNat ∧ (s.1 = s.2.1 + 1 → (a1.getD s.2.1.toNat 0).toNat = 32)) (fun s => a1.length - s.2.1.toNat) (splR a1) (a1.length - i.toNat) (f, i + 1, acc) = some (splR a1 (f, i, acc)) := fun hn => by
        rw [LI_ok ⟨⟨hf, by simp only; omega, by simp only; omega, by simp only; omega, by simp only; omega, fun he => by simp only at he; omega⟩, by simp only; omega⟩]
        congr 1
        by_cases hfi' : f ≤ i
        · rw [splR, splR, if_pos (by simp only; omega), if_pos (by simp only; omega)]
          simp only
          rw [hd, hd2, splitL, if_neg hn, cut_snoc hf hfi' hx]
        · have he : f = i + 1 := by omega
          subst he
          rw [splR, splR, if_pos (by simp only; omega), if_neg (by simp only; omega)]
          simp only
          rw [cut_self]
      refine ite_ok (fun h1 => ?_) (fun h1 => ?_)
      · rw [arr_ok (by omega), bt_ok (by omega), gD hy]
        refine ite_ok (fun h2 => ?_) (fun h2 => ?_)
        · have hfi' : f ≤ i := by
            by_cases he : f = i + 1
            · have := hsp he
              rw [gD hx] at this; omega
            · omega
          rw [gd_ok (by omega)]
          simp only [lv]
          rw [gd_ok (by omega), arr_ok (by omega), arr_ok (by omega)]
          rw [LI_ok ⟨⟨by simp only; omega, by simp only; omega, by simp only; omega, by simp only; omega, by simp; omega, fun _ => by simp only; rw [gD hy]; omega⟩, by simp only; omega⟩]
          congr 1
          rw [splR, splR, if_neg (by simp only; omega), if_pos hfi']
          simp only
          rw [hd, hd2, splitL, if_pos (by omega), show (i + 1 + 1).toNat = (i + 2).toNat by omega]
          simp
        · rw [arr_ok (by omega)]
          exact next (by omega)
      · rw [arr_ok (by omega)]
        exact next (by omega)
    · rw [gd_ok (by omega)]
      simp only [lv]
      rw [gd_ok (by omega)]
      congr 1
      have hd2 : a1.drop (i + 1).toNat = [] := List.drop_eq_nil_of_le (by omega)
      by_cases hfi' : f ≤ i
      · rw [splR, if_pos hfi']
        simp only
        rw [hd, hd2, splitL, ← cut_snoc hf hfi' hx, List.take_of_length_le (by omega)]
      · have he : f = i + 1 := by omega
        subst he
        rw [splR, if_neg (by simp only; omega)]
        simp only
        rw [hd2, splitL]
  · simp only [spec_splitList.f]
    refine ite_ok (fun h => by rw [splitList, if_pos h]) (fun h => ?_)
    have := List.length_pos_iff.2 h
    refine EI_fin ⟨Int.le_refl _, by simp, Int.le_refl _, by simp only; omega, by simp, fun he => by simp at he⟩ ?_
    rw [splitList, if_neg h, splR, if_pos (by simp)]
    simp
end
end Go.Proofs.YtoofegkjdjlpkaaGreatDoor.M
