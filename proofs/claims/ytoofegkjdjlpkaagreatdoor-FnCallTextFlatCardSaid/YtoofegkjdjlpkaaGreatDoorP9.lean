/- The program's ParseCall. -/
import Derived.Test.YtoofegkjdjlpkaaGreatDoorP8
set_option linter.unusedVariables false
set_option linter.unusedSimpArgs false
set_option linter.unusedSectionVars false
namespace Go.Proofs.YtoofegkjdjlpkaaGreatDoor.M
open Go Go.Proofs
set_option maxRecDepth 100000
theorem allOk_cons {α : Type} {f : Str → α × Bool} {t : Str} {r : List Str} (h : (f t).2 = true) : allOk f (t :: r) = (allOk f r).map fun l => (f t).1 :: l := by rw [allOk, if_pos h]
theorem allOk_bad {α : Type} {f : Str → α × Bool} {t : Str} {r : List Str} (h : (f t).2 = false) : allOk f (t :: r) = none := by rw [allOk, if_neg (by simp [h])]
def restOf {α β : Type} (mk : List α → β) (bad : β) (acc : List α) : Option (List α) → β
  | some l => mk (acc ++ l)
  | none => bad
theorem restOf_cons {α β : Type} {mk : List α → β} {bad : β} {acc : List α} {x : α} {o : Option (List α)} : restOf mk bad acc (o.map fun l => x :: l) = restOf mk bad (acc ++ [x]) o := by
  cases o <;> simp [restOf]
theorem restOf_nil {α β : Type} {mk : List α → β} {bad : β} {acc : List α} : restOf mk bad acc (some []) = mk acc := by simp [restOf]
def on_LS {R : Type} (v : (List Str)) (f : (List Str) → Option R) : Option R := f v
section
variable {A : Bx} {P : Program} {G : Glob} {rg : Option Nat} {own : Nat} {o : Nat → EObj} {g : FuncId} {vs : List C} {sh : Bool} {K : C → List (Nat × EObj) → Prop} {R : Type} {r : R} {V : Vx} {v : (List Str)} {f : (List Str) → Option R}
theorem s_cLS (hV : IsV V) (hA : IsBx true rg P G A) (H : on_LS v f = some r) (hok : FnOK P G g vs [] (.sl (v.map eS)) [] sh) (hc : vs.all closedArg = true) (h : ∀ c0, f c0 = some r → K (.sl (V.rS c0)) []) : A.call own o g vs K := by
  refine callT_plain hA hok hc ?_
  have := h (v) H
  simp only [hV.rS] at this
  exact this
variable {U : List C → List Nat → (C → List (Nat × EObj) → Prop) → Prop} {bs : List C} {tops : List Nat}
end
def on_Pair_B {R : Type} (v : Pair × Bool) (f : Str → Int → Bool → Option R) : Option R := f (v.1.name) (v.1.value) (v.2)
section
variable {A : Bx} {P : Program} {G : Glob} {rg : Option Nat} {own : Nat} {o : Nat → EObj} {g : FuncId} {vs : List C} {sh : Bool} {K : C → List (Nat × EObj) → Prop} {R : Type} {r : R} {V : Vx} {v : Pair × Bool} {f : Str → Int → Bool → Option R}
theorem s_cPair_B (hV : IsV V) (hA : IsBx true rg P G A) (H : on_Pair_B v f = some r) (hok : FnOK P G g vs [] (.tup [.agg [.str ⟨⟨(v.1.name)⟩⟩, .int .i64 (v.1.value)], .bool (v.2)]) [] sh) (hc : vs.all closedArg = true) (h : ∀ c0 c1 c2, f c0 c1 c2 = some r → K (.tup [.agg [.str ⟨⟨c0⟩⟩, .int .i64 c1], .bool c2]) []) : A.call own o g vs K := by
  refine callT_plain hA hok hc ?_
  have := h (v.1.name) (v.1.value) (v.2) H
  exact this
variable {U : List C → List EObj → (C → List (Nat × EObj) → Prop) → Prop} {bs : List C} {ext : List EObj}
end
noncomputable def impl_readArg.b1 (a1 : Str) (v323 : List Str) (v324 : Int) (h1 : (Int × (List Int)) → Option (Arg × Bool)) (z_ : Arg × Bool) (x334 : Int) (x335 : List Int) : Option (Arg × Bool) := (if x334 < v324 then (ixS v323 x334 fun v349 => (gd (v349.length ≤ 281474976710656) (on_I_B (readNumI v349) fun v350 v351 => (cn v351 (gd ((x335.length + 1) * 8 ≤ 140737488355328) (lv (x335 ++ [v350]) fun v352 => (arr .i64 (x334 + 1) fun v353 => (h1 (v353, v352))))) (some (⟨0, ([] : Str), [], []⟩, false)))))) else (some (⟨1, ([] : Str), x335, []⟩, true)))
noncomputable def impl_readArg.b0 (a1 : Str) (v171 : List Str) (v172 : Int) (h0 : (Int × (List Pair)) → Option (Arg × Bool)) (z_ : Arg × Bool) (x190 : Int) (x191 : List Pair) : Option (Arg × Bool) := (if x190 < v172 then (ixS v171 x190 fun v217 => (gd (v217.length ≤ 1048576) (on_Pair_B (readPairI v217) fun v221 v222 v223 => (cn v223 (gd ((x191.length + 1) * 24 ≤ 140737488355328) (lv (x191 ++ [⟨v221, v222⟩]) fun v224 => (arr .i64 (x190 + 1) fun v225 => (h0 (v225, v224))))) (some (⟨0, ([] : Str), [], []⟩, false)))))) else (some (⟨3, ([] : Str), [], x191⟩, true)))
noncomputable def impl_readArg.f (a1 : Str) (h0 : (List Str) → Int → (Int × (List Pair)) → Option (Arg × Bool)) (h1 : (List Str) → Int → (Int × (List Int)) → Option (Arg × Bool)) (z_ : Arg × Bool) : Option (Arg × Bool) := (on_S_B (enclosed a1 ([42, 42, 123]) ([125])) fun v114 v115 => (cn v115 (gd (v114.length ≤ 4294967296) (on_LS (fieldsS v114) fun v171 => (ln' z_ (v171.length) fun v172 => (h0 v171 v172 (0, []))))) (on_S_B (enclosed a1 ([42, 91]) ([93])) fun v290 v291 => (cn v291 (gd (v290.length ≤ 4294967296) (on_LS (fieldsS v290) fun v323 => (ln' z_ (v323.length) fun v324 => (h1 v323 v324 (0, []))))) (gd (a1.length ≤ 281474976710656) (on_I_B (readNumI a1) fun v356 v357 => (cn v357 (some (⟨0, ([] : Str), [v356], []⟩, true)) (gd (a1.length ≤ 1048576) (on_Pair_B (readPairI a1) fun v361 v362 v363 => (some (⟨2, v361, [v362], []⟩, v363)))))))))))
theorem pin_impl_readArg {e : ESt} {ns : List (Nat × Nat)} {ps : List (Nat × C)} {os : List (Nat × EObj)} (hs : pinPZ (pinZ e.o (os.map Prod.fst) ns) e.s ps := by first | (cbv <;> (repeat' (first | trivial | refine And.intro ?_ ?_)) <;> (first | rfl | assumption | omega | exact clI hV _ | exact clS hV _ | exact clPair hV _ | with_unfolding_all exact hV.nI [] | with_unfolding_all exact (hV.nI []).symm | with_unfolding_all exact hV.nS [] | with_unfolding_all exact (hV.nS []).symm | with_unfolding_all exact hV.nPair [] | with_unfolding_all exact (hV.nPair []).symm | with_unfolding_all exact hV.rI _ | with_unfolding_all exact hV.rS _ | with_unfolding_all exact hV.rPair _ | with_unfolding_all exact (hV.nI _).trans (Eq.trans (by simp only [hV.nI] at *; omega) (hV.nI _).symm) | with_unfolding_all exact (hV.nS _).trans (Eq.trans (by simp only [hV.nS] at *; omega) (hV.nS _).symm) | with_unfolding_all exact (hV.nPair _).trans (Eq.trans (by simp only [hV.nPair] at *; omega) (hV.nPair _).symm) | simp [closedCell])) | fail) (ho : ∀ B : (Nat → EObj) → List (List C) → List (List C) → Prop, (∀ o rows rows', rowsZ (pinZ o (os.map Prod.fst) ns) rows rows' → B o rows rows') → pinOZ (pinZ e.o (os.map Prod.fst) ns) B e.o ns os := by intro B hB; first | (cbv <;> (repeat' (first | trivial | refine And.intro ?_ ?_ | refine pin_same hB ?_ | refine pin_nil hB ?_ | refine pin_dirty hB (by assumption) (by assumption) ?_ ?_ | exact pinL_n | refine pinL_c ?_ ?_ | exact pzr rfl rfl rfl (nrI hV _) (clI hV _) | exact pzr rfl rfl rfl (nrS hV _) (clS hV _) | exact pzr rfl rfl rfl (nrPair hV _) (clPair hV _) | (refine pz_go ?_; cbv) | (refine pinL_go ?_; cbv))) <;> (first | exact clI hV _ | exact clS hV _ | exact clPair hV _ | with_unfolding_all exact hV.rI _ | with_unfolding_all exact hV.rS _ | with_unfolding_all exact hV.rPair _ | with_unfolding_all exact hV.nI [] | with_unfolding_all exact (hV.nI []).symm | with_unfolding_all exact hV.nS [] | with_unfolding_all exact (hV.nS []).symm | with_unfolding_all exact hV.nPair [] | with_unfolding_all exact (hV.nPair []).symm | assumption | omega | rfl | with_unfolding_all exact (hV.nI _).trans (Eq.trans (by simp only [hV.nI] at *; omega) (hV.nI _).symm) | with_unfolding_all exact (hV.nS _).trans (Eq.trans (by simp only [hV.nS] at *; omega) (hV.nS _).symm) | with_unfolding_all exact (hV.nPair _).trans (Eq.trans (by simp only [hV.nPair] at *; omega) (hV.nPair _).symm) | simp [closedCell])) | fail) : PinnedZ e ns ps os := ⟨hs, ho⟩
section
variable {G : Glob} (hm : pg.follows .mixedOrders = true) (hz : ∀ T, ∀ c ∈ (ttOf pg T).zero, Bd c) (hG : GF G)
include hm hz hG
set_option maxHeartbeats 8000000 in
theorem impl_readArg.w {a1 : Str} (inv0 : (List Str) → Int → (Int × (List Pair)) → Prop) (mu0 : (List Str) → Int → (Int × (List Pair)) → Nat) (res0 : (List Str) → Int → (Int × (List Pair)) → Arg × Bool) (inv1 : (List Str) → Int → (Int × (List Int)) → Prop) (mu1 : (List Str) → Int → (Int × (List Int)) → Nat) (res1 : (List Str) → Int → (Int × (List Int)) → Arg × Bool) (hb0 : ∀ (v171 : List Str), ∀ (v172 : Int), ∀ (s_ : Int × (List Pair)), inv0 v171 v172 s_ → impl_readArg.b0 a1 v171 v172 (LI (inv0 v171 v172) (mu0 v171 v172) (res0 v171 v172) (mu0 v171 v172 s_)) (res0 v171 v172 s_) s_.1 s_.2 = some (res0 v171 v172 s_)) (hb1 : ∀ (v323 : List Str), ∀ (v324 : Int), ∀ (s_ : Int × (List Int)), inv1 v323 v324 s_ → impl_readArg.b1 a1 v323 v324 (LI (inv1 v323 v324) (mu1 v323 v324) (res1 v323 v324) (mu1 v323 v324 s_)) (res1 v323 v324 s_) s_.1 s_.2 = some (res1 v323 v324 s_)) {r : Arg × Bool} (H : impl_readArg.f a1 (fun v171 v172 => EI (inv0 v171 v172) (mu0 v171 v172) (res0 v171 v172)) (fun v323 v324 => EI (inv1 v323 v324) (mu1 v323 v324) (res1 v323 v324)) r = some r) : FnOK pg G 63 [.str ⟨⟨a1⟩⟩] [] (.tup [.agg [.int .i64 (r.1.kind), .str ⟨⟨(r.1.name)⟩⟩, .sl ((r.1.list).map eI), .sl ((r.1.pairs).map ePair)], .bool (r.2)]) [] true := by
  obtain ⟨V, hV⟩ := exV
  have e0_I : V.rI [] = [] := hV.rI []
  have e1_I : ∀ x r, V.rI (x :: r) = eI x :: V.rI r := fun x r => by rw [hV.rI, hV.rI]; rfl
  have e0_S : V.rS [] = [] := hV.rS []
  have e1_S : ∀ x r, V.rS (x :: r) = eS x :: V.rS r := fun x r => by rw [hV.rS, hV.rS]; rfl
  have e0_Pair : V.rPair [] = [] := hV.rPair []
  have e1_Pair : ∀ x r, V.rPair (x :: r) = ePair x :: V.rPair r := fun x r => by rw [hV.rPair, hV.rPair]; rfl
  simp only [← hV.rI, ← hV.rS, ← hV.rPair]
  refine fn_okS (tt0 := tyG [ty3, ty4, ty9, ty36, ty37, ty71, ty74, ty80]) (fn := Tryz.f63) (body := bodyOf Tryz.f63) (ext := []) hm (tyG_sub ⟨tt3, tt4, tt9, tt36, tt37, tt71, tt74, tt80, trivial⟩) hz 0 [] (by unfold pg; exact Tryz.func63) rfl rfl (by simp [Tryz.f63]) (by simp [EObj.toObj]) (by cbv) ?_
  intro A F hA hF
  unfold impl_readArg.f at H
  cbv
  repeat' (first
    | (with_reducible refine s_gd H (fun hg H => ?_))
    | (cases H; (try simp only [e0_I, e0_S, e0_Pair, e1_I, eI, e1_S, eS, e1_Pair, ePair] at hF); with_reducible refine fin_close hF rfl (by simp [expIds, posCells, C.cells, idOf]) ?_; cbv)
    | (with_reducible refine s_lt H (fun H => ?_) (fun H => ?_) <;> cbv)
    | (with_reducible refine s_le H (fun H => ?_) (fun H => ?_) <;> cbv)
    | (with_reducible refine s_eq H (fun H => ?_) (fun H => ?_) <;> cbv)
    | (with_reducible refine s_ne H (fun H => ?_) (fun H => ?_) <;> cbv)
    | (with_reducible refine s_ln H lnOf (fun _ H => ?_); cbv)
    | (with_reducible refine s_ixS hV H (fun _ H => ?_); cbv)
    | (with_reducible refine s_ar H (fun _ H => ?_); cbv)
    | (with_reducible refine s_apI hV H (fun _ H => ?_); cbv)
    | (with_reducible refine s_apL hV.rI hV.nI H (fun _ H => ?_); cbv)
    | (with_reducible refine s_apS hV H (fun _ H => ?_); cbv)
    | (with_reducible refine s_apL hV.rS hV.nS H (fun _ H => ?_); cbv)
    | (with_reducible refine s_apPair hV H (fun _ H => ?_); cbv)
    | (with_reducible refine s_apL hV.rPair hV.nPair H (fun _ H => ?_); cbv)
    | (with_reducible refine s_lv H (fun _ H => ?_); cbv)
    | (with_reducible refine s_loop hA H (fun s h => hb0 _ _ s h) [2, 6, 30, 31] [128] (fun e s => [(32, .int .i64 (s.1))]) (fun e s => [ovO e 384 [(3, .ref 3072 0 2 0 (V.nPair (s.2)))], (3072, ⟨0, true, 2, .many (V.rPair (s.2))⟩)]) [(3072, 2)] pin_impl_readArg nbOf ?_; rintro ⟨x190, x191⟩ H; unfold impl_readArg.b0 at H; (try dsimp only at H); cbv)
    | (with_reducible refine s_loop hA H (fun s h => hb1 _ _ s h) [2, 13, 60, 61] [128] (fun e s => [(62, .int .i64 (s.1))]) (fun e s => [ovO e 832 [(2, .ref 4992 0 1 0 (V.nI (s.2)))], (4992, ⟨0, true, 1, .many (V.rI (s.2))⟩)]) [(4992, 1)] pin_impl_readArg nbOf ?_; rintro ⟨x334, x335⟩ H; unfold impl_readArg.b1 at H; (try dsimp only at H); cbv)
    | (with_reducible refine s_next H pin_impl_readArg nbOf)
    | (with_reducible refine s_cS_B hV hA H (by (try simp only [hV.rI, hV.rS, hV.rPair]); with_unfolding_all exact impl_enclosed.ok hm hz hG) rfl (fun _ _ H => ?_); cbv)
    | (with_reducible refine s_cLS hV hA H (by (try simp only [hV.rI, hV.rS, hV.rPair]); with_unfolding_all exact strings_FieldsFunc_1.ok hm hz hG (by first | assumption | omega)) rfl (fun _ H => ?_); cbv)
    | (with_reducible refine s_cPair_B hV hA H (by (try simp only [hV.rI, hV.rS, hV.rPair]); (first | (have hk_ := impl_readPair.ok hm hz hG hg; with_unfolding_all exact hk_) | (with_unfolding_all exact impl_readPair.ok hm hz hG (by first | assumption | omega)))) rfl (fun _ _ _ H => ?_); cbv)
    | (with_reducible refine s_cLS hV hA H (by (try simp only [hV.rI, hV.rS, hV.rPair]); with_unfolding_all exact strings_FieldsFunc_2.ok hm hz hG (by first | assumption | omega)) rfl (fun _ H => ?_); cbv)
    | (with_reducible refine s_cI_B hV hA H (by (try simp only [hV.rI, hV.rS, hV.rPair]); with_unfolding_all exact impl_readNumber.ok hm hz hG (by first | assumption | omega)) rfl (fun _ _ H => ?_); cbv)
    | (with_reducible refine indep_of hA ?_; cbv)
    | ((with_reducible refine side ?_); exact sideOf)
    | (with_reducible refine s_tkG hV.rI hV.nI ?_; cbv)
    | (with_reducible refine s_tkG hV.rS hV.nS ?_; cbv)
    | (with_reducible refine s_tkG hV.rPair hV.nPair ?_; cbv)
    | (with_reducible refine s_tk1 ?_; cbv)
    | (with_reducible refine And.intro ?_ ?_)
    | ((with_reducible refine s_cn H (fun hb H => ?_) (fun hb H => ?_)) <;> (revert H; subst hb; intro H; cbv))
    | (intro ys hys; subst hys; rfl)
    | rfl)
end
section
variable {G : Glob} (hm : pg.follows .mixedOrders = true) (hz : ∀ T, ∀ c ∈ (ttOf pg T).zero, Bd c) (hG : GF G)
include hm hz hG
theorem impl_readArg.ok {a1 : Str} (hp : a1.length ≤ 1048576) : FnOK pg G 63 [.str ⟨⟨a1⟩⟩] [] (.tup [.agg [.int .i64 ((readArgI a1).1.kind), .str ⟨⟨((readArgI a1).1.name)⟩⟩, .sl (((readArgI a1).1.list).map eI), .sl (((readArgI a1).1.pairs).map ePair)], .bool ((readArgI a1).2)]) [] true := by
  have b1 := enclosed_len a1 [42, 42, 123] [125]
  have b2 := enclosed_len a1 [42, 91] [93]
  refine impl_readArg.w hm hz hG
    (fun (l : List Str) n => rgI l (fun s : Int × List Pair => s.1) (fun s => n = l.length ∧ s.2.length = s.1.toNat ∧ (∀ t ∈ l, t.length ≤ 1048576) ∧ l.length ≤ 1048577)) (fun l _ => rgM l (fun s : Int × List Pair => s.1)) (fun l _ => rgR l (fun s : Int × List Pair => s.1) (fun r s => restOf (fun l => ((⟨3, [], [], l⟩ : Arg), true)) (arg0, false) s.2 (allOk readPairI r)))
    (fun (l : List Str) n => rgI l (fun s : Int × List Int => s.1) (fun s => n = l.length ∧ s.2.length = s.1.toNat ∧ (∀ t ∈ l, t.length ≤ 1048576) ∧ l.length ≤ 1048577)) (fun l _ => rgM l (fun s : Int × List Int => s.1)) (fun l _ => rgR l (fun s : Int × List Int => s.1) (fun r s => restOf (fun l => ((⟨1, [], l, []⟩ : Arg), true)) (arg0, false) s.2 (allOk readNumI r)))
    (fun l n => rangeS l (fun s : Int × List Pair => s.1) _ _ (fun rec z s => impl_readArg.b0 a1 l n rec z s.1 s.2) ?_ ?_)
    (fun l n => rangeS l (fun s : Int × List Int => s.1) _ _ (fun rec z s => impl_readArg.b1 a1 l n rec z s.1 s.2) ?_ ?_) ?_
  · rintro rec ⟨i, acc⟩ ⟨rfl, hI, hL, hl⟩ h0 h1
    simp only at h0 h1 hI
    simp (disch := first | assumption | omega | (simp; done) | (simp; omega)) only [if_true, if_false, reduceIte, lv, lj, ln_at, cn_t, cn_f, cn_tf, cn_ft, cn_xx, gd_ok, arr_ok, arr_ok8, arr_ok32, arr_oku, ia_ok, bt_ok, EI_ok, LI_ok, impl_readArg.b0, h1, Int.lt_irrefl, allOk, restOf_nil]
  · rintro rec ⟨i, acc⟩ x r ⟨rfl, hI, hL, hl⟩ h0 h1 hx hll hr
    simp only at h0 h1 hx hll hI
    have hxl := hL x (List.mem_of_getElem? hx)
    simp only [impl_readArg.b0, cn_ite]
    simp (disch := first | assumption | omega | (simp; done) | (simp; omega)) only [if_true, if_false, reduceIte, lv, lj, ln_at, cn_t, cn_f, cn_tf, cn_ft, cn_xx, gd_ok, arr_ok, arr_ok8, arr_ok32, arr_oku, ia_ok, bt_ok, EI_ok, LI_ok, h1, ixS, hx, h0, on_Pair_B]
    refine ite_ok (fun hq => ?_) fun hq => ?_
    · rw [allOk_cons hq, restOf_cons]
      exact hr (_, _) ⟨rfl, by simp; omega, hL, hl⟩ rfl
    · rw [allOk_bad (by simpa using hq)]; rfl
  · rintro rec ⟨i, acc⟩ ⟨rfl, hI, hL, hl⟩ h0 h1
    simp only at h0 h1 hI
    simp (disch := first | assumption | omega | (simp; done) | (simp; omega)) only [if_true, if_false, reduceIte, lv, lj, ln_at, cn_t, cn_f, cn_tf, cn_ft, cn_xx, gd_ok, arr_ok, arr_ok8, arr_ok32, arr_oku, ia_ok, bt_ok, EI_ok, LI_ok, impl_readArg.b1, h1, Int.lt_irrefl, allOk, restOf_nil]
  · rintro rec ⟨i, acc⟩ x r ⟨rfl, hI, hL, hl⟩ h0 h1 hx hll hr
    simp only at h0 h1 hx hll hI
    have hxl := hL x (List.mem_of_getElem? hx)
    simp only [impl_readArg.b1, cn_ite]
    simp (disch := first | assumption | omega | (simp; done) | (simp; omega)) only [if_true, if_false, reduceIte, lv, lj, ln_at, cn_t, cn_f, cn_tf, cn_ft, cn_xx, gd_ok, arr_ok, arr_ok8, arr_ok32, arr_oku, ia_ok, bt_ok, EI_ok, LI_ok, h1, ixS, hx, h0, on_I_B]
    refine ite_ok (fun hq => ?_) fun hq => ?_
    · rw [allOk_cons hq, restOf_cons]
      exact hr (_, _) ⟨rfl, by simp; omega, hL, hl⟩ rfl
    · rw [allOk_bad (by simpa using hq)]; rfl
  · simp only [impl_readArg.f, on_S_B, readArgI, cn_ite]
    refine ite_ok (fun h1 => ?_) (fun h1 => ?_)
    · have hc := @fieldsS_count (enclosed a1 [42, 42, 123] [125]).1
      rw [if_pos h1, gd_ok (by omega), on_LS]
      refine ln_ok fun hB => EI_fin (rg0 ⟨rfl, rfl, fun t ht => by have := fieldsS_part ht; omega, by omega⟩ rfl) ?_
      simp only [rgR, List.drop_zero, Int.toNat_zero]
      cases allOk readPairI (fieldsS (enclosed a1 [42, 42, 123] [125]).1) <;> rfl
    · rw [if_neg h1]
      refine ite_ok (fun h2 => ?_) (fun h2 => ?_)
      · have hc := @fieldsS_count (enclosed a1 [42, 91] [93]).1
        rw [if_pos h2, gd_ok (by omega), on_LS]
        refine ln_ok fun hB => EI_fin (rg0 ⟨rfl, rfl, fun t ht => by have := fieldsS_part ht; omega, by omega⟩ rfl) ?_
        simp only [rgR, List.drop_zero, Int.toNat_zero]
        cases allOk readNumI (fieldsS (enclosed a1 [42, 91] [93]).1) <;> rfl
      · rw [if_neg h2, gd_ok (by omega), on_I_B]
        refine ite_ok (fun h3 => by rw [if_pos h3]) (fun h3 => ?_)
        rw [if_neg h3, gd_ok hp]
        rfl
end
def on_Arg_B {R : Type} (v : Arg × Bool) (f : Int → Str → (List Int) → (List Pair) → Bool → Option R) : Option R := f (v.1.kind) (v.1.name) (v.1.list) (v.1.pairs) (v.2)
section
variable {A : Bx} {P : Program} {G : Glob} {rg : Option Nat} {own : Nat} {o : Nat → EObj} {g : FuncId} {vs : List C} {sh : Bool} {K : C → List (Nat × EObj) → Prop} {R : Type} {r : R} {V : Vx} {v : Arg × Bool} {f : Int → Str → (List Int) → (List Pair) → Bool → Option R}
theorem s_cArg_B (hV : IsV V) (hA : IsBx true rg P G A) (H : on_Arg_B v f = some r) (hok : FnOK P G g vs [] (.tup [.agg [.int .i64 (v.1.kind), .str ⟨⟨(v.1.name)⟩⟩, .sl ((v.1.list).map eI), .sl ((v.1.pairs).map ePair)], .bool (v.2)]) [] sh) (hc : vs.all closedArg = true) (h : ∀ c0 c1 c2 c3 c4, f c0 c1 c2 c3 c4 = some r → K (.tup [.agg [.int .i64 c0, .str ⟨⟨c1⟩⟩, .sl (V.rI c2), .sl (V.rPair c3)], .bool c4]) []) : A.call own o g vs K := by
  refine callT_plain hA hok hc ?_
  have := h (v.1.kind) (v.1.name) (v.1.list) (v.1.pairs) (v.2) H
  simp only [hV.rI, hV.rPair] at this
  exact this
variable {U : List C → List Nat → (C → List (Nat × EObj) → Prop) → Prop} {bs : List C} {tops : List Nat}
end
def on_LArg {R : Type} (v : (List Arg)) (f : (List Arg) → Option R) : Option R := f v
section
variable {A : Bx} {P : Program} {G : Glob} {rg : Option Nat} {own : Nat} {o : Nat → EObj} {g : FuncId} {vs : List C} {sh : Bool} {K : C → List (Nat × EObj) → Prop} {R : Type} {r : R} {V : Vx} {v : (List Arg)} {f : (List Arg) → Option R}
theorem s_cLArg (hV : IsV V) (hA : IsBx true rg P G A) (H : on_LArg v f = some r) (hok : FnOK P G g vs [] (.sl (v.map eArg)) [] sh) (hc : vs.all closedArg = true) (h : ∀ c0, f c0 = some r → K (.sl (V.rArg c0)) []) : A.call own o g vs K := by
  refine callT_plain hA hok hc ?_
  have := h (v) H
  simp only [hV.rArg] at this
  exact this
theorem s_wLArg (hA : IsBx true rg P G A) (H : on_LArg v f = some r) (hids : callIds vs = []) (h : ∀ U, U = callS P G own o g → closeVs o [] vs fun bs => U bs (vs.flatMap topRefs) K) : A.call own o g vs K := callT_sh hA hids h
variable {U : List C → List Nat → (C → List (Nat × EObj) → Prop) → Prop} {bs : List C} {tops : List Nat}
theorem s_tLArg (hU : U = callS P G own o g) (hV : IsV V) (H : on_LArg v f = some r) (hok : FnOK P G g bs [] (.sl (v.map eArg)) [] true) (hfr : topsF o [] tops) (h : ∀ c0, f c0 = some r → K (.sl (V.rArg c0)) (freezeE o tops ++ [])) : U bs tops K := by
  refine callS_of hU hok (fun i hi => (topsF_sound hfr i hi).2) ?_
  have := h (v) H
  simp only [hV.rArg] at this
  exact this
end
noncomputable def impl_ParseCall.b0 (a1 : Str) (v105 : List Str) (v106 : Int) (h0 : (Int × (List Arg)) → Option (Cal × Bool)) (z_ : Cal × Bool) (x140 : Int) (x141 : List Arg) : Option (Cal × Bool) := (if x140 < v106 then (ixS v105 x140 fun v191 => (gd (v191.length ≤ 1048576) (on_Arg_B (readArgI v191) fun v197 v198 v199 v200 v201 => (cn v201 (gd (v199.length * 8 ≤ 140737488355328) (on_LI ((fun (l : List Int) => l) v199) fun v204 => (gd (v200.length * 24 ≤ 140737488355328) (on_LPair ((fun (l : List Pair) => l) v200) fun v205 => (gd ((x141.length + 1) * 72 ≤ 140737488355328) (lv (x141 ++ [⟨v197, v198, v204, v205⟩]) fun v206 => (arr .i64 (x140 + 1) fun v207 => (h0 (v207, v206))))))))) (some (⟨[]⟩, false)))))) else (cn (validCall (⟨x141⟩)) (lv (callText (⟨x141⟩)) fun v209 => (if v209 = a1 then (on_LArg ((fun (l : List Arg) => l) x141) fun v211 => (some (⟨v211⟩, true))) else (some (⟨[]⟩, false)))) (some (⟨[]⟩, false))))
noncomputable def impl_ParseCall.f (a1 : Str) (h0 : (List Str) → Int → (Int × (List Arg)) → Option (Cal × Bool)) (z_ : Cal × Bool) : Option (Cal × Bool) := (if a1 = ([] : Str) then (some (⟨[]⟩, true)) else (gd (a1.length < 4294967281 ∧ 1 ≤ (([44, 32] : Str)).length) (on_LS (splitS a1 ([44, 32])) fun v105 => (ln' z_ (v105.length) fun v106 => (h0 v105 v106 (0, []))))))
theorem pin_impl_ParseCall {e : ESt} {ns : List (Nat × Nat)} {ps : List (Nat × C)} {os : List (Nat × EObj)} (hs : pinPZ (pinZ e.o (os.map Prod.fst) ns) e.s ps := by first | (cbv <;> (repeat' (first | trivial | refine And.intro ?_ ?_)) <;> (first | rfl | assumption | omega | exact clI hV _ | exact clS hV _ | exact clPair hV _ | exact clArg hV _ | with_unfolding_all exact hV.nI [] | with_unfolding_all exact (hV.nI []).symm | with_unfolding_all exact hV.nS [] | with_unfolding_all exact (hV.nS []).symm | with_unfolding_all exact hV.nPair [] | with_unfolding_all exact (hV.nPair []).symm | with_unfolding_all exact hV.nArg [] | with_unfolding_all exact (hV.nArg []).symm | with_unfolding_all exact hV.rI _ | with_unfolding_all exact hV.rS _ | with_unfolding_all exact hV.rPair _ | with_unfolding_all exact hV.rArg _ | with_unfolding_all exact (hV.nI _).trans (Eq.trans (by simp only [hV.nI] at *; omega) (hV.nI _).symm) | with_unfolding_all exact (hV.nS _).trans (Eq.trans (by simp only [hV.nS] at *; omega) (hV.nS _).symm) | with_unfolding_all exact (hV.nPair _).trans (Eq.trans (by simp only [hV.nPair] at *; omega) (hV.nPair _).symm) | with_unfolding_all exact (hV.nArg _).trans (Eq.trans (by simp only [hV.nArg] at *; omega) (hV.nArg _).symm) | simp [closedCell])) | fail) (ho : ∀ B : (Nat → EObj) → List (List C) → List (List C) → Prop, (∀ o rows rows', rowsZ (pinZ o (os.map Prod.fst) ns) rows rows' → B o rows rows') → pinOZ (pinZ e.o (os.map Prod.fst) ns) B e.o ns os := by intro B hB; first | (cbv <;> (repeat' (first | trivial | refine And.intro ?_ ?_ | refine pin_same hB ?_ | refine pin_nil hB ?_ | refine pin_dirty hB (by assumption) (by assumption) ?_ ?_ | exact pinL_n | refine pinL_c ?_ ?_ | exact pzr rfl rfl rfl (nrI hV _) (clI hV _) | exact pzr rfl rfl rfl (nrS hV _) (clS hV _) | exact pzr rfl rfl rfl (nrPair hV _) (clPair hV _) | exact pzr rfl rfl rfl (nrArg hV _) (clArg hV _) | (refine pz_go ?_; cbv) | (refine pinL_go ?_; cbv))) <;> (first | exact clI hV _ | exact clS hV _ | exact clPair hV _ | exact clArg hV _ | with_unfolding_all exact hV.rI _ | with_unfolding_all exact hV.rS _ | with_unfolding_all exact hV.rPair _ | with_unfolding_all exact hV.rArg _ | with_unfolding_all exact hV.nI [] | with_unfolding_all exact (hV.nI []).symm | with_unfolding_all exact hV.nS [] | with_unfolding_all exact (hV.nS []).symm | with_unfolding_all exact hV.nPair [] | with_unfolding_all exact (hV.nPair []).symm | with_unfolding_all exact hV.nArg [] | with_unfolding_all exact (hV.nArg []).symm | assumption | omega | rfl | with_unfolding_all exact (hV.nI _).trans (Eq.trans (by simp only [hV.nI] at *; omega) (hV.nI _).symm) | with_unfolding_all exact (hV.nS _).trans (Eq.trans (by simp only [hV.nS] at *; omega) (hV.nS _).symm) | with_unfolding_all exact (hV.nPair _).trans (Eq.trans (by simp only [hV.nPair] at *; omega) (hV.nPair _).symm) | with_unfolding_all exact (hV.nArg _).trans (Eq.trans (by simp only [hV.nArg] at *; omega) (hV.nArg _).symm) | simp [closedCell])) | fail) : PinnedZ e ns ps os := ⟨hs, ho⟩
section
variable {G : Glob} (hm : pg.follows .mixedOrders = true) (hz : ∀ T, ∀ c ∈ (ttOf pg T).zero, Bd c) (hG : GF G)
include hm hz hG
set_option maxHeartbeats 8000000 in
theorem impl_ParseCall.w {a1 : Str} (inv0 : (List Str) → Int → (Int × (List Arg)) → Prop) (mu0 : (List Str) → Int → (Int × (List Arg)) → Nat) (res0 : (List Str) → Int → (Int × (List Arg)) → Cal × Bool) (hb0 : ∀ (v105 : List Str), ∀ (v106 : Int), ∀ (s_ : Int × (List Arg)), inv0 v105 v106 s_ → impl_ParseCall.b0 a1 v105 v106 (LI (inv0 v105 v106) (mu0 v105 v106) (res0 v105 v106) (mu0 v105 v106 s_)) (res0 v105 v106 s_) s_.1 s_.2 = some (res0 v105 v106 s_)) {r : Cal × Bool} (H : impl_ParseCall.f a1 (fun v105 v106 => EI (inv0 v105 v106) (mu0 v105 v106) (res0 v105 v106)) r = some r) : FnOK pg G 15 [.str ⟨⟨a1⟩⟩] [] (.tup [.agg [.sl ((r.1.args).map eArg)], .bool (r.2)]) [] true := by
  obtain ⟨V, hV⟩ := exV
  have e0_I : V.rI [] = [] := hV.rI []
  have e1_I : ∀ x r, V.rI (x :: r) = eI x :: V.rI r := fun x r => by rw [hV.rI, hV.rI]; rfl
  have e0_S : V.rS [] = [] := hV.rS []
  have e1_S : ∀ x r, V.rS (x :: r) = eS x :: V.rS r := fun x r => by rw [hV.rS, hV.rS]; rfl
  have e0_Pair : V.rPair [] = [] := hV.rPair []
  have e1_Pair : ∀ x r, V.rPair (x :: r) = ePair x :: V.rPair r := fun x r => by rw [hV.rPair, hV.rPair]; rfl
  have e0_Arg : V.rArg [] = [] := hV.rArg []
  simp only [← hV.rI, ← hV.rS, ← hV.rPair, ← hV.rArg]
  refine fn_okS (tt0 := tyG [ty3, ty4, ty9, ty22, ty24, ty36, ty37, ty71, ty74, ty80]) (fn := Tryz.f15) (body := bodyOf Tryz.f15) (ext := []) hm (tyG_sub ⟨tt3, tt4, tt9, tt22, tt24, tt36, tt37, tt71, tt74, tt80, trivial⟩) hz 0 [] (by unfold pg; exact Tryz.func15) rfl rfl (by simp [Tryz.f15]) (by simp [EObj.toObj]) (by cbv) ?_
  intro A F hA hF
  unfold impl_ParseCall.f at H
  cbv
  repeat' (first
    | (with_reducible refine s_gd H (fun hg H => ?_))
    | (cases H; (try simp only [e0_I, e0_S, e0_Pair, e0_Arg, e1_I, eI, e1_S, eS, e1_Pair, ePair] at hF); with_reducible refine fin_close hF rfl (by simp [expIds, posCells, C.cells, idOf]) ?_; cbv)
    | (with_reducible refine s_lt H (fun H => ?_) (fun H => ?_) <;> cbv)
    | (with_reducible refine s_le H (fun H => ?_) (fun H => ?_) <;> cbv)
    | (with_reducible refine s_eq H (fun H => ?_) (fun H => ?_) <;> cbv)
    | (with_reducible refine s_ne H (fun H => ?_) (fun H => ?_) <;> cbv)
    | (with_reducible refine s_ln H lnOf (fun _ H => ?_); cbv)
    | (with_reducible refine s_ixS hV H (fun _ H => ?_); cbv)
    | (with_reducible refine s_ar H (fun _ H => ?_); cbv)
    | (with_reducible refine s_apI hV H (fun _ H => ?_); cbv)
    | (with_reducible refine s_apL hV.rI hV.nI H (fun _ H => ?_); cbv)
    | (with_reducible refine s_apS hV H (fun _ H => ?_); cbv)
    | (with_reducible refine s_apL hV.rS hV.nS H (fun _ H => ?_); cbv)
    | (with_reducible refine s_apPair hV H (fun _ H => ?_); cbv)
    | (with_reducible refine s_apL hV.rPair hV.nPair H (fun _ H => ?_); cbv)
    | (with_reducible refine s_apArg hV H (fun _ H => ?_); cbv)
    | (with_reducible refine s_apL hV.rArg hV.nArg H (fun _ H => ?_); cbv)
    | (with_reducible refine s_apZArg hV H (fun _ _ H hk_ zs_ hd_ => ?_); cbv)
    | (with_reducible refine s_bnZArg hV H (fun _ _ H hk_ zs_ hd_ => ?_); cbv)
    | (with_reducible refine s_a0ZArg hV H (fun _ _ H hk_ zs_ hd_ => ?_); cbv)
    | (with_reducible refine s_lv H (fun _ H => ?_); cbv)
    | (with_reducible refine s_loop hA H (fun s h => hb0 _ _ s h) [0, 2, 4, 13, 14] [128] (fun e s => [(15, .int .i64 (s.1))]) (fun e s => [ovO e 256 [(0, .ref 2496 0 4 0 (V.nArg (s.2)))], (2496, ⟨0, true, 4, .many (V.rArg (s.2))⟩)]) [(2496, 4)] pin_impl_ParseCall nbOf ?_; rintro ⟨x140, x141⟩ H; unfold impl_ParseCall.b0 at H; (try dsimp only at H); cbv)
    | (with_reducible refine s_next H pin_impl_ParseCall nbOf)
    | (with_reducible refine s_cLS hV hA H (by (try simp only [hV.rI, hV.rS, hV.rPair, hV.rArg]); with_unfolding_all exact strings_Split.ok hm hz hG (by first | assumption | omega)) rfl (fun _ H => ?_); cbv)
    | (with_reducible refine s_cArg_B hV hA H (by (try simp only [hV.rI, hV.rS, hV.rPair, hV.rArg]); (first | (have hk_ := impl_readArg.ok hm hz hG hg; with_unfolding_all exact hk_) | (with_unfolding_all exact impl_readArg.ok hm hz hG (by first | assumption | omega)))) rfl (fun _ _ _ _ _ H => ?_); cbv)
    | (with_reducible refine s_cLI hV hA H (by (try simp only [hV.rI, hV.rS, hV.rPair, hV.rArg]); (first | (have hk_ := impl_clone_int.ok hm hz hG hg; with_unfolding_all exact hk_) | (with_unfolding_all exact impl_clone_int.ok hm hz hG (by first | assumption | omega)))) rfl (fun _ H => ?_); cbv)
    | (with_reducible refine s_cLPair hV hA H (by (try simp only [hV.rI, hV.rS, hV.rPair, hV.rArg]); (first | (have hk_ := impl_clone_Pair.ok hm hz hG hg; with_unfolding_all exact hk_) | (with_unfolding_all exact impl_clone_Pair.ok hm hz hG (by first | assumption | omega)))) rfl (fun _ H => ?_); cbv)
    | (with_reducible refine s_cb hA H (by (try simp only [hV.rI, hV.rS, hV.rPair, hV.rArg]); with_unfolding_all exact impl_ValidCall.ok hm hz hG) rfl (fun H => ?_) (fun H => ?_) <;> cbv)
    | (with_reducible refine s_rb (by assumption) H (by (try simp only [hV.rI, hV.rS, hV.rPair, hV.rArg]); with_unfolding_all exact impl_ValidCall.ok hm hz hG) (fun H => ?_) (fun H => ?_) <;> cbv)
    | (with_reducible refine s_cs hA H (by (try simp only [hV.rI, hV.rS, hV.rPair, hV.rArg]); with_unfolding_all exact impl_CallText.ok hm hz hG) rfl (fun _ H => ?_); cbv)
    | (with_reducible refine s_rs (by assumption) H (by (try simp only [hV.rI, hV.rS, hV.rPair, hV.rArg]); with_unfolding_all exact impl_CallText.ok hm hz hG) (fun _ H => ?_); cbv)
    | (with_reducible refine s_cLArg hV hA H (by (try simp only [hV.rI, hV.rS, hV.rPair, hV.rArg]); with_unfolding_all exact slices_Clip_Arg.ok hm hz hG) rfl (fun _ H => ?_); cbv)
    | (with_reducible refine s_tLArg (by assumption) hV H (by (try simp only [hV.rI, hV.rS, hV.rPair, hV.rArg]); with_unfolding_all exact slices_Clip_Arg.ok hm hz hG) (by first | (cbv <;> (repeat' (first | trivial | refine And.intro ?_ ?_)) <;> (first | rfl | exact clI hV _ | with_unfolding_all exact clS hV _ | with_unfolding_all exact clPair hV _ | with_unfolding_all exact clArg hV _ | simp [closedCell])) | fail) (fun _ H => ?_); cbv)
    | (with_reducible refine s_wLArg hA H rfl (fun U hU => ?_); cbv)
    | (with_reducible refine callT_cl hA (fun U hU => ?_); cbv)
    | (with_reducible refine indep_of hA ?_; cbv)
    | ((with_reducible refine side ?_); exact sideOf)
    | (with_reducible refine s_tkG hV.rI hV.nI ?_; cbv)
    | (with_reducible refine s_tkG hV.rS hV.nS ?_; cbv)
    | (with_reducible refine s_tkG hV.rPair hV.nPair ?_; cbv)
    | (with_reducible refine s_tkG hV.rArg hV.nArg ?_; cbv)
    | (with_reducible refine s_tk1 ?_; cbv)
    | (with_reducible refine And.intro ?_ ?_)
    | ((with_reducible refine s_cn H (fun hb H => ?_) (fun hb H => ?_)) <;> (revert H; subst hb; intro H; cbv))
    | (intro ys hys; subst hys; rfl)
    | rfl)
end
section
variable {G : Glob} (hm : pg.follows .mixedOrders = true) (hz : ∀ T, ∀ c ∈ (ttOf pg T).zero, Bd c) (hG : GF G)
include hm hz hG
theorem impl_ParseCall.ok {a1 : Str} (hp : a1.length ≤ 1048576) : FnOK pg G 15 [.str ⟨⟨a1⟩⟩] [] (.tup [.agg [.sl (((parseCallI a1).1.args).map eArg)], .bool ((parseCallI a1).2)]) [] true := by
  refine impl_ParseCall.w hm hz hG
    (fun (l : List Str) n => rgI l (fun s : Int × List Arg => s.1) (fun s => n = l.length ∧ s.2.length = s.1.toNat ∧ (∀ t ∈ l, t.length ≤ 1048576) ∧ l.length ≤ 1048578)) (fun l _ => rgM l (fun s : Int × List Arg => s.1)) (fun l _ => rgR l (fun s : Int × List Arg => s.1) (fun r s => restOf (fun l => if validCall ⟨l⟩ = true ∧ callText ⟨l⟩ = a1 then ((⟨l⟩ : Cal), true) else (⟨[]⟩, false)) (⟨[]⟩, false) s.2 (allOk readArgI r)))
    (fun l n => rangeS l (fun s : Int × List Arg => s.1) _ _ (fun rec z s => impl_ParseCall.b0 a1 l n rec z s.1 s.2) ?_ ?_) ?_
  · rintro rec ⟨i, acc⟩ ⟨rfl, hI, hL, hl⟩ h0 h1
    simp only at h0 h1 hI
    simp (disch := first | assumption | omega | (simp; done) | (simp; omega)) only [if_true, if_false, reduceIte, lv, lj, ln_at, cn_t, cn_f, cn_tf, cn_ft, cn_xx, gd_ok, arr_ok, arr_ok8, arr_ok32, arr_oku, ia_ok, bt_ok, EI_ok, LI_ok, impl_ParseCall.b0, h1, Int.lt_irrefl, allOk, restOf_nil, on_LArg, cn_ite]
    refine ite_ok (fun hv => ?_) (fun hv => by rw [if_neg (fun h => hv h.1)])
    refine ite_ok (fun ht => by rw [if_pos ⟨hv, ht⟩]) (fun ht => by rw [if_neg (fun h => ht h.2)])
  · rintro rec ⟨i, acc⟩ x r ⟨rfl, hI, hL, hl⟩ h0 h1 hx hll hr
    simp only at h0 h1 hx hll hI
    have hxl := hL x (List.mem_of_getElem? hx)
    have hrl := readArgI_len x
    simp only [impl_ParseCall.b0, cn_ite]
    simp (disch := first | assumption | omega | (simp; done) | (simp; omega)) only [if_true, if_false, reduceIte, lv, lj, ln_at, cn_t, cn_f, cn_tf, cn_ft, cn_xx, gd_ok, arr_ok, arr_ok8, arr_ok32, arr_oku, ia_ok, bt_ok, EI_ok, LI_ok, h1, ixS, hx, h0, on_Arg_B]
    refine ite_ok (fun hq => ?_) fun hq => ?_
    · rw [allOk_cons hq, restOf_cons]
      simp (disch := first | assumption | omega | (simp; done) | (simp; omega)) only [if_true, if_false, reduceIte, lv, lj, ln_at, cn_t, cn_f, cn_tf, cn_ft, cn_xx, gd_ok, arr_ok, arr_ok8, arr_ok32, arr_oku, ia_ok, bt_ok, EI_ok, LI_ok, on_LI, on_LPair, eta_Arg]
      exact hr (_, _) ⟨rfl, by simp; omega, hL, hl⟩ rfl
    · rw [allOk_bad (by simpa using hq)]; rfl
  · simp only [impl_ParseCall.f, parseCallI]
    refine ite_ok (fun h1 => by rw [if_pos h1]) (fun h1 => ?_)
    have hc := @splitS_count a1 [44, 32]
    rw [if_neg h1, gd_ok (by simp; omega), on_LS]
    refine ln_ok fun hB => EI_fin (rg0 ⟨rfl, rfl, fun t ht => by have := splitS_part ht; omega, by omega⟩ rfl) ?_
    simp only [rgR, List.drop_zero, Int.toNat_zero]
    cases allOk readArgI (splitS a1 [44, 32]) <;> rfl
end
end Go.Proofs.YtoofegkjdjlpkaaGreatDoor.M
