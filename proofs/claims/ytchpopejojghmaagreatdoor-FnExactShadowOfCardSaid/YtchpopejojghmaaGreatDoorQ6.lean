/- Flat calls: validity. -/
import Derived.Test.YtchpopejojghmaaGreatDoorQ3
set_option linter.unusedVariables false
set_option linter.unusedSimpArgs false
set_option linter.unusedSectionVars false
namespace Go.Proofs.YtchpopejojghmaaGreatDoor.M
open Go Go.Proofs
set_option maxRecDepth 100000
def pairAtV (l : List Pair) (s : Str) : Int := findI (fun p => decide (p.name = s)) l
def distGo : List Pair → List Pair → Bool
 | _, [] => true
 | pre, x :: r => decide (pairAtV pre x.name < 0) && distGo (pre ++ [x]) r
def validFlat (f : Flat) : Bool := distGo [] f.names && validPairs f.names && areValues f.places && decide ((f.places.length : Int) ≤ 8) && decide ((f.names.length : Int) ≤ 8)
theorem pin_spec_validFlat {e : ESt} {ns : List (Nat × Nat)} {ps : List (Nat × C)} {os : List (Nat × EObj)} (hs : pinPZ (pinZ e.o (os.map Prod.fst) ns) e.s ps := by first | (cbv <;> (repeat' (first | trivial | refine And.intro ?_ ?_)) <;> (first | rfl | assumption | omega | exact clI hV _ | exact clPair hV _ | with_unfolding_all exact hV.nI [] | with_unfolding_all exact (hV.nI []).symm | with_unfolding_all exact hV.nPair [] | with_unfolding_all exact (hV.nPair []).symm | with_unfolding_all exact hV.rI _ | with_unfolding_all exact hV.rPair _ | with_unfolding_all exact (hV.nI _).trans (Eq.trans (by simp only [hV.nI] at *; omega) (hV.nI _).symm) | with_unfolding_all exact (hV.nPair _).trans (Eq.trans (by simp only [hV.nPair] at *; omega) (hV.nPair _).symm) | simp [closedCell])) | fail) (ho : ∀ B : (Nat → EObj) → List (List C) → List (List C) → Prop, (∀ o rows rows', rowsZ (pinZ o (os.map Prod.fst) ns) rows rows' → B o rows rows') → pinOZ (pinZ e.o (os.map Prod.fst) ns) B e.o ns os := by intro B hB; first | (cbv <;> (repeat' (first | trivial | refine And.intro ?_ ?_ | refine pin_same hB ?_ | refine pin_nil hB ?_ | refine pin_dirty hB (by assumption) (by assumption) ?_ ?_ | exact pinL_n | refine pinL_c ?_ ?_ | exact pzr rfl rfl rfl (nrI hV _) (clI hV _) | exact pzr rfl rfl rfl (nrPair hV _) (clPair hV _) | (refine pz_go ?_; cbv) | (refine pinL_go ?_; cbv))) <;> (first | exact clI hV _ | exact clPair hV _ | with_unfolding_all exact hV.rI _ | with_unfolding_all exact hV.rPair _ | with_unfolding_all exact hV.nI [] | with_unfolding_all exact (hV.nI []).symm | with_unfolding_all exact hV.nPair [] | with_unfolding_all exact (hV.nPair []).symm | assumption | omega | rfl | with_unfolding_all exact (hV.nI _).trans (Eq.trans (by simp only [hV.nI] at *; omega) (hV.nI _).symm) | with_unfolding_all exact (hV.nPair _).trans (Eq.trans (by simp only [hV.nPair] at *; omega) (hV.nPair _).symm) | simp [closedCell])) | fail) : PinnedZ e ns ps os := ⟨hs, ho⟩
section
variable {G : Glob} (hm : Hm) (hz : Hz) (hG : GF G)
include hm hz hG
end
noncomputable def impl_pairAt_1.f (a1 : Str) (a2 : Int) (a3 : Str)  (z_ : Bool) : Option (Bool) := (if a1 = a3 then (some true) else (some false))
section
variable {G : Glob} (hm : Hm) (hz : Hz) (hG : GF G)
include hm hz hG
theorem impl_pairAt_1.w {a1 : Str} {a2 : Int} {a3 : Str}  {r : Bool} (H : impl_pairAt_1.f a1 a2 a3  r = some r) : FnOK pg G 161 [.agg [.str ⟨⟨a1⟩⟩, .int .i64 a2], .ptr 0 0 1 0 0] (([⟨0, false, 1, .one [.str ⟨⟨a3⟩⟩]⟩] : List EObj).map EObj.toObj) (.bool r) (([⟨0, false, 1, .one [.str ⟨⟨a3⟩⟩]⟩] : List EObj).map EObj.toObj) false := by
 obtain ⟨V, hV⟩ := exV
 refine fn_ok (tt0 := tyG [ty3, ty4, ty9, ty136]) (fn := Tryz.f161) (body := bodyOf Tryz.f161) (ext := [⟨0, false, 1, .one [.str ⟨⟨a3⟩⟩]⟩]) hm (tyG_sub ⟨tt3, tt4, tt9, tt136, trivial⟩) hz 0 true [] (by unfold pg; exact Tryz.func161) rfl rfl (by simp [Tryz.f161]) (by simp [EObj.toObj]) (by cbv) ?_
 intro A F hA hF
 unfold impl_pairAt_1.f at H
 cbv
 repeat' (first
  | (cases H; exact fin_plain hF rfl rfl rfl rfl)
  | ((with_reducible first | refine s_lt H ?_ ?_ | refine s_le H ?_ ?_ | refine s_eq H ?_ ?_ | refine s_ne H ?_ ?_) <;> intro H <;> cbv)
  | with_reducible first
   | (refine s_lv H (fun _ H => ?_); cbv)
   | (refine indep_of hA ?_; cbv)
  | ((with_reducible refine side ?_); exact sideOf)
  | (with_reducible refine s_tk1 ?_; cbv)
  | (with_reducible refine And.intro ?_ ?_)
  | (intro ys hys; subst hys; rfl)
  | rfl)
theorem impl_pairAt_1.ok {a1 : Str} {a2 : Int} {a3 : Str}  : FnOK pg G 161 [.agg [.str ⟨⟨a1⟩⟩, .int .i64 a2], .ptr 0 0 1 0 0] (([⟨0, false, 1, .one [.str ⟨⟨a3⟩⟩]⟩] : List EObj).map EObj.toObj) (.bool (((fun (p : Pair) (s : Str) => decide (p.name = s)) ⟨a1, a2⟩ a3))) (([⟨0, false, 1, .one [.str ⟨⟨a3⟩⟩]⟩] : List EObj).map EObj.toObj) false := by
 refine impl_pairAt_1.w hm hz hG ?_
 simp only [impl_pairAt_1.f]; split <;> simp [*]
end
noncomputable def slices_IndexFunc_Pair_at_impl_pairAt_1.b0 (a1 : List Pair) (a2 : Str) (v3 : Int) (h0 : (Int) → Option (Int)) (z_ : Int) (x7 : Int) : Option (Int) := (if x7 < v3 then (ixPair a1 x7 fun v11 v12 => (cn ((fun (p : Pair) (s : Str) => decide (p.name = s)) (⟨v11, v12⟩) a2) (some x7) (arr .i64 (x7 + 1) fun v13 => (h0 v13)))) else (some ((-1))))
noncomputable def slices_IndexFunc_Pair_at_impl_pairAt_1.f (a1 : List Pair) (a2 : Str) (h0 : Int → (Int) → Option (Int)) (z_ : Int) : Option (Int) := (ln' z_ (a1.length) fun v3 => (h0 v3 0))
theorem pin_slices_IndexFunc_Pair_at_impl_pairAt_1 {e : ESt} {ns : List (Nat × Nat)} {ps : List (Nat × C)} {os : List (Nat × EObj)} (hs : pinPZ (pinZ e.o (os.map Prod.fst) ns) e.s ps := by first | (cbv <;> (repeat' (first | trivial | refine And.intro ?_ ?_)) <;> (first | rfl | assumption | omega | exact clPair hV _ | with_unfolding_all exact hV.nPair [] | with_unfolding_all exact (hV.nPair []).symm | with_unfolding_all exact hV.rPair _ | with_unfolding_all exact (hV.nPair _).trans (Eq.trans (by simp only [hV.nPair] at *; omega) (hV.nPair _).symm) | simp [closedCell])) | fail) (ho : ∀ B : (Nat → EObj) → List (List C) → List (List C) → Prop, (∀ o rows rows', rowsZ (pinZ o (os.map Prod.fst) ns) rows rows' → B o rows rows') → pinOZ (pinZ e.o (os.map Prod.fst) ns) B e.o ns os := by intro B hB; first | (cbv <;> (repeat' (first | trivial | refine And.intro ?_ ?_ | refine pin_same hB ?_ | refine pin_nil hB ?_ | refine pin_dirty hB (by assumption) (by assumption) ?_ ?_ | exact pinL_n | refine pinL_c ?_ ?_ | exact pzr rfl rfl rfl (nrPair hV _) (clPair hV _) | (refine pz_go ?_; cbv) | (refine pinL_go ?_; cbv))) <;> (first | exact clPair hV _ | with_unfolding_all exact hV.rPair _ | with_unfolding_all exact hV.nPair [] | with_unfolding_all exact (hV.nPair []).symm | assumption | omega | rfl | with_unfolding_all exact (hV.nPair _).trans (Eq.trans (by simp only [hV.nPair] at *; omega) (hV.nPair _).symm) | simp [closedCell])) | fail) : PinnedZ e ns ps os := ⟨hs, ho⟩
section
variable {G : Glob} (hm : Hm) (hz : Hz) (hG : GF G)
include hm hz hG
set_option maxHeartbeats 8000000 in
theorem slices_IndexFunc_Pair_at_impl_pairAt_1.w {a1 : List Pair} {a2 : Str} (inv0 : Int → (Int) → Prop) (mu0 : Int → (Int) → Nat) (res0 : Int → (Int) → Int) (hb0 : ∀ (v3 : Int), ∀ (s_ : Int), inv0 v3 s_ → slices_IndexFunc_Pair_at_impl_pairAt_1.b0 a1 a2 v3 (LI (inv0 v3) (mu0 v3) (res0 v3) (mu0 v3 s_)) (res0 v3 s_) s_ = some (res0 v3 s_)) {r : Int} (H : slices_IndexFunc_Pair_at_impl_pairAt_1.f a1 a2 (fun v3 => EI (inv0 v3) (mu0 v3) (res0 v3)) r = some r) : FnOK pg G 160 [.sl (a1.map ePair), .fn 161 [.ptr 0 0 1 0 0]] (([⟨0, false, 1, .one [.str ⟨⟨a2⟩⟩]⟩] : List EObj).map EObj.toObj) (.int .i64 r) (([⟨0, false, 1, .one [.str ⟨⟨a2⟩⟩]⟩] : List EObj).map EObj.toObj) false := by
 obtain ⟨V, hV⟩ := exV
 simp only [← hV.rPair]
 refine fn_ok (tt0 := tyG [ty3, ty4, ty9, ty45, ty136]) (fn := Tryz.f160) (body := bodyOf Tryz.f160) (ext := [⟨0, false, 1, .one [.str ⟨⟨a2⟩⟩]⟩]) hm (tyG_sub ⟨tt3, tt4, tt9, tt45, tt136, trivial⟩) hz 0 true [] (by unfold pg; exact Tryz.func160) rfl rfl (by simp [Tryz.f160]) (by simp [EObj.toObj]) (by cbv) ?_
 intro A F hA hF
 unfold slices_IndexFunc_Pair_at_impl_pairAt_1.f at H
 cbv
 repeat' (first
  | (cases H; exact fin_plain hF rfl rfl rfl rfl)
  | ((with_reducible first | refine s_lt H ?_ ?_ | refine s_le H ?_ ?_ | refine s_eq H ?_ ?_ | refine s_ne H ?_ ?_) <;> intro H <;> cbv)
  | with_reducible first
   | (refine s_ln H lnOf (fun _ H => ?_); cbv)
   | (refine s_ixPair hV H (fun _ _ H => ?_); cbv)
   | (refine s_ar H (fun _ H => ?_); cbv)
   | (refine s_lv H (fun _ H => ?_); cbv)
   | (refine s_loop hA H (fun s h => hb0 _ s h) [0, 1, 7] [0] (fun e s => [(8, .int .i64 s)]) (fun e s => []) [] pin_slices_IndexFunc_Pair_at_impl_pairAt_1 nbOf ?_; rintro x7 H; unfold slices_IndexFunc_Pair_at_impl_pairAt_1.b0 at H; (try dsimp only at H); cbv)
  | (with_reducible refine s_next H pin_slices_IndexFunc_Pair_at_impl_pairAt_1 nbOf)
  | with_reducible first
   | (refine s_cb hA H (by (try simp only [hV.rPair]); with_unfolding_all exact impl_pairAt_1.ok hm hz hG) rfl (fun H => ?_) (fun H => ?_) <;> cbv)
   | (refine s_rb (by assumption) H (by (try simp only [hV.rPair]); with_unfolding_all exact impl_pairAt_1.ok hm hz hG) (fun H => ?_) (fun H => ?_) <;> cbv)
   | (refine callT_cl hA (fun U hU => ?_); cbv)
   | (refine indep_of hA ?_; cbv)
  | ((with_reducible refine side ?_); exact sideOf)
  | with_reducible first
   | (refine s_tkG hV.rPair hV.nPair ?_; cbv)
   | (refine s_tk1 ?_; cbv)
  | (with_reducible refine And.intro ?_ ?_)
  | ((with_reducible refine s_cn H (fun hb H => ?_) (fun hb H => ?_)) <;> (revert H; subst hb; intro H; cbv))
  | (intro ys hys; subst hys; rfl)
  | rfl)
theorem slices_IndexFunc_Pair_at_impl_pairAt_1.ok {a1 : List Pair} {a2 : Str}  : FnOK pg G 160 [.sl (a1.map ePair), .fn 161 [.ptr 0 0 1 0 0]] (([⟨0, false, 1, .one [.str ⟨⟨a2⟩⟩]⟩] : List EObj).map EObj.toObj) (.int .i64 (((fun (a1 : List Pair) a2 => findI (fun x => decide (x.name = a2)) a1) a1 a2))) (([⟨0, false, 1, .one [.str ⟨⟨a2⟩⟩]⟩] : List EObj).map EObj.toObj) false := by
 have A := @slices_IndexFunc_Pair_at_impl_pairAt_1.w G hm hz hG a1 a2 (fun v => rgI (a1) (fun i => i) (fun _ => v = a1.length ∧ a1.length ≤ 9223372036854775807)) (fun v => rgM (a1) (fun i => i)) (fun v => rgR (a1) (fun i => i) (fun r i => idxOr i (r.findIdx? (fun x => decide (x.name = a2))))) (fun v => rangeS (a1) (fun i => i) (fun _ => v = a1.length ∧ a1.length ≤ 9223372036854775807) (fun r i => idxOr i (r.findIdx? (fun x => decide (x.name = a2)))) (fun rec z s => slices_IndexFunc_Pair_at_impl_pairAt_1.b0 a1 a2 v rec z s) ?_ ?_)
 ·exact A (ln_ok fun hB => EI_fin (rg0 ⟨rfl, hB⟩ rfl) rfl)
 ·rintro rec s ⟨rfl, hB⟩ h0 h1
  simp only [slices_IndexFunc_Pair_at_impl_pairAt_1.b0]
  simp (disch := first | assumption | omega | (simp; done) | (simp; omega)) only [if_true, if_false, reduceIte, lv, lj, ln_at, cn_t, cn_f, cn_tf, cn_ft, cn_xx, gd_ok, arr_ok, arr_ok8, arr_ok32, arr_oku, ia_ok, bt_ok, EI_ok, LI_ok, h1, Int.lt_irrefl]
  rfl
 ·rintro rec s x r ⟨rfl, hB⟩ h0 h1 hx hl hr
  simp only [slices_IndexFunc_Pair_at_impl_pairAt_1.b0]
  simp (disch := first | assumption | omega | (simp; done) | (simp; omega)) only [if_true, if_false, reduceIte, lv, lj, ln_at, cn_t, cn_f, cn_tf, cn_ft, cn_xx, gd_ok, arr_ok, arr_ok8, arr_ok32, arr_oku, ia_ok, bt_ok, EI_ok, LI_ok, h1, ixPair, hx, h0, idxOr_cons, hr _ ⟨rfl, hB⟩ rfl, cn_ite, eta_Pair]
  split <;> rfl
end
noncomputable def impl_pairAt.f (a1 : List Pair) (a2 : Str)  (z_ : Int) : Option (Int) := (lv ((fun (a1 : List Pair) a2 => findI (fun x => decide (x.name = a2)) a1) a1 a2) fun v3 => (some v3))
section
variable {G : Glob} (hm : Hm) (hz : Hz) (hG : GF G)
include hm hz hG
theorem impl_pairAt.w {a1 : List Pair} {a2 : Str}  {r : Int} (H : impl_pairAt.f a1 a2  r = some r) : FnOK pg G 123 [.sl (a1.map ePair), .str ⟨⟨a2⟩⟩] [] (.int .i64 r) [] false := by
 obtain ⟨V, hV⟩ := exV
 simp only [← hV.rPair]
 refine fn_ok (tt0 := tyG [ty3, ty9, ty45, ty136]) (fn := Tryz.f123) (body := bodyOf Tryz.f123) (ext := []) hm (tyG_sub ⟨tt3, tt9, tt45, tt136, trivial⟩) hz 0 true [] (by unfold pg; exact Tryz.func123) rfl rfl (by simp [Tryz.f123]) (by simp [EObj.toObj]) (by cbv) ?_
 intro A F hA hF
 unfold impl_pairAt.f at H
 cbv
 repeat' (first
  | (cases H; exact fin_plain hF rfl rfl rfl rfl)
  | with_reducible first
   | (refine s_lv H (fun _ H => ?_); cbv)
   | (refine s_ci hA H (by (try simp only [hV.rPair]); with_unfolding_all exact slices_IndexFunc_Pair_at_impl_pairAt_1.ok hm hz hG) rfl (fun _ H => ?_); cbv)
   | (refine s_ri (by assumption) H (by (try simp only [hV.rPair]); with_unfolding_all exact slices_IndexFunc_Pair_at_impl_pairAt_1.ok hm hz hG) (fun _ H => ?_); cbv)
   | (refine callT_cl hA (fun U hU => ?_); cbv)
   | (refine indep_of hA ?_; cbv)
  | ((with_reducible refine side ?_); exact sideOf)
  | with_reducible first
   | (refine s_tkG hV.rPair hV.nPair ?_; cbv)
   | (refine s_tk1 ?_; cbv)
  | (with_reducible refine And.intro ?_ ?_)
  | (intro ys hys; subst hys; rfl)
  | rfl)
theorem impl_pairAt.ok {a1 : List Pair} {a2 : Str}  : FnOK pg G 123 [.sl (a1.map ePair), .str ⟨⟨a2⟩⟩] [] (.int .i64 ((pairAtV a1 a2))) [] false := by
 exact impl_pairAt.w hm hz hG rfl
end
noncomputable def impl_ValidFlat.b0 (a1 : List Int) (a2 : List Pair) (v44 : Int) (h0 : (Int) → Option (Bool)) (z_ : Bool) (x58 : Int) : Option (Bool) := (if x58 < v44 then (ixPair a2 x58 fun v80 v81 => (cn (validPair (⟨v80, v81⟩)) (gd (0 ≤ x58 ∧ x58.toNat ≤ a2.length) (lv (a2.take x58.toNat) fun v82 => (lv (pairAtV v82 v80) fun v83 => (if 0 ≤ v83 then (some false) else (arr .i64 (x58 + 1) fun v84 => (h0 v84)))))) (some false))) else (ln' z_ (a1.length) fun v85 => (if v85 ≤ 8 then (ln' z_ (a2.length) fun v86 => (if v86 ≤ 8 then (cn (areValues a1) (some true) (some false)) else (some false))) else (some false))))
noncomputable def impl_ValidFlat.f (a1 : List Int) (a2 : List Pair) (h0 : Int → (Int) → Option (Bool)) (z_ : Bool) : Option (Bool) := (ln' z_ (a2.length) fun v44 => (h0 v44 0))
section
variable {G : Glob} (hm : Hm) (hz : Hz) (hG : GF G)
include hm hz hG
set_option maxHeartbeats 8000000 in
theorem impl_ValidFlat.w {a1 : List Int} {a2 : List Pair} (inv0 : Int → (Int) → Prop) (mu0 : Int → (Int) → Nat) (res0 : Int → (Int) → Bool) (hb0 : ∀ (v44 : Int), ∀ (s_ : Int), inv0 v44 s_ → impl_ValidFlat.b0 a1 a2 v44 (LI (inv0 v44) (mu0 v44) (res0 v44) (mu0 v44 s_)) (res0 v44 s_) s_ = some (res0 v44 s_)) {r : Bool} (H : impl_ValidFlat.f a1 a2 (fun v44 => EI (inv0 v44) (mu0 v44) (res0 v44)) r = some r) : FnOK pg G 74 [.agg [.sl (a1.map eI), .sl (a2.map ePair)]] [] (.bool r) [] false := by
 obtain ⟨V, hV⟩ := exV
 simp only [← hV.rI, ← hV.rPair]
 refine fn_ok (tt0 := tyG [ty3, ty4, ty9, ty39, ty45, ty47, ty136]) (fn := Tryz.f74) (body := bodyOf Tryz.f74) (ext := []) hm (tyG_sub ⟨tt3, tt4, tt9, tt39, tt45, tt47, tt136, trivial⟩) hz 0 true [] (by unfold pg; exact Tryz.func74) rfl rfl (by simp [Tryz.f74]) (by simp [EObj.toObj]) (by cbv) ?_
 intro A F hA hF
 unfold impl_ValidFlat.f at H
 cbv
 repeat' (first
  | (with_reducible refine s_gd H (fun hg H => ?_))
  | (cases H; exact fin_plain hF rfl rfl rfl rfl)
  | ((with_reducible first | refine s_lt H ?_ ?_ | refine s_le H ?_ ?_ | refine s_eq H ?_ ?_ | refine s_ne H ?_ ?_) <;> intro H <;> cbv)
  | with_reducible first
   | (refine s_ln H lnOf (fun _ H => ?_); cbv)
   | (refine s_ixPair hV H (fun _ _ H => ?_); cbv)
   | (refine s_ar H (fun _ H => ?_); cbv)
   | (refine s_tkL hV.rI H (fun _ H => ?_); cbv)
   | (refine s_tdL hV.rI H (fun _ H => ?_); cbv)
   | (refine s_tkLn hV.rI (by with_unfolding_all rfl) H (fun _ H => ?_); cbv)
   | (refine s_tkL hV.rPair H (fun _ H => ?_); cbv)
   | (refine s_tdL hV.rPair H (fun _ H => ?_); cbv)
   | (refine s_tkLn hV.rPair (by with_unfolding_all rfl) H (fun _ H => ?_); cbv)
   | (refine s_lv H (fun _ H => ?_); cbv)
   | (refine s_loop hA H (fun s h => hb0 _ s h) [1, 6, 7] [64] (fun e s => [(8, .int .i64 s)]) (fun e s => []) [] pin_spec_validFlat nbOf ?_; rintro x58 H; unfold impl_ValidFlat.b0 at H; (try dsimp only at H); cbv)
  | (with_reducible refine s_next H pin_spec_validFlat nbOf)
  | with_reducible first
   | (refine s_cb hA H (by (try simp only [hV.rI, hV.rPair]); with_unfolding_all exact impl_Pair_valid.ok hm hz hG) rfl (fun H => ?_) (fun H => ?_) <;> cbv)
   | (refine s_ci hA H (by (try simp only [hV.rI, hV.rPair]); with_unfolding_all exact impl_pairAt.ok hm hz hG) rfl (fun _ H => ?_); cbv)
   | (refine s_cb hA H (by (try simp only [hV.rI, hV.rPair]); with_unfolding_all exact impl_areValues.ok hm hz hG) rfl (fun H => ?_) (fun H => ?_) <;> cbv)
   | (refine indep_of hA ?_; cbv)
  | ((with_reducible refine side ?_); exact sideOf)
  | with_reducible first
   | (refine s_tkG hV.rI hV.nI ?_; cbv)
   | (refine s_tkG hV.rPair hV.nPair ?_; cbv)
   | (refine s_tkP hV.rI ?_; cbv)
   | (refine s_drP hV.rI hV.nI ?_; cbv)
   | (refine s_tkP hV.rPair ?_; cbv)
   | (refine s_drP hV.rPair hV.nPair ?_; cbv)
   | (refine s_eqn ?_; cbv)
   | (refine s_eqn2 ?_; cbv)
   | (refine s_tk1 ?_; cbv)
  | (with_reducible refine And.intro ?_ ?_)
  | ((with_reducible refine s_cn H (fun hb H => ?_) (fun hb H => ?_)) <;> (revert H; subst hb; intro H; cbv))
  | (intro ys hys; subst hys; rfl)
  | rfl)
theorem impl_ValidFlat.ok {a1 : List Int} {a2 : List Pair}  : FnOK pg G 74 [.agg [.sl (a1.map eI), .sl (a2.map ePair)]] [] (.bool ((validFlat ⟨a1, a2⟩))) [] false := by
 have A := @impl_ValidFlat.w G hm hz hG a1 a2 (fun v => rgI (a2) (fun i => i) (fun _ => v = a2.length ∧ a2.length ≤ 9223372036854775807)) (fun v => rgM (a2) (fun i => i)) (fun v => rgR (a2) (fun i => i) (fun r i => distGo (a2.take i.toNat) r && validPairs r && areValues a1 && decide ((a1.length : Int) ≤ 8) && decide ((a2.length : Int) ≤ 8))) (fun v => rangeS (a2) (fun i => i) (fun _ => v = a2.length ∧ a2.length ≤ 9223372036854775807) (fun r i => distGo (a2.take i.toNat) r && validPairs r && areValues a1 && decide ((a1.length : Int) ≤ 8) && decide ((a2.length : Int) ≤ 8)) (fun rec z s => impl_ValidFlat.b0 a1 a2 v rec z s) ?_ ?_)
 ·exact A (ln_ok fun hB => EI_fin (rg0 ⟨rfl, hB⟩ rfl) rfl)
 ·rintro rec s ⟨rfl, hB⟩ h0 h1
  simp only [impl_ValidFlat.b0]
  rw [if_neg (by omega)]
  simp only [distGo, validPairs, List.all_nil, Bool.true_and, cn_ite]
  refine ln_ok fun hB1 => ite_ok (fun h => ?_) (fun h => ?_)
  ·refine ln_ok fun hB2 => ite_ok (fun h2 => ?_) (fun h2 => ?_)
   ·rw [decide_eq_true h, decide_eq_true h2]; cases areValues a1 <;> rfl
   ·rw [decide_eq_false h2, Bool.and_false]
  ·rw [decide_eq_false h]; simp
 ·rintro rec s x r ⟨rfl, hB⟩ h0 h1 hx hl hr
  simp only [impl_ValidFlat.b0, lv]
  have e1 : a2.take (s + 1).toNat = a2.take s.toNat ++ [x] := by rw [show (s + 1).toNat = s.toNat + 1 by omega, take_snoc hx]
  rw [if_pos (by omega), ixPair_ok h0 hx, distGo, gd_ok (by omega)]
  simp only [validPairs, List.all_cons, cn_ite, eta_Pair]
  refine ite_ok (fun hv => ?_) (fun hv => ?_)
  ·rw [hv]
   refine ite_ok (fun h => ?_) (fun h => ?_)
   ·rw [decide_eq_false (Int.not_lt.2 h)]; rfl
   ·rw [decide_eq_true (Int.not_le.1 h), arr_ok (by omega), hr _ ⟨rfl, hB⟩ rfl, e1]; rfl
  ·simp only [Bool.not_eq_true] at hv
   rw [hv]; simp
end
noncomputable def impl_Flat_copyOf.f (a1 : List Int) (a2 : List Pair)  (z_ : Flat) : Option (Flat) := (gd (a1.length * 8 ≤ 140737488355328) (on_LI ((fun (l : List Int) => l) a1) fun v5 => (gd (a2.length * 24 ≤ 140737488355328) (on_LPair ((fun (l : List Pair) => l) a2) fun v6 => (some ⟨v5, v6⟩)))))
section
variable {G : Glob} (hm : Hm) (hz : Hz) (hG : GF G)
include hm hz hG
theorem impl_Flat_copyOf.w {a1 : List Int} {a2 : List Pair}  {r : Flat} (H : impl_Flat_copyOf.f a1 a2  r = some r) : FnOK pg G 142 [.agg [.sl (a1.map eI), .sl (a2.map ePair)]] [] (.agg [.sl ((r.places).map eI), .sl ((r.names).map ePair)]) [] true := by
 obtain ⟨V, hV⟩ := exV
 have e0_I : V.rI [] = [] := hV.rI []
 have e1_I : ∀ x r, V.rI (x :: r) = eI x :: V.rI r := fun x r => by rw [hV.rI, hV.rI]; rfl
 have e0_Pair : V.rPair [] = [] := hV.rPair []
 have e1_Pair : ∀ x r, V.rPair (x :: r) = ePair x :: V.rPair r := fun x r => by rw [hV.rPair, hV.rPair]; rfl
 simp only [← hV.rI, ← hV.rPair]
 refine fn_okS (tt0 := tyG [ty3, ty9, ty39, ty45, ty47, ty136]) (fn := Tryz.f142) (body := bodyOf Tryz.f142) (ext := []) hm (tyG_sub ⟨tt3, tt9, tt39, tt45, tt47, tt136, trivial⟩) hz 0 [] (by unfold pg; exact Tryz.func142) rfl rfl (by simp [Tryz.f142]) (by simp [EObj.toObj]) (by cbv) ?_
 intro A F hA hF
 unfold impl_Flat_copyOf.f at H
 cbv
 repeat' (first
  | (with_reducible refine s_gd H (fun hg H => ?_))
  | (cases H; (try simp only [e0_I, e0_Pair, e1_I, eI, e1_Pair, ePair] at hF); with_reducible refine fin_close hF rfl (by simp [expIds, posCells, C.cells, idOf]) ?_; cbv)
  | with_reducible first
   | (refine s_lv H (fun _ H => ?_); cbv)
   | (refine s_cLI hV hA H (by (try simp only [hV.rI, hV.rPair]); (first | (have hk_ := impl_clone_int.ok hm hz hG hg; with_unfolding_all exact hk_) | (with_unfolding_all exact impl_clone_int.ok hm hz hG (by first | assumption | omega)))) rfl (fun _ H => ?_); cbv)
   | (refine s_cLPair hV hA H (by (try simp only [hV.rI, hV.rPair]); (first | (have hk_ := impl_clone_Pair.ok hm hz hG hg; with_unfolding_all exact hk_) | (with_unfolding_all exact impl_clone_Pair.ok hm hz hG (by first | assumption | omega)))) rfl (fun _ H => ?_); cbv)
   | (refine indep_of hA ?_; cbv)
  | ((with_reducible refine side ?_); exact sideOf)
  | with_reducible first
   | (refine s_tkG hV.rI hV.nI ?_; cbv)
   | (refine s_tkG hV.rPair hV.nPair ?_; cbv)
   | (refine s_tk1 ?_; cbv)
  | (with_reducible refine And.intro ?_ ?_)
  | (intro ys hys; subst hys; rfl)
  | rfl)
theorem impl_Flat_copyOf.ok {a1 : List Int} {a2 : List Pair} (hp : a1.length ≤ 1000 ∧ a2.length ≤ 1000) : FnOK pg G 142 [.agg [.sl (a1.map eI), .sl (a2.map ePair)]] [] (.agg [.sl ((((fun (f : Flat) => f) ⟨a1, a2⟩).places).map eI), .sl ((((fun (f : Flat) => f) ⟨a1, a2⟩).names).map ePair)]) [] true := by
 refine impl_Flat_copyOf.w hm hz hG ?_
 simp only [impl_Flat_copyOf.f, on_LI, on_LPair]
 rw [gd_ok (by omega), gd_ok (by omega)]
end
theorem validFlat_len {f : Flat} (h : validFlat f = true) : f.places.length ≤ 8 ∧ f.names.length ≤ 8 ∧ areValues f.places = true ∧ validPairs f.names = true ∧ distGo [] f.names = true := by
 simp only [validFlat, Bool.and_eq_true, decide_eq_true_eq] at h
 obtain ⟨⟨⟨⟨h1, h2⟩, h3⟩, h4⟩, h5⟩ := h
 exact ⟨by omega, by omega, h3, h2, h1⟩
end Go.Proofs.YtchpopejojghmaaGreatDoor.M
