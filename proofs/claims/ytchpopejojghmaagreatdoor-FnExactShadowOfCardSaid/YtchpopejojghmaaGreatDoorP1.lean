/- Names and numbers. -/
import Derived.Test.YtchpopejojghmaaGreatDoorL1
set_option linter.unusedVariables false
set_option linter.unusedSimpArgs false
set_option linter.unusedSectionVars false
namespace Go.Proofs.YtchpopejojghmaaGreatDoor.M
open Go Go.Proofs
set_option maxRecDepth 100000
def inRange (n lo hi : Int) : Bool := decide (lo ≤ n ∧ n ≤ hi)
noncomputable def spec_inRange.f (a1 : Int) (a2 : Int) (a3 : Int)  (z_ : Bool) : Option (Bool) := (if a2 ≤ a1 then (if a1 ≤ a3 then (some true) else (some false)) else (some false))
section
variable {G : Glob} (hm : Hm) (hz : Hz) (hG : GF G)
include hm hz hG
theorem spec_inRange.w {a1 : Int} {a2 : Int} {a3 : Int}  {r : Bool} (H : spec_inRange.f a1 a2 a3  r = some r) : FnOK pg G 61 [.int .i64 a1, .int .i64 a2, .int .i64 a3] [] (.bool r) [] false := by
 obtain ⟨V, hV⟩ := exV
 refine fn_ok (tt0 := tyG [ty3, ty4]) (fn := Tryz.f61) (body := bodyOf Tryz.f61) (ext := []) hm (tyG_sub ⟨tt3, tt4, trivial⟩) hz 0 true [] (by unfold pg; exact Tryz.func61) rfl rfl (by simp [Tryz.f61]) (by simp [EObj.toObj]) (by cbv) ?_
 intro A F hA hF
 unfold spec_inRange.f at H
 cbv
 repeat' (first
  | (cases H; exact fin_plain hF rfl rfl rfl rfl)
  | ((with_reducible first | refine s_lt H ?_ ?_ | refine s_le H ?_ ?_ | refine s_eq H ?_ ?_ | refine s_ne H ?_ ?_) <;> intro H <;> cbv)
  | with_reducible first
   | (refine s_lv H (fun _ H => ?_); cbv)
   | (refine indep_of hA ?_; cbv)
  | ((with_reducible refine side ?_); exact sideOf)
  | (with_reducible refine s_tk1 ?_; cbv)
  | (with_reducible refine And.intro ?_ ?_)
  | (intro ys hys; subst hys; rfl)
  | rfl)
theorem spec_inRange.ok {a1 : Int} {a2 : Int} {a3 : Int}  : FnOK pg G 61 [.int .i64 a1, .int .i64 a2, .int .i64 a3] [] (.bool ((inRange a1 a2 a3))) [] false := by
 refine spec_inRange.w hm hz hG ?_
 simp only [spec_inRange.f, inRange]; split <;> (try split) <;> simp <;> omega
end
noncomputable def impl_in.f (a1 : Int) (a2 : Int) (a3 : Int)  (z_ : Bool) : Option (Bool) := (if a2 ≤ a1 then (if a1 ≤ a3 then (some true) else (some false)) else (some false))
section
variable {G : Glob} (hm : Hm) (hz : Hz) (hG : GF G)
include hm hz hG
theorem impl_in.w {a1 : Int} {a2 : Int} {a3 : Int}  {r : Bool} (H : impl_in.f a1 a2 a3  r = some r) : FnOK pg G 64 [.int .i64 a1, .int .i64 a2, .int .i64 a3] [] (.bool r) [] false := by
 obtain ⟨V, hV⟩ := exV
 refine fn_ok (tt0 := tyG [ty3, ty4]) (fn := Tryz.f64) (body := bodyOf Tryz.f64) (ext := []) hm (tyG_sub ⟨tt3, tt4, trivial⟩) hz 0 true [] (by unfold pg; exact Tryz.func64) rfl rfl (by simp [Tryz.f64]) (by simp [EObj.toObj]) (by cbv) ?_
 intro A F hA hF
 unfold impl_in.f at H
 cbv
 repeat' (first
  | (cases H; exact fin_plain hF rfl rfl rfl rfl)
  | ((with_reducible first | refine s_lt H ?_ ?_ | refine s_le H ?_ ?_ | refine s_eq H ?_ ?_ | refine s_ne H ?_ ?_) <;> intro H <;> cbv)
  | with_reducible first
   | (refine s_lv H (fun _ H => ?_); cbv)
   | (refine indep_of hA ?_; cbv)
  | ((with_reducible refine side ?_); exact sideOf)
  | (with_reducible refine s_tk1 ?_; cbv)
  | (with_reducible refine And.intro ?_ ?_)
  | (intro ys hys; subst hys; rfl)
  | rfl)
theorem impl_in.ok {a1 : Int} {a2 : Int} {a3 : Int}  : FnOK pg G 64 [.int .i64 a1, .int .i64 a2, .int .i64 a3] [] (.bool ((inRange a1 a2 a3))) [] false := by
 refine impl_in.w hm hz hG ?_
 simp only [impl_in.f, inRange]; split <;> (try split) <;> simp <;> omega
end
def isValue (n : Int) : Bool := inRange n (-99) 99
noncomputable def spec_validNumber.f (a1 : Int)  (z_ : Bool) : Option (Bool) := (cn (inRange a1 (-99) 99) (some true) (some false))
section
variable {G : Glob} (hm : Hm) (hz : Hz) (hG : GF G)
include hm hz hG
theorem spec_validNumber.w {a1 : Int}  {r : Bool} (H : spec_validNumber.f a1  r = some r) : FnOK pg G 158 [.int .i64 a1] [] (.bool r) [] false := by
 obtain ⟨V, hV⟩ := exV
 refine fn_ok (tt0 := tyG [ty3, ty4]) (fn := Tryz.f158) (body := bodyOf Tryz.f158) (ext := []) hm (tyG_sub ⟨tt3, tt4, trivial⟩) hz 0 true [] (by unfold pg; exact Tryz.func158) rfl rfl (by simp [Tryz.f158]) (by simp [EObj.toObj]) (by cbv) ?_
 intro A F hA hF
 unfold spec_validNumber.f at H
 cbv
 repeat' (first
  | (cases H; exact fin_plain hF rfl rfl rfl rfl)
  | with_reducible first
   | (refine s_lv H (fun _ H => ?_); cbv)
   | (refine s_cb hA H (by with_unfolding_all exact spec_inRange.ok hm hz hG) rfl (fun H => ?_) (fun H => ?_) <;> cbv)
   | (refine indep_of hA ?_; cbv)
  | ((with_reducible refine side ?_); exact sideOf)
  | (with_reducible refine s_tk1 ?_; cbv)
  | (with_reducible refine And.intro ?_ ?_)
  | ((with_reducible refine s_cn H (fun hb H => ?_) (fun hb H => ?_)) <;> (revert H; subst hb; intro H; cbv))
  | (intro ys hys; subst hys; rfl)
  | rfl)
theorem spec_validNumber.ok {a1 : Int}  : FnOK pg G 158 [.int .i64 a1] [] (.bool ((isValue a1))) [] false := by
 refine spec_validNumber.w hm hz hG ?_
 simp only [spec_validNumber.f, isValue]; cases inRange a1 (-99) 99 <;> rfl
end
noncomputable def impl_isValue.f (a1 : Int)  (z_ : Bool) : Option (Bool) := (cn (inRange a1 (-99) 99) (some true) (some false))
section
variable {G : Glob} (hm : Hm) (hz : Hz) (hG : GF G)
include hm hz hG
theorem impl_isValue.w {a1 : Int}  {r : Bool} (H : impl_isValue.f a1  r = some r) : FnOK pg G 87 [.int .i64 a1] [] (.bool r) [] false := by
 obtain ⟨V, hV⟩ := exV
 refine fn_ok (tt0 := tyG [ty3, ty4]) (fn := Tryz.f87) (body := bodyOf Tryz.f87) (ext := []) hm (tyG_sub ⟨tt3, tt4, trivial⟩) hz 0 true [] (by unfold pg; exact Tryz.func87) rfl rfl (by simp [Tryz.f87]) (by simp [EObj.toObj]) (by cbv) ?_
 intro A F hA hF
 unfold impl_isValue.f at H
 cbv
 repeat' (first
  | (cases H; exact fin_plain hF rfl rfl rfl rfl)
  | with_reducible first
   | (refine s_lv H (fun _ H => ?_); cbv)
   | (refine s_cb hA H (by with_unfolding_all exact impl_in.ok hm hz hG) rfl (fun H => ?_) (fun H => ?_) <;> cbv)
   | (refine indep_of hA ?_; cbv)
  | ((with_reducible refine side ?_); exact sideOf)
  | (with_reducible refine s_tk1 ?_; cbv)
  | (with_reducible refine And.intro ?_ ?_)
  | ((with_reducible refine s_cn H (fun hb H => ?_) (fun hb H => ?_)) <;> (revert H; subst hb; intro H; cbv))
  | (intro ys hys; subst hys; rfl)
  | rfl)
theorem impl_isValue.ok {a1 : Int}  : FnOK pg G 87 [.int .i64 a1] [] (.bool ((isValue a1))) [] false := by
 refine impl_isValue.w hm hz hG ?_
 simp only [impl_isValue.f, isValue]; cases inRange a1 (-99) 99 <;> rfl
end
def isLow (c : UInt8) : Bool := decide (97 ≤ c.toNat ∧ c.toNat ≤ 122)
def isName (s : Str) : Bool := s.all isLow && inRange s.length 1 6
noncomputable def spec_validName.b0 (a1 : Str)  (h0 : (Int) → Option (Bool)) (z_ : Bool) (x6 : Int) : Option (Bool) := (ln' z_ (a1.length) fun v11 => (if x6 < v11 then (bt a1 x6 fun v12 => (if v12 < 97 then (some false) else (bt a1 x6 fun v13 => (if 122 < v13 then (some false) else (arr .i64 (x6 + 1) fun v14 => (h0 v14)))))) else (ln' z_ (a1.length) fun v15 => (cn (inRange v15 1 6) (some true) (some false)))))
noncomputable def spec_validName.f (a1 : Str) (h0 : (Int) → Option (Bool)) (z_ : Bool) : Option (Bool) := (h0 0)
theorem pin_spec_validName {e : ESt} {ns : List (Nat × Nat)} {ps : List (Nat × C)} {os : List (Nat × EObj)} (hs : pinPZ (pinZ e.o (os.map Prod.fst) ns) e.s ps := by first | (cbv <;> (repeat' (first | trivial | refine And.intro ?_ ?_)) <;> (first | rfl | assumption | omega | trivial | rfl | rfl | simp [closedCell])) | fail) (ho : ∀ B : (Nat → EObj) → List (List C) → List (List C) → Prop, (∀ o rows rows', rowsZ (pinZ o (os.map Prod.fst) ns) rows rows' → B o rows rows') → pinOZ (pinZ e.o (os.map Prod.fst) ns) B e.o ns os := by intro B hB; first | (cbv <;> (repeat' (first | trivial | refine And.intro ?_ ?_ | refine pin_same hB ?_ | refine pin_nil hB ?_ | refine pin_dirty hB (by assumption) (by assumption) ?_ ?_ | exact pinL_n | refine pinL_c ?_ ?_ | (refine pz_go ?_; cbv) | (refine pinL_go ?_; cbv))) <;> (first | trivial | rfl | rfl | assumption | omega | rfl | simp [closedCell])) | fail) : PinnedZ e ns ps os := ⟨hs, ho⟩
section
variable {G : Glob} (hm : Hm) (hz : Hz) (hG : GF G)
include hm hz hG
set_option maxHeartbeats 8000000 in
theorem spec_validName.w {a1 : Str} (inv0 : (Int) → Prop) (mu0 : (Int) → Nat) (res0 : (Int) → Bool) (hb0 : ∀ (s_ : Int), inv0  s_ → spec_validName.b0 a1  (LI (inv0 ) (mu0 ) (res0 ) (mu0  s_)) (res0  s_) s_ = some (res0  s_)) {r : Bool} (H : spec_validName.f a1 (EI (inv0 ) (mu0 ) (res0 )) r = some r) : FnOK pg G 159 [.str ⟨⟨a1⟩⟩] [] (.bool r) [] false := by
 obtain ⟨V, hV⟩ := exV
 refine fn_ok (tt0 := tyG [ty3, ty4, ty5, ty9]) (fn := Tryz.f159) (body := bodyOf Tryz.f159) (ext := []) hm (tyG_sub ⟨tt3, tt4, tt5, tt9, trivial⟩) hz 0 true [] (by unfold pg; exact Tryz.func159) rfl rfl (by simp [Tryz.f159]) (by simp [EObj.toObj]) (by cbv) ?_
 intro A F hA hF
 unfold spec_validName.f at H
 cbv
 repeat' (first
  | (cases H; exact fin_plain hF rfl rfl rfl rfl)
  | ((with_reducible first | refine s_lt H ?_ ?_ | refine s_le H ?_ ?_ | refine s_eq H ?_ ?_ | refine s_ne H ?_ ?_) <;> intro H <;> cbv)
  | with_reducible first
   | (refine s_ln H lnOf (fun _ H => ?_); cbv)
   | (refine s_bt H (fun _ H => ?_); cbv)
   | (refine s_ar H (fun _ H => ?_); cbv)
   | (refine s_lv H (fun _ H => ?_); cbv)
   | (refine s_loop hA H (fun s h => hb0  s h) [0] [] (fun e s => [(3, .int .i64 s)]) (fun e s => []) [] pin_spec_validName nbOf ?_; rintro x6 H; unfold spec_validName.b0 at H; (try dsimp only at H); cbv)
  | (with_reducible refine s_next H pin_spec_validName nbOf)
  | with_reducible first
   | (refine s_cb hA H (by with_unfolding_all exact spec_inRange.ok hm hz hG) rfl (fun H => ?_) (fun H => ?_) <;> cbv)
   | (refine indep_of hA ?_; cbv)
  | ((with_reducible refine side ?_); exact sideOf)
  | (with_reducible refine s_tk1 ?_; cbv)
  | (with_reducible refine And.intro ?_ ?_)
  | ((with_reducible refine s_cn H (fun hb H => ?_) (fun hb H => ?_)) <;> (revert H; subst hb; intro H; cbv))
  | (intro ys hys; subst hys; rfl)
  | rfl)
theorem spec_validName.ok {a1 : Str}  : FnOK pg G 159 [.str ⟨⟨a1⟩⟩] [] (.bool ((isName a1))) [] false := by
 have A := @spec_validName.w G hm hz hG a1 (rgI (a1) (fun i => i) (fun _ => True)) (rgM (a1) (fun i => i)) (rgR (a1) (fun i => i) (fun r _ => r.all isLow && inRange a1.length 1 6)) (rangeS (a1) (fun i => i) (fun _ => True) (fun r _ => r.all isLow && inRange a1.length 1 6) (fun rec z s => spec_validName.b0 a1  rec z s) ?_ ?_)
 ·exact A (EI_fin (rg0 trivial rfl) rfl)
 ·intro rec s _ h0 h1
  simp only [spec_validName.b0]
  refine ln_ok fun hB => ?_
  simp (disch := first | assumption | omega | (simp; done) | (simp; omega)) only [if_true, if_false, reduceIte, lv, lj, ln_at, cn_t, cn_f, cn_tf, cn_ft, cn_xx, gd_ok, arr_ok, arr_ok8, arr_ok32, arr_oku, ia_ok, bt_ok, EI_ok, LI_ok, h1, Int.lt_irrefl]
  rfl
 ·intro rec s x r _ h0 h1 hx hl hr
  simp only [spec_validName.b0]
  refine ln_ok fun hB => ?_
  simp (disch := first | assumption | omega | (simp; done) | (simp; omega)) only [if_true, if_false, reduceIte, lv, lj, ln_at, cn_t, cn_f, cn_tf, cn_ft, cn_xx, gd_ok, arr_ok, arr_ok8, arr_ok32, arr_oku, ia_ok, bt_ok, EI_ok, LI_ok, gD hx, hr _ trivial rfl, h1]
  simp only [List.all_cons, isLow]
  split
  ·simp; omega
  ·split
   ·simp; omega
   ·rename_i h2 h3; rw [decide_eq_true (show 97 ≤ x.toNat ∧ x.toNat ≤ 122 by omega)]; rfl
end
noncomputable def impl_isName.b0 (a1 : Str)  (h0 : (Int) → Option (Bool)) (z_ : Bool) (x6 : Int) : Option (Bool) := (ln' z_ (a1.length) fun v11 => (if x6 < v11 then (bt a1 x6 fun v12 => (if v12 < 97 then (some false) else (bt a1 x6 fun v13 => (if 122 < v13 then (some false) else (arr .i64 (x6 + 1) fun v14 => (h0 v14)))))) else (ln' z_ (a1.length) fun v15 => (cn (inRange v15 1 6) (some true) (some false)))))
noncomputable def impl_isName.f (a1 : Str) (h0 : (Int) → Option (Bool)) (z_ : Bool) : Option (Bool) := (h0 0)
section
variable {G : Glob} (hm : Hm) (hz : Hz) (hG : GF G)
include hm hz hG
set_option maxHeartbeats 8000000 in
theorem impl_isName.w {a1 : Str} (inv0 : (Int) → Prop) (mu0 : (Int) → Nat) (res0 : (Int) → Bool) (hb0 : ∀ (s_ : Int), inv0  s_ → impl_isName.b0 a1  (LI (inv0 ) (mu0 ) (res0 ) (mu0  s_)) (res0  s_) s_ = some (res0  s_)) {r : Bool} (H : impl_isName.f a1 (EI (inv0 ) (mu0 ) (res0 )) r = some r) : FnOK pg G 86 [.str ⟨⟨a1⟩⟩] [] (.bool r) [] false := by
 obtain ⟨V, hV⟩ := exV
 refine fn_ok (tt0 := tyG [ty3, ty4, ty5, ty9]) (fn := Tryz.f86) (body := bodyOf Tryz.f86) (ext := []) hm (tyG_sub ⟨tt3, tt4, tt5, tt9, trivial⟩) hz 0 true [] (by unfold pg; exact Tryz.func86) rfl rfl (by simp [Tryz.f86]) (by simp [EObj.toObj]) (by cbv) ?_
 intro A F hA hF
 unfold impl_isName.f at H
 cbv
 repeat' (first
  | (cases H; exact fin_plain hF rfl rfl rfl rfl)
  | ((with_reducible first | refine s_lt H ?_ ?_ | refine s_le H ?_ ?_ | refine s_eq H ?_ ?_ | refine s_ne H ?_ ?_) <;> intro H <;> cbv)
  | with_reducible first
   | (refine s_ln H lnOf (fun _ H => ?_); cbv)
   | (refine s_bt H (fun _ H => ?_); cbv)
   | (refine s_ar H (fun _ H => ?_); cbv)
   | (refine s_lv H (fun _ H => ?_); cbv)
   | (refine s_loop hA H (fun s h => hb0  s h) [0] [] (fun e s => [(3, .int .i64 s)]) (fun e s => []) [] pin_spec_validName nbOf ?_; rintro x6 H; unfold impl_isName.b0 at H; (try dsimp only at H); cbv)
  | (with_reducible refine s_next H pin_spec_validName nbOf)
  | with_reducible first
   | (refine s_cb hA H (by with_unfolding_all exact impl_in.ok hm hz hG) rfl (fun H => ?_) (fun H => ?_) <;> cbv)
   | (refine indep_of hA ?_; cbv)
  | ((with_reducible refine side ?_); exact sideOf)
  | (with_reducible refine s_tk1 ?_; cbv)
  | (with_reducible refine And.intro ?_ ?_)
  | ((with_reducible refine s_cn H (fun hb H => ?_) (fun hb H => ?_)) <;> (revert H; subst hb; intro H; cbv))
  | (intro ys hys; subst hys; rfl)
  | rfl)
theorem impl_isName.ok {a1 : Str}  : FnOK pg G 86 [.str ⟨⟨a1⟩⟩] [] (.bool ((isName a1))) [] false := by
 have A := @impl_isName.w G hm hz hG a1 (rgI (a1) (fun i => i) (fun _ => True)) (rgM (a1) (fun i => i)) (rgR (a1) (fun i => i) (fun r _ => r.all isLow && inRange a1.length 1 6)) (rangeS (a1) (fun i => i) (fun _ => True) (fun r _ => r.all isLow && inRange a1.length 1 6) (fun rec z s => impl_isName.b0 a1  rec z s) ?_ ?_)
 ·exact A (EI_fin (rg0 trivial rfl) rfl)
 ·intro rec s _ h0 h1
  simp only [impl_isName.b0]
  refine ln_ok fun hB => ?_
  simp (disch := first | assumption | omega | (simp; done) | (simp; omega)) only [if_true, if_false, reduceIte, lv, lj, ln_at, cn_t, cn_f, cn_tf, cn_ft, cn_xx, gd_ok, arr_ok, arr_ok8, arr_ok32, arr_oku, ia_ok, bt_ok, EI_ok, LI_ok, h1, Int.lt_irrefl]
  rfl
 ·intro rec s x r _ h0 h1 hx hl hr
  simp only [impl_isName.b0]
  refine ln_ok fun hB => ?_
  simp (disch := first | assumption | omega | (simp; done) | (simp; omega)) only [if_true, if_false, reduceIte, lv, lj, ln_at, cn_t, cn_f, cn_tf, cn_ft, cn_xx, gd_ok, arr_ok, arr_ok8, arr_ok32, arr_oku, ia_ok, bt_ok, EI_ok, LI_ok, gD hx, hr _ trivial rfl, h1]
  simp only [List.all_cons, isLow]
  split
  ·simp; omega
  ·split
   ·simp; omega
   ·rename_i h2 h3; rw [decide_eq_true (show 97 ≤ x.toNat ∧ x.toNat ≤ 122 by omega)]; rfl
end
end Go.Proofs.YtchpopejojghmaaGreatDoor.M
