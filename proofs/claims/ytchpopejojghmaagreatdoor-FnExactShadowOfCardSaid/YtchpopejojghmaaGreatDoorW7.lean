/- Texts that ascend; counts and names that are needed: the reference. -/
import Derived.Test.YtchpopejojghmaaGreatDoorX1
import Derived.Test.YtchpopejojghmaaGreatDoorHO
set_option linter.unusedVariables false
set_option linter.unusedSimpArgs false
set_option linter.unusedSectionVars false
namespace Go.Proofs.YtchpopejojghmaaGreatDoor.M
open Go Go.Proofs
set_option maxRecDepth 100000
theorem bl_lt : ∀ (a b : Str), Op.bytesLess a b = true ↔ a < b
 | [], [] => by simp [Op.bytesLess]
 | _ :: _, [] => by simp [Op.bytesLess]
 | [], _ :: _ => by simp [Op.bytesLess]
 | a :: x, b :: y => by
  rw [Op.bytesLess, List.cons_lt_cons_iff, Bool.or_eq_true, Bool.and_eq_true, bl_lt x y]
  simp
noncomputable def spec_hasText.b0 (a1 : List Str) (a2 : Str)  (h0 : (Int) → Option (Bool)) (z_ : Bool) (x6 : Int) : Option (Bool) := (ln' z_ (a1.length) fun v10 => (if x6 < v10 then (ixS a1 x6 fun v11 => (if v11 = a2 then (some true) else (arr .i64 (x6 + 1) fun v12 => (h0 v12)))) else (some false)))
noncomputable def spec_hasText.f (a1 : List Str) (a2 : Str) (h0 : (Int) → Option (Bool)) (z_ : Bool) : Option (Bool) := (h0 0)
theorem pin_spec_hasText {e : ESt} {ns : List (Nat × Nat)} {ps : List (Nat × C)} {os : List (Nat × EObj)} (hs : pinPZ (pinZ e.o (os.map Prod.fst) ns) e.s ps := by first | (cbv <;> (repeat' (first | trivial | refine And.intro ?_ ?_)) <;> (first | rfl | assumption | omega | exact clS hV _ | with_unfolding_all exact hV.nS [] | with_unfolding_all exact (hV.nS []).symm | with_unfolding_all exact hV.rS _ | with_unfolding_all exact (hV.nS _).trans (Eq.trans (by simp only [hV.nS] at *; omega) (hV.nS _).symm) | simp [closedCell])) | fail) (ho : ∀ B : (Nat → EObj) → List (List C) → List (List C) → Prop, (∀ o rows rows', rowsZ (pinZ o (os.map Prod.fst) ns) rows rows' → B o rows rows') → pinOZ (pinZ e.o (os.map Prod.fst) ns) B e.o ns os := by intro B hB; first | (cbv <;> (repeat' (first | trivial | refine And.intro ?_ ?_ | refine pin_same hB ?_ | refine pin_nil hB ?_ | refine pin_dirty hB (by assumption) (by assumption) ?_ ?_ | exact pinL_n | refine pinL_c ?_ ?_ | exact pzr rfl rfl rfl (nrS hV _) (clS hV _) | (refine pz_go ?_; cbv) | (refine pinL_go ?_; cbv))) <;> (first | exact clS hV _ | with_unfolding_all exact hV.rS _ | with_unfolding_all exact hV.nS [] | with_unfolding_all exact (hV.nS []).symm | assumption | omega | rfl | with_unfolding_all exact (hV.nS _).trans (Eq.trans (by simp only [hV.nS] at *; omega) (hV.nS _).symm) | simp [closedCell])) | fail) : PinnedZ e ns ps os := ⟨hs, ho⟩
section
variable {G : Glob} (hm : Hm) (hz : Hz) (hG : GF G)
include hm hz hG
set_option maxHeartbeats 8000000 in
theorem spec_hasText.w {a1 : List Str} {a2 : Str} (inv0 : (Int) → Prop) (mu0 : (Int) → Nat) (res0 : (Int) → Bool) (hb0 : ∀ (s_ : Int), inv0  s_ → spec_hasText.b0 a1 a2  (LI (inv0 ) (mu0 ) (res0 ) (mu0  s_)) (res0  s_) s_ = some (res0  s_)) {r : Bool} (H : spec_hasText.f a1 a2 (EI (inv0 ) (mu0 ) (res0 )) r = some r) : FnOK pg G 173 [.sl (a1.map eS), .str ⟨⟨a2⟩⟩] [] (.bool r) [] false := by
 obtain ⟨V, hV⟩ := exV
 simp only [← hV.rS]
 refine fn_ok (tt0 := tyG [ty3, ty4, ty9, ty68]) (fn := Tryz.f173) (body := bodyOf Tryz.f173) (ext := []) hm (tyG_sub ⟨tt3, tt4, tt9, tt68, trivial⟩) hz 0 true [] (by unfold pg; exact Tryz.func173) rfl rfl (by simp [Tryz.f173]) (by simp [EObj.toObj]) (by cbv) ?_
 intro A F hA hF
 unfold spec_hasText.f at H
 cbv
 repeat' (first
  | (cases H; exact fin_plain hF rfl rfl rfl rfl)
  | ((with_reducible first | refine s_lt H ?_ ?_ | refine s_le H ?_ ?_ | refine s_eq H ?_ ?_ | refine s_ne H ?_ ?_) <;> intro H <;> cbv)
  | with_reducible first
   | (refine s_ln H lnOf (fun _ H => ?_); cbv)
   | (refine s_ixS hV H (fun _ H => ?_); cbv)
   | (refine s_ar H (fun _ H => ?_); cbv)
   | (refine s_lv H (fun _ H => ?_); cbv)
   | (refine s_loop hA H (fun s h => hb0  s h) [0, 1] [] (fun e s => [(5, .int .i64 s)]) (fun e s => []) [] pin_spec_hasText nbOf ?_; rintro x6 H; unfold spec_hasText.b0 at H; (try dsimp only at H); cbv)
  | (with_reducible refine s_next H pin_spec_hasText nbOf)
  | (with_reducible refine indep_of hA ?_; cbv)
  | ((with_reducible refine side ?_); exact sideOf)
  | with_reducible first
   | (refine s_tkG hV.rS hV.nS ?_; cbv)
   | (refine s_tk1 ?_; cbv)
  | (with_reducible refine And.intro ?_ ?_)
  | (intro ys hys; subst hys; rfl)
  | rfl)
theorem spec_hasText.ok {a1 : List Str} {a2 : Str}  : FnOK pg G 173 [.sl (a1.map eS), .str ⟨⟨a2⟩⟩] [] (.bool (((fun (l : List Str) (s : Str) => l.contains s) a1 a2))) [] false := by
 have A := @spec_hasText.w G hm hz hG a1 a2 (rgI (a1) (fun i => i) (fun _ => True)) (rgM (a1) (fun i => i)) (rgR (a1) (fun i => i) (fun r i => r.contains a2)) (rangeS (a1) (fun i => i) (fun _ => True) (fun r i => r.contains a2) (fun rec z s => spec_hasText.b0 a1 a2  rec z s) ?_ ?_)
 ·exact A (EI_fin (rg0 trivial rfl) rfl)
 ·intro rec s _ h0 h1
  simp only [spec_hasText.b0]
  refine ln_ok fun hB => ?_
  simp (disch := first | assumption | omega | (simp; done) | (simp; omega)) only [if_true, if_false, reduceIte, lv, lj, ln_at, cn_t, cn_f, cn_tf, cn_ft, cn_xx, gd_ok, arr_ok, arr_ok8, arr_ok32, arr_oku, ia_ok, bt_ok, EI_ok, LI_ok, h1, Int.lt_irrefl]
  rfl
 ·intro rec s x r _ h0 h1 hx hl hr
  simp only [spec_hasText.b0]
  refine ln_ok fun hB => ?_
  simp (disch := first | assumption | omega | (simp; done) | (simp; omega)) only [if_true, if_false, reduceIte, lv, lj, ln_at, cn_t, cn_f, cn_tf, cn_ft, cn_xx, gd_ok, arr_ok, arr_ok8, arr_ok32, arr_oku, ia_ok, bt_ok, EI_ok, LI_ok, h1, ixS, hx, h0, hr _ trivial rfl]
  rw [List.contains_cons]
  by_cases h : x = a2
  ·subst h; simp
  ·rw [if_neg h, show (a2 == x) = false from by simp [Ne.symm h]]; rfl
end
theorem insT_at {x : Str} : ∀ {out : List Str} {k : Nat}, (∀ y ∈ out.take k, y < x) → (∀ y, out[k]? = some y → ¬ y < x) → k ≤ out.length → insT x out = if out[k]? = some x then out else out.take k ++ x :: out.drop k
 | [], 0, _, _, _ => by simp [insT]
 | [], k + 1, _, _, h => by simp at h
 | y :: r, 0, _, h, _ => by
  have h0 := h y rfl
  unfold insT
  rw [if_neg h0]
  by_cases e : y = x <;> simp [e]
 | y :: r, k + 1, h1, h2, h3 => by
  have hy : y < x := h1 y (by simp)
  unfold insT
  rw [if_pos hy, insT_at (k := k) (fun z hz => h1 z (by simp [hz])) (fun z hz => h2 z (by simpa using hz)) (by simpa using h3)]
  simp only [List.getElem?_cons_succ]
  split <;> simp
theorem sortT_snoc (l : List Str) (x : Str) : sortT (l ++ [x]) = insT x (sortT l) := by simp [sortT, List.foldl_append]
def insK (x : Str) (out : List Str) (k : Int) : Prop := 0 ≤ k ∧ k ≤ out.length ∧ (∀ y ∈ out.take k.toNat, y < x) ∧ ∀ y, out[k.toNat]? = some y → ¬ y < x
noncomputable def spec_sortedTexts.b1 (a1 : List Str) (J0 : (Int → Option ((List Str)))) (x160 : List Str) (x161 : Int) (h1 : (Int) → Option ((List Str))) (z_ : (List Str)) (x276 : Int) : Option ((List Str)) := (ln' z_ (x160.length) fun v282 => (if x276 < v282 then (ia x160.length x276 fun j283 => (rnS x160 j283 fun v284 => (ixS a1 x161 fun v285 => (if Op.bytesLess v284 v285 = true then (arr .i64 (x276 + 1) fun v286 => (h1 v286)) else (J0 x276))))) else (J0 x276)))
noncomputable def spec_sortedTexts.b0 (a1 : List Str)  (h0 : ((List Str) × Int) → Option ((List Str))) (h1 : ((Int → Option ((List Str)))) → (List Str) → Int → (Int) → Option ((List Str))) (z_ : (List Str)) (x160 : List Str) (x161 : Int) : Option ((List Str)) := (ln' z_ (a1.length) fun v224 => (if x161 < v224 then (lj 0 (fun J0 => (h1 J0 x160 x161 0)) (fun x270 => (ln' z_ (x160.length) fun v287 => (if x270 = v287 then (gd (0 ≤ x270 ∧ x270.toNat ≤ x160.length) (gd ((0 + (x160.take x270.toNat).length) * 16 ≤ 140737488355328) (lv (([] : List Str) ++ (x160.take x270.toNat)) fun v288 => (ixS a1 x161 fun v289 => (gd ((v288.length + 1) * 16 ≤ 140737488355328) (lv (v288 ++ [v289]) fun v290 => (gd (0 ≤ x270 ∧ x270.toNat ≤ x160.length) (gd ((v290.length + (x160.drop x270.toNat).length) * 16 ≤ 140737488355328) (lv (v290 ++ (x160.drop x270.toNat)) fun v291 => (arr .i64 (x161 + 1) fun v292 => (h0 (v291, v292)))))))))))) else (ia x160.length x270 fun j293 => (rnS x160 j293 fun v294 => (ixS a1 x161 fun v295 => (if v294 = v295 then (arr .i64 (x161 + 1) fun v296 => (h0 (x160, v296))) else (gd (0 ≤ x270 ∧ x270.toNat ≤ x160.length) (gd ((0 + (x160.take x270.toNat).length) * 16 ≤ 140737488355328) (lv (([] : List Str) ++ (x160.take x270.toNat)) fun v297 => (ixS a1 x161 fun v298 => (gd ((v297.length + 1) * 16 ≤ 140737488355328) (lv (v297 ++ [v298]) fun v299 => (gd (0 ≤ x270 ∧ x270.toNat ≤ x160.length) (gd ((v299.length + (x160.drop x270.toNat).length) * 16 ≤ 140737488355328) (lv (v299 ++ (x160.drop x270.toNat)) fun v300 => (arr .i64 (x161 + 1) fun v301 => (h0 (v300, v301)))))))))))))))))))) else (some x160)))
noncomputable def spec_sortedTexts.f (a1 : List Str) (h0 : ((List Str) × Int) → Option ((List Str))) (z_ : (List Str)) : Option ((List Str)) := (h0 ([], 0))
section
variable {G : Glob} (hm : Hm) (hz : Hz) (hG : GF G)
include hm hz hG
set_option maxHeartbeats 8000000 in
theorem spec_sortedTexts.w {a1 : List Str} (inv0 : ((List Str) × Int) → Prop) (mu0 : ((List Str) × Int) → Nat) (res0 : ((List Str) × Int) → (List Str)) (inv1 : Nat → ((Int → Option ((List Str)))) → (List Str) → Int → (Int) → Prop) (mu1 : Nat → ((Int → Option ((List Str)))) → (List Str) → Int → (Int) → Nat) (res1 : Nat → ((Int → Option ((List Str)))) → (List Str) → Int → (Int) → (List Str)) (hb0 : ∀ (s_ : (List Str) × Int), inv0  s_ → spec_sortedTexts.b0 a1  (LI (inv0 ) (mu0 ) (res0 ) (mu0  s_)) (fun J0 x160 x161 => EI (inv1 (mu0  s_) J0 x160 x161) (mu1 (mu0  s_) J0 x160 x161) (res1 (mu0  s_) J0 x160 x161)) (res0  s_) s_.1 s_.2 = some (res0  s_)) (hb1 : ∀ (m0_ : Nat), ∀ (J0 : (Int → Option ((List Str)))), ∀ (x160 : List Str), ∀ (x161 : Int), ∀ (s_ : Int), inv1 m0_ J0 x160 x161 s_ → spec_sortedTexts.b1 a1 J0 x160 x161 (LI (inv1 m0_ J0 x160 x161) (mu1 m0_ J0 x160 x161) (res1 m0_ J0 x160 x161) (mu1 m0_ J0 x160 x161 s_)) (res1 m0_ J0 x160 x161 s_) s_ = some (res1 m0_ J0 x160 x161 s_)) {r : (List Str)} (H : spec_sortedTexts.f a1 (EI (inv0 ) (mu0 ) (res0 )) r = some r) : FnOK pg G 104 [.sl (a1.map eS)] [] (.fr 1 (r.map eS)) [] false := by
 obtain ⟨V, hV⟩ := exV
 have e0_S : V.rS [] = [] := hV.rS []
 have e1_S : ∀ x r, V.rS (x :: r) = eS x :: V.rS r := fun x r => by rw [hV.rS, hV.rS]; rfl
 simp only [← hV.rS]
 refine fn_ok (tt0 := tyG [ty3, ty4, ty9, ty68]) (fn := Tryz.f104) (body := bodyOf Tryz.f104) (ext := []) hm (tyG_sub ⟨tt3, tt4, tt9, tt68, trivial⟩) hz 0 true [8] (by unfold pg; exact Tryz.func104) rfl rfl (by simp [Tryz.f104]) (by simp [EObj.toObj]) (by cbv) ?_
 intro A F hA hF
 unfold spec_sortedTexts.f at H
 cbv
 repeat' (first
  | (with_reducible refine s_gd H (fun hg H => ?_))
  | (cases H; (try simp only [e0_S, e1_S, eS] at hF); with_reducible refine fin_ref hF rfl (by simp [expIds, posCells, C.cells, idOf]) ?_; cbv)
  | ((with_reducible first | refine s_lt H ?_ ?_ | refine s_le H ?_ ?_ | refine s_eq H ?_ ?_ | refine s_ne H ?_ ?_) <;> intro H <;> cbv)
  | with_reducible first
   | (refine s_bl H (fun H => ?_) (fun H => ?_) <;> cbv)
   | (refine s_ble H (fun H => ?_) (fun H => ?_) <;> cbv)
   | (refine s_ln H lnOf (fun _ H => ?_); cbv)
   | (refine s_ixS hV H (fun _ H => ?_); cbv)
   | (refine s_rnS hV H (fun _ H => ?_); cbv)
   | (refine s_ia H lnOf (fun _ H => ?_); cbv)
   | (refine s_ar H (fun _ H => ?_); cbv)
   | (refine s_apS hV H (fun _ H => ?_); cbv)
   | (refine s_apL hV.rS hV.nS H (fun _ H => ?_); cbv)
   | (refine s_ap0 hV.rS hV.nS (by first | exact (hV.rS _).symm | (simp [eS]; rfl) | (simp [eS]; done)) H (fun _ H => ?_); cbv)
   | (refine s_tkL hV.rS H (fun _ H => ?_); cbv)
   | (refine s_tdL hV.rS H (fun _ H => ?_); cbv)
   | (refine s_tkLn hV.rS (by with_unfolding_all rfl) H (fun _ H => ?_); cbv)
   | (refine s_drL hV.rS H (fun _ H => ?_); cbv)
   | (refine s_drLn hV.rS (by with_unfolding_all rfl) H (fun _ H => ?_); cbv)
   | (refine s_lv H (fun _ H => ?_); cbv)
   | (refine s_loop hA H (fun s h => hb0  s h) [0] [] (fun e s => [(3, .ref 384 0 1 0 (V.nS (s.1))), (4, .int .i64 (s.2))]) (fun e s => [(384, ⟨0, true, 1, .many (V.rS (s.1))⟩)]) [] pin_spec_hasText nbOf ?_; rintro ⟨x160, x161⟩ H; unfold spec_sortedTexts.b0 at H; (try dsimp only at H); cbv)
   | (refine s_loop hA H (fun s h => hb1 _ _ _ _ s h) [0, 3, 4] [384] (fun e s => [(5, .int .i64 s)]) (fun e s => []) [] pin_spec_hasText nbOf ?_; rintro x276 H; unfold spec_sortedTexts.b1 at H; (try dsimp only at H); cbv)
  | (with_reducible refine s_next H pin_spec_hasText nbOf)
  | (with_reducible refine s_nextM [(2880, 384)] rfl H pin_spec_hasText nbOf)
  | (with_reducible refine s_joint 0 hA H [0, 3, 4] [384] (fun e s => [(5, .int .i64 s)]) (fun e s => []) (fun J0 H => ?_) ?_; rotate_left; (rintro x270 H; (try dsimp only at H); cbv); rotate_left; cbv)
  | (with_reducible refine s_meet H [] pin_spec_hasText nbOf)
  | (with_reducible refine indep_of hA ?_; cbv)
  | ((with_reducible refine side ?_); exact sideOf)
  | with_reducible first
   | (refine s_tkG hV.rS hV.nS ?_; cbv)
   | (refine s_tkPV hV.rS (by assumption) (fun y_ hy_ => ?_); (try rw [← hy_] at H); (try rw [← hy_] at hg); cbv)
   | (refine s_drPV hV.rS hV.nS (by assumption) (by assumption) (fun y_ hy_ => ?_); (try rw [← hy_] at H); (try rw [← hy_] at hg); cbv)
   | (refine s_eqnI (fun n_ hn_ => ?_); cbv)
   | (refine s_eqnI2 (fun b_ n_ hb_ hn_ => ?_); cbv)
   | (refine s_tk1 ?_; cbv)
  | (with_reducible refine And.intro ?_ ?_)
  | (intro ys hys; subst hys; rfl)
  | rfl
  | (intro h_; cases h_; done)
  | (with_reducible refine s_pl ?_; with_unfolding_all simp [plainV, plainA, plainC, plRS hV])
  | (intro ys hys; subst hys))
theorem spec_sortedTexts.ok {a1 : List Str} (hp : a1.length ≤ 1000000) : FnOK pg G 104 [.sl (a1.map eS)] [] (.fr 1 (((sortT a1)).map eS)) [] false := by
 refine @spec_sortedTexts.w G hm hz hG a1 (fun s => 0 ≤ s.2 ∧ s.2 ≤ a1.length ∧ s.1 = sortT (a1.take s.2.toNat)) (fun s => a1.length - s.2.toNat) (fun _ => sortT a1)
  (fun _ J out i k => ∃ x, a1[i.toNat]? = some x ∧ 0 ≤ i ∧ out.length ≤ 1000000 ∧ (∀ k, insK x out k → J k = some (sortT a1)) ∧ 0 ≤ k ∧ k ≤ out.length ∧ ∀ y ∈ out.take k.toNat, y < x)
  (fun _ _ out _ k => out.length - k.toNat) (fun _ _ _ _ _ => sortT a1) ?_ ?_ _ ?_
 ·rintro ⟨out, i⟩ ⟨h0, h1, ho⟩
  simp only at h0 h1 ho
  have hol : out.length ≤ i.toNat := by
   rw [ho]
   refine Nat.le_trans (sortT_len _) ?_
   rw [List.length_take]; omega
  simp only [spec_sortedTexts.b0]
  refine ln_ok fun hB => ?_
  refine ite_ok (fun h => ?_) (fun h => ?_)
  ·have hlt : i.toNat < a1.length := by omega
   obtain ⟨x, hx⟩ : ∃ x, a1[i.toNat]? = some x := ⟨_, List.getElem?_eq_getElem hlt⟩
   have htk : sortT (a1.take (i + 1).toNat) = insT x out := by rw [show (i + 1).toNat = i.toNat + 1 by omega, take_snoc hx, sortT_snoc, ← ho]
   refine lj_ok (insK x out) (fun J hJ => ?_) (fun k hk => ?_)
   ·rw [EI_ok ⟨x, hx, h0, by omega, hJ, Int.le_refl 0, by omega, by simp⟩]
   ·obtain ⟨k0, k1, k2, k3⟩ := hk
    have e := insT_at k2 k3 (by omega)
    rw [← htk] at e
    have ins : ∀ f : List Str → Option (List Str), f (out.take k.toNat ++ [x] ++ out.drop k.toNat) = some (sortT a1) →
      (gd (0 ≤ k ∧ k.toNat ≤ out.length) (gd ((0 + (out.take k.toNat).length) * 16 ≤ 140737488355328) (lv (([] : List Str) ++ (out.take k.toNat)) fun v => ixS a1 i fun w => gd ((v.length + 1) * 16 ≤ 140737488355328) (lv (v ++ [w]) fun u => gd (0 ≤ k ∧ k.toNat ≤ out.length) (gd ((u.length + (out.drop k.toNat).length) * 16 ≤ 140737488355328) (lv (u ++ out.drop k.toNat) f)))))) = some (sortT a1) := by
     intro f hf
     have l1 : (out.take k.toNat).length ≤ out.length := by rw [List.length_take]; omega
     have l2 : (out.drop k.toNat).length ≤ out.length := by rw [List.length_drop]; omega
     rw [gd_ok ⟨k0, by omega⟩, gd_ok (by omega)]
     simp only [lv, List.nil_append]
     rw [ixS_ok h0 hx, gd_ok (by omega), gd_ok ⟨k0, by omega⟩, gd_ok (by simp only [List.length_append, List.length_cons, List.length_nil]; omega)]
     exact hf
    have fin : ∀ out', out' = sortT (a1.take (i + 1).toNat) → (arr .i64 (i + 1) fun u => LI (fun s : List Str × Int => 0 ≤ s.2 ∧ s.2 ≤ a1.length ∧ s.1 = sortT (a1.take s.2.toNat)) (fun s => a1.length - s.2.toNat) (fun _ => sortT a1) (a1.length - i.toNat) (out', u)) = some (sortT a1) := by
     intro out' ho'
     rw [arr_ok (by omega), LI_ok ⟨⟨by simp only; omega, by simp only; omega, ho'⟩, by simp only; omega⟩]
    refine ln_ok fun hB2 => ?_
    refine ite_ok (fun c => ?_) (fun c => ?_)
    ·have en : out[k.toNat]? = none := List.getElem?_eq_none (by omega)
     rw [en, if_neg (by simp)] at e
     exact ins _ (fin _ (by rw [e]; simp))
    ·obtain ⟨y, hy⟩ : ∃ y, out[k.toNat]? = some y := ⟨_, List.getElem?_eq_getElem (by omega)⟩
     rw [hy] at e
     rw [ia_ok (by omega), rnS_ok hy, ixS_ok h0 hx]
     refine ite_ok (fun d => ?_) (fun d => ?_)
     ·rw [if_pos (by rw [d])] at e
      exact fin _ e.symm
     ·rw [if_neg (fun h => d (Option.some.inj h))] at e
      exact ins _ (fin _ (by rw [e]; simp))
  ·rw [take_len (by omega)] at ho
   rw [ho]
 ·rintro m J out i k ⟨x, hx, h0, hol, hJ, k0, k1, k2⟩
  simp only [spec_sortedTexts.b1]
  refine ln_ok fun hB => ?_
  refine ite_ok (fun h => ?_) (fun h => ?_)
  ·obtain ⟨y, hy⟩ : ∃ y, out[k.toNat]? = some y := ⟨_, List.getElem?_eq_getElem (by omega)⟩
   rw [ia_ok (by omega), rnS_ok hy, ixS_ok h0 hx]
   refine ite_ok (fun c => ?_) (fun c => ?_)
   ·have hnext : ∀ z ∈ out.take (k + 1).toNat, z < x := by
     intro z hz
     rw [show (k + 1).toNat = k.toNat + 1 by omega, take_snoc hy] at hz
     rcases List.mem_append.1 hz with hz | hz
     ·exact k2 z hz
     ·rw [List.mem_singleton] at hz; subst hz; exact (bl_lt _ _).1 c
    rw [arr_ok (by omega), LI_ok ⟨⟨x, hx, h0, hol, hJ, by omega, by omega, hnext⟩, by omega⟩]
   ·exact hJ _ ⟨k0, k1, k2, fun z hz => by rw [hy] at hz; cases hz; exact fun hlt => c ((bl_lt _ _).2 hlt)⟩
  ·exact hJ _ ⟨k0, k1, k2, fun z hz => by rw [List.getElem?_eq_none (by omega)] at hz; cases hz⟩
 ·simp only [spec_sortedTexts.f]
  rw [EI_ok ⟨Int.le_refl 0, by simp only; omega, rfl⟩]
end
def openI (p : Param) (i n : Int) : Bool := decide (p.kind = 3) || (decide (p.kind = 1) && decide (n ≤ i))
theorem openI_eq {p : Param} {i n : Int} (h0 : 0 ≤ i) (h1 : 0 ≤ n) : openI p i n = openP p i.toNat n.toNat := by
 unfold openI openP
 rw [show decide (n ≤ i) = decide (n.toNat ≤ i.toNat) from by simp only [decide_eq_decide]; omega]
noncomputable def spec_open.f (a1 : Str) (a2 : Int) (a3 : Bool) (a4 : Int) (a5 : Int) (a6 : Int)  (z_ : Bool) : Option (Bool) := (if a2 = 3 then (some true) else (if a2 = 1 then (if a6 ≤ a5 then (some true) else (some false)) else (some false)))
section
variable {G : Glob} (hm : Hm) (hz : Hz) (hG : GF G)
include hm hz hG
theorem spec_open.w {a1 : Str} {a2 : Int} {a3 : Bool} {a4 : Int} {a5 : Int} {a6 : Int}  {r : Bool} (H : spec_open.f a1 a2 a3 a4 a5 a6  r = some r) : FnOK pg G 150 [.agg [.str ⟨⟨a1⟩⟩, .int .i64 a2, .bool a3, .int .i64 a4], .int .i64 a5, .int .i64 a6] [] (.bool r) [] false := by
 obtain ⟨V, hV⟩ := exV
 refine fn_ok (tt0 := tyG [ty3, ty4, ty9, ty65]) (fn := Tryz.f150) (body := bodyOf Tryz.f150) (ext := []) hm (tyG_sub ⟨tt3, tt4, tt9, tt65, trivial⟩) hz 0 true [] (by unfold pg; exact Tryz.func150) rfl rfl (by simp [Tryz.f150]) (by simp [EObj.toObj]) (by cbv) ?_
 intro A F hA hF
 unfold spec_open.f at H
 cbv
 repeat' (first
  | (cases H; exact fin_plain hF rfl rfl rfl rfl)
  | ((with_reducible first | refine s_lt H ?_ ?_ | refine s_le H ?_ ?_ | refine s_eq H ?_ ?_ | refine s_ne H ?_ ?_) <;> intro H <;> cbv)
  | with_reducible first
   | (refine s_lv H (fun _ H => ?_); cbv)
   | (refine indep_of hA ?_; cbv)
  | ((with_reducible refine side ?_); exact sideOf)
  | (with_reducible refine s_tk1 ?_; cbv)
  | (with_reducible refine And.intro ?_ ?_)
  | (intro ys hys; subst hys; rfl)
  | rfl)
theorem spec_open.ok {a1 : Str} {a2 : Int} {a3 : Bool} {a4 : Int} {a5 : Int} {a6 : Int}  : FnOK pg G 150 [.agg [.str ⟨⟨a1⟩⟩, .int .i64 a2, .bool a3, .int .i64 a4], .int .i64 a5, .int .i64 a6] [] (.bool (((fun (p : Param) (i n : Int) => openI p i n) ⟨a1, a2, a3, a4⟩ a5 a6))) [] false := by
 refine spec_open.w hm hz hG ?_
 simp only [spec_open.f, openI]
 repeat' split
 all_goals simp [*]
end
def tcGo (r : List Param) : Bool := r.all fun p => !(decide (p.kind = 0) && !p.hasDefault)
theorem tcGo_step {l : List Param} {i : Int} {p : Param} (h0 : 0 ≤ i) (hp : l[i.toNat]? = some p) : tcGo (l.drop i.toNat) = (!(decide (p.kind = 0) && !p.hasDefault) && tcGo (l.drop (i + 1).toNat)) := by
 obtain ⟨hlt, e⟩ := List.getElem?_eq_some_iff.1 hp
 rw [List.drop_eq_getElem_cons hlt, e, show (i + 1).toNat = i.toNat + 1 by omega]; rfl
theorem tc_eq {A : List Param} {n : Int} (h0 : 0 ≤ n) : takesCountB A n.toNat = (!(decide (placesN A < n) && decide (kindAt A 2 < 0)) && tcGo (A.drop n.toNat)) := by
 unfold takesCountB tcGo
 congr 1
 have h1 : decide (n.toNat ≤ nPlaces A) = !decide (placesN A < n) := by rw [placesN_eq]; by_cases c : n.toNat ≤ nPlaces A <;> simp [c] <;> omega
 have h2 : (A.any fun p => decide (p.kind = 2)) = !decide (kindAt A 2 < 0) := by
  have := findI_nn (fun p : Param => decide (p.kind = 2)) A
  by_cases c : (A.any fun p => decide (p.kind = 2)) = true
  ·rw [c]; rw [c] at this; have : 0 ≤ kindAt A 2 := by unfold kindAt; rw [this]
   simp; omega
  ·rw [Bool.eq_false_iff.2 c]; have : ¬ 0 ≤ kindAt A 2 := by unfold kindAt; rw [this]; exact c
   simp; omega
 rw [h1, h2, Bool.not_and]
noncomputable def spec_takesCount.b1 (a1 : List Param) (a2 : Int)  (h1 : (Int) → Option (Bool)) (z_ : Bool) (x50 : Int) : Option (Bool) := (ln' z_ (a1.length) fun v62 => (if x50 < v62 then (ixParam a1 x50 fun v63 v64 v65 v66 => (if v64 = 0 then (ixParam a1 x50 fun v67 v68 v69 v70 => (cn v69 (arr .i64 (x50 + 1) fun v71 => (h1 v71)) (some false))) else (arr .i64 (x50 + 1) fun v72 => (h1 v72)))) else (some true)))
noncomputable def spec_takesCount.b0 (a1 : List Param) (a2 : Int)  (h0 : (Int) → Option (Bool)) (z_ : Bool) (x16 : Int) : Option (Bool) := (ln' z_ (a1.length) fun v28 => (if x16 < v28 then (ixParam a1 x16 fun v29 v30 v31 v32 => (if v30 = 0 then (ixParam a1 x16 fun v33 v34 v35 v36 => (cn v35 (arr .i64 (x16 + 1) fun v37 => (h0 v37)) (some false))) else (arr .i64 (x16 + 1) fun v38 => (h0 v38)))) else (some true)))
noncomputable def spec_takesCount.f (a1 : List Param) (a2 : Int) (h0 : (Int) → Option (Bool)) (h1 : (Int) → Option (Bool)) (z_ : Bool) : Option (Bool) := (lv ((fun (s : Sig) => placesN s.params) (⟨a1⟩)) fun v3 => (if v3 < a2 then (lv (kindAt a1 2) fun v4 => (if v4 < 0 then (some false) else (h0 a2))) else (h1 a2)))
theorem pin_spec_takesCount {e : ESt} {ns : List (Nat × Nat)} {ps : List (Nat × C)} {os : List (Nat × EObj)} (hs : pinPZ (pinZ e.o (os.map Prod.fst) ns) e.s ps := by first | (cbv <;> (repeat' (first | trivial | refine And.intro ?_ ?_)) <;> (first | rfl | assumption | omega | exact clParam hV _ | with_unfolding_all exact hV.nParam [] | with_unfolding_all exact (hV.nParam []).symm | with_unfolding_all exact hV.rParam _ | with_unfolding_all exact (hV.nParam _).trans (Eq.trans (by simp only [hV.nParam] at *; omega) (hV.nParam _).symm) | simp [closedCell])) | fail) (ho : ∀ B : (Nat → EObj) → List (List C) → List (List C) → Prop, (∀ o rows rows', rowsZ (pinZ o (os.map Prod.fst) ns) rows rows' → B o rows rows') → pinOZ (pinZ e.o (os.map Prod.fst) ns) B e.o ns os := by intro B hB; first | (cbv <;> (repeat' (first | trivial | refine And.intro ?_ ?_ | refine pin_same hB ?_ | refine pin_nil hB ?_ | refine pin_dirty hB (by assumption) (by assumption) ?_ ?_ | exact pinL_n | refine pinL_c ?_ ?_ | exact pzr rfl rfl rfl (nrParam hV _) (clParam hV _) | (refine pz_go ?_; cbv) | (refine pinL_go ?_; cbv))) <;> (first | exact clParam hV _ | with_unfolding_all exact hV.rParam _ | with_unfolding_all exact hV.nParam [] | with_unfolding_all exact (hV.nParam []).symm | assumption | omega | rfl | with_unfolding_all exact (hV.nParam _).trans (Eq.trans (by simp only [hV.nParam] at *; omega) (hV.nParam _).symm) | simp [closedCell])) | fail) : PinnedZ e ns ps os := ⟨hs, ho⟩
section
variable {G : Glob} (hm : Hm) (hz : Hz) (hG : GF G)
include hm hz hG
set_option maxHeartbeats 8000000 in
theorem spec_takesCount.w {a1 : List Param} {a2 : Int} (inv0 : (Int) → Prop) (mu0 : (Int) → Nat) (res0 : (Int) → Bool) (inv1 : (Int) → Prop) (mu1 : (Int) → Nat) (res1 : (Int) → Bool) (hb0 : ∀ (s_ : Int), inv0  s_ → spec_takesCount.b0 a1 a2  (LI (inv0 ) (mu0 ) (res0 ) (mu0  s_)) (res0  s_) s_ = some (res0  s_)) (hb1 : ∀ (s_ : Int), inv1  s_ → spec_takesCount.b1 a1 a2  (LI (inv1 ) (mu1 ) (res1 ) (mu1  s_)) (res1  s_) s_ = some (res1  s_)) {r : Bool} (H : spec_takesCount.f a1 a2 (EI (inv0 ) (mu0 ) (res0 )) (EI (inv1 ) (mu1 ) (res1 )) r = some r) : FnOK pg G 140 [.agg [.sl (a1.map eParam)], .int .i64 a2] [] (.bool r) [] false := by
 obtain ⟨V, hV⟩ := exV
 simp only [← hV.rParam]
 refine fn_ok (tt0 := tyG [ty3, ty4, ty9, ty27, ty29, ty65]) (fn := Tryz.f140) (body := bodyOf Tryz.f140) (ext := []) hm (tyG_sub ⟨tt3, tt4, tt9, tt27, tt29, tt65, trivial⟩) hz 0 true [] (by unfold pg; exact Tryz.func140) rfl rfl (by simp [Tryz.f140]) (by simp [EObj.toObj]) (by cbv) ?_
 intro A F hA hF
 unfold spec_takesCount.f at H
 cbv
 repeat' (first
  | (cases H; exact fin_plain hF rfl rfl rfl rfl)
  | ((with_reducible first | refine s_lt H ?_ ?_ | refine s_le H ?_ ?_ | refine s_eq H ?_ ?_ | refine s_ne H ?_ ?_) <;> intro H <;> cbv)
  | with_reducible first
   | (refine s_ln H lnOf (fun _ H => ?_); cbv)
   | (refine s_ixParam hV H (fun _ _ _ _ H => ?_); cbv)
   | (refine s_ar H (fun _ H => ?_); cbv)
   | (refine s_lv H (fun _ H => ?_); cbv)
   | (refine s_loop hA H (fun s h => hb0  s h) [2] [128] (fun e s => [(5, .int .i64 s)]) (fun e s => []) [] pin_spec_takesCount nbOf ?_; rintro x16 H; unfold spec_takesCount.b0 at H; (try dsimp only at H); cbv)
   | (refine s_loop hA H (fun s h => hb1  s h) [2] [128] (fun e s => [(5, .int .i64 s)]) (fun e s => []) [] pin_spec_takesCount nbOf ?_; rintro x50 H; unfold spec_takesCount.b1 at H; (try dsimp only at H); cbv)
  | (with_reducible refine s_next H pin_spec_takesCount nbOf)
  | with_reducible first
   | (refine s_ci hA H (by (try simp only [hV.rParam]); with_unfolding_all exact spec_placeCount.ok hm hz hG) rfl (fun _ H => ?_); cbv)
   | (refine s_ci hA H (by (try simp only [hV.rParam]); with_unfolding_all exact spec_kindAt.ok hm hz hG) rfl (fun _ H => ?_); cbv)
   | (refine indep_of hA ?_; cbv)
  | ((with_reducible refine side ?_); exact sideOf)
  | with_reducible first
   | (refine s_tkG hV.rParam hV.nParam ?_; cbv)
   | (refine s_tk1 ?_; cbv)
  | (with_reducible refine And.intro ?_ ?_)
  | ((with_reducible refine s_cn H (fun hb H => ?_) (fun hb H => ?_)) <;> (revert H; subst hb; intro H; cbv))
  | (intro ys hys; subst hys; rfl)
  | rfl)
theorem spec_takesCount.ok {a1 : List Param} {a2 : Int} (hp : 0 ≤ a2 ∧ a1.length ≤ 1000000 ∧ a2 ≤ 1000000) : FnOK pg G 140 [.agg [.sl (a1.map eParam)], .int .i64 a2] [] (.bool (((fun (s : Sig) (n : Int) => takesCountB s.params n.toNat) ⟨a1⟩ a2))) [] false := by
 obtain ⟨p0, p1, p2⟩ := hp
 refine @spec_takesCount.w G hm hz hG a1 a2 (fun i => 0 ≤ i ∧ (i ≤ a1.length ∨ i ≤ a2) ∧ tcGo (a1.drop i.toNat) = takesCountB a1 a2.toNat) (fun i => a1.length - i.toNat) (fun _ => takesCountB a1 a2.toNat)
  (fun i => 0 ≤ i ∧ (i ≤ a1.length ∨ i ≤ a2) ∧ tcGo (a1.drop i.toNat) = takesCountB a1 a2.toNat) (fun i => a1.length - i.toNat) (fun _ => takesCountB a1 a2.toNat) ?_ ?_ _ ?_
 ·rintro i ⟨h0, h1, h2⟩
  simp only [spec_takesCount.b0]
  refine ln_ok fun hB => ?_
  refine ite_ok (fun h => ?_) (fun h => ?_)
  ·obtain ⟨p, hp⟩ : ∃ p, a1[i.toNat]? = some p := ⟨_, List.getElem?_eq_getElem (by omega)⟩
   rw [tcGo_step h0 hp] at h2
   rw [ixParam_ok h0 hp]
   refine ite_ok (fun c => ?_) (fun c => ?_)
   ·rw [ixParam_ok h0 hp, cn_ite]
    refine ite_ok (fun d => ?_) (fun d => ?_)
    ·rw [arr_ok (by omega), LI_ok ⟨⟨by omega, .inl (by omega), by rw [← h2]; simp [d]⟩, by omega⟩]
    ·rw [← h2]; simp [c, d]
   ·rw [arr_ok (by omega), LI_ok ⟨⟨by omega, .inl (by omega), by rw [← h2]; simp [c]⟩, by omega⟩]
  ·rw [List.drop_eq_nil_of_le (by omega)] at h2
   rw [← h2]; rfl
 ·rintro i ⟨h0, h1, h2⟩
  simp only [spec_takesCount.b1]
  refine ln_ok fun hB => ?_
  refine ite_ok (fun h => ?_) (fun h => ?_)
  ·obtain ⟨p, hp⟩ : ∃ p, a1[i.toNat]? = some p := ⟨_, List.getElem?_eq_getElem (by omega)⟩
   rw [tcGo_step h0 hp] at h2
   rw [ixParam_ok h0 hp]
   refine ite_ok (fun c => ?_) (fun c => ?_)
   ·rw [ixParam_ok h0 hp, cn_ite]
    refine ite_ok (fun d => ?_) (fun d => ?_)
    ·rw [arr_ok (by omega), LI_ok ⟨⟨by omega, .inl (by omega), by rw [← h2]; simp [d]⟩, by omega⟩]
    ·rw [← h2]; simp [c, d]
   ·rw [arr_ok (by omega), LI_ok ⟨⟨by omega, .inl (by omega), by rw [← h2]; simp [c]⟩, by omega⟩]
  ·rw [List.drop_eq_nil_of_le (by omega)] at h2
   rw [← h2]; rfl
 ·simp only [spec_takesCount.f, lv]
  have e := @tc_eq a1 a2 p0
  refine ite_ok (fun c => ?_) (fun c => ?_)
  ·refine ite_ok (fun d => ?_) (fun d => ?_)
   ·rw [e]; simp [c, d]
   ·rw [EI_ok ⟨p0, .inr (Int.le_refl _), by rw [e]; simp [d]⟩]
  ·rw [EI_ok ⟨p0, .inr (Int.le_refl _), by rw [e]; simp [c]⟩]
end
def needF (n : Nat) (x : Param × Nat) : Bool := openP x.1 x.2 n && !x.1.hasDefault
theorem needL_eq (A : List Param) (n : Nat) : needL A n = (A.zipIdx.filter (needF n)).map fun x => x.1.name := rfl
def needTk (A : List Param) (n : Nat) (i : Nat) : List Str := ((A.zipIdx.take i).filter (needF n)).map fun x => x.1.name
theorem needTk_step {A : List Param} {n : Nat} {i : Int} {p : Param} (h0 : 0 ≤ i) (hp : A[i.toNat]? = some p) : needTk A n (i + 1).toNat = needTk A n i.toNat ++ if openP p i.toNat n = true ∧ p.hasDefault = false then [p.name] else [] := by
 have hz : A.zipIdx[i.toNat]? = some (p, i.toNat) := by rw [List.getElem?_zipIdx, hp]; simp
 unfold needTk
 rw [show (i + 1).toNat = i.toNat + 1 by omega, take_snoc hz, List.filter_append, List.map_append]
 congr 1
 by_cases c : openP p i.toNat n = true ∧ p.hasDefault = false
 ·rw [if_pos c]; simp [needF, c.1, c.2]
 ·rw [if_neg c]
  have : needF n (p, i.toNat) = false := by
   unfold needF
   rw [Bool.eq_false_iff]; simpa using c
  simp [this]
theorem needTk_len (A : List Param) (n : Nat) (i : Nat) : (needTk A n i).length ≤ A.length := by
 unfold needTk
 rw [List.length_map]
 refine Nat.le_trans (List.length_filter_le _ _) ?_
 rw [List.length_take, List.length_zipIdx]; omega
def on_LS {R : Type} (v : (List Str)) (f : (List Str) → Option R) : Option R := f v
section
variable {A : Bx} {P : Program} {G : Glob} {rg : Option Nat} {own : Nat} {o : Nat → EObj} {g : FuncId} {vs : List C} {sh : Bool} {K : C → List (Nat × EObj) → Prop} {R : Type} {r : R} {V : Vx} {v : (List Str)} {f : (List Str) → Option R}
theorem s_cFLS (hV : IsV V) (hA : IsBx true rg P G A) (H : on_LS v f = some r) (hok : FnOK P G g vs [] (.fr 1 (v.map eS)) [] sh) (hc : vs.all closedArg = true) (h : ∀ c0, f c0 = some r → K (.ref (own + 0) ((o (own + 0)).gen + 1) 1 0 (V.nS c0)) [(own + 0, ⟨(o (own + 0)).gen + 1, true, 1, .many (V.rS c0)⟩)]) : A.call own o g vs K := by
 refine callT_plain hA hok hc ?_
 have := h (v) H
 rw [show V.nS (v) = ((v).map eS).length by rw [hV.nS, List.length_map]] at this
 simp only [hV.rS] at this
 exact this
theorem s_rFLS {U : List C → List EObj → (C → List (Nat × EObj) → Prop) → Prop} {bs : List C} {ext : List EObj} (hU : U = callR P G own o g) (hV : IsV V) (H : on_LS v f = some r) (hok : FnOK P G g bs (ext.map EObj.toObj) (.fr 1 (v.map eS)) (ext.map EObj.toObj) false) (h : ∀ c0, f c0 = some r → K (.ref (own + 0) ((o (own + 0)).gen + 1) 1 0 (V.nS c0)) [(own + 0, ⟨(o (own + 0)).gen + 1, true, 1, .many (V.rS c0)⟩)]) : U bs ext K := by
 refine callR_of hU hok ?_
 have := h (v) H
 rw [show V.nS (v) = ((v).map eS).length by rw [hV.nS, List.length_map]] at this
 simp only [hV.rS] at this
 exact this
variable {U : List C → List Nat → (C → List (Nat × EObj) → Prop) → Prop} {bs : List C} {tops : List Nat}
end
noncomputable def spec_needs.b0 (a1 : List Param) (a2 : Int)  (h0 : (Int × (List Str)) → Option ((List Str))) (z_ : (List Str)) (x125 : Int) (x126 : List Str) : Option ((List Str)) := (ln' z_ (a1.length) fun v157 => (if x125 < v157 then (ixParam a1 x125 fun v171 v172 v173 v174 => (cn ((fun (p : Param) (i n : Int) => openI p i n) (⟨v171, v172, v173, v174⟩) x125 a2) (ixParam a1 x125 fun v175 v176 v177 v178 => (cn v177 (arr .i64 (x125 + 1) fun v179 => (h0 (v179, x126))) (ixParam a1 x125 fun v180 v181 v182 v183 => (gd ((x126.length + 1) * 16 ≤ 140737488355328) (lv (x126 ++ [v180]) fun v184 => (arr .i64 (x125 + 1) fun v185 => (h0 (v185, v184)))))))) (arr .i64 (x125 + 1) fun v186 => (h0 (v186, x126))))) else (gd (x126.length ≤ 1000000) (on_LS (sortT x126) fun v187 => (some v187)))))
noncomputable def spec_needs.f (a1 : List Param) (a2 : Int) (h0 : (Int × (List Str)) → Option ((List Str))) (z_ : (List Str)) : Option ((List Str)) := (h0 (0, []))
theorem pin_spec_needs {e : ESt} {ns : List (Nat × Nat)} {ps : List (Nat × C)} {os : List (Nat × EObj)} (hs : pinPZ (pinZ e.o (os.map Prod.fst) ns) e.s ps := by first | (cbv <;> (repeat' (first | trivial | refine And.intro ?_ ?_)) <;> (first | rfl | assumption | omega | exact clS hV _ | exact clParam hV _ | with_unfolding_all exact hV.nS [] | with_unfolding_all exact (hV.nS []).symm | with_unfolding_all exact hV.nParam [] | with_unfolding_all exact (hV.nParam []).symm | with_unfolding_all exact hV.rS _ | with_unfolding_all exact hV.rParam _ | with_unfolding_all exact (hV.nS _).trans (Eq.trans (by simp only [hV.nS] at *; omega) (hV.nS _).symm) | with_unfolding_all exact (hV.nParam _).trans (Eq.trans (by simp only [hV.nParam] at *; omega) (hV.nParam _).symm) | simp [closedCell])) | fail) (ho : ∀ B : (Nat → EObj) → List (List C) → List (List C) → Prop, (∀ o rows rows', rowsZ (pinZ o (os.map Prod.fst) ns) rows rows' → B o rows rows') → pinOZ (pinZ e.o (os.map Prod.fst) ns) B e.o ns os := by intro B hB; first | (cbv <;> (repeat' (first | trivial | refine And.intro ?_ ?_ | refine pin_same hB ?_ | refine pin_nil hB ?_ | refine pin_dirty hB (by assumption) (by assumption) ?_ ?_ | exact pinL_n | refine pinL_c ?_ ?_ | exact pzr rfl rfl rfl (nrS hV _) (clS hV _) | exact pzr rfl rfl rfl (nrParam hV _) (clParam hV _) | (refine pz_go ?_; cbv) | (refine pinL_go ?_; cbv))) <;> (first | exact clS hV _ | exact clParam hV _ | with_unfolding_all exact hV.rS _ | with_unfolding_all exact hV.rParam _ | with_unfolding_all exact hV.nS [] | with_unfolding_all exact (hV.nS []).symm | with_unfolding_all exact hV.nParam [] | with_unfolding_all exact (hV.nParam []).symm | assumption | omega | rfl | with_unfolding_all exact (hV.nS _).trans (Eq.trans (by simp only [hV.nS] at *; omega) (hV.nS _).symm) | with_unfolding_all exact (hV.nParam _).trans (Eq.trans (by simp only [hV.nParam] at *; omega) (hV.nParam _).symm) | simp [closedCell])) | fail) : PinnedZ e ns ps os := ⟨hs, ho⟩
section
variable {G : Glob} (hm : Hm) (hz : Hz) (hG : GF G)
include hm hz hG
set_option maxHeartbeats 8000000 in
theorem spec_needs.w {a1 : List Param} {a2 : Int} (inv0 : (Int × (List Str)) → Prop) (mu0 : (Int × (List Str)) → Nat) (res0 : (Int × (List Str)) → (List Str)) (hb0 : ∀ (s_ : Int × (List Str)), inv0  s_ → spec_needs.b0 a1 a2  (LI (inv0 ) (mu0 ) (res0 ) (mu0  s_)) (res0  s_) s_.1 s_.2 = some (res0  s_)) {r : (List Str)} (H : spec_needs.f a1 a2 (EI (inv0 ) (mu0 ) (res0 )) r = some r) : FnOK pg G 105 [.agg [.sl (a1.map eParam)], .int .i64 a2] [] (.fr 1 (r.map eS)) [] false := by
 obtain ⟨V, hV⟩ := exV
 have e0_S : V.rS [] = [] := hV.rS []
 have e1_S : ∀ x r, V.rS (x :: r) = eS x :: V.rS r := fun x r => by rw [hV.rS, hV.rS]; rfl
 have e0_Param : V.rParam [] = [] := hV.rParam []
 have e1_Param : ∀ x r, V.rParam (x :: r) = eParam x :: V.rParam r := fun x r => by rw [hV.rParam, hV.rParam]; rfl
 simp only [← hV.rS, ← hV.rParam]
 refine fn_ok (tt0 := tyG [ty3, ty4, ty9, ty27, ty29, ty65, ty68]) (fn := Tryz.f105) (body := bodyOf Tryz.f105) (ext := []) hm (tyG_sub ⟨tt3, tt4, tt9, tt27, tt29, tt65, tt68, trivial⟩) hz 0 true [] (by unfold pg; exact Tryz.func105) rfl rfl (by simp [Tryz.f105]) (by simp [EObj.toObj]) (by cbv) ?_
 intro A F hA hF
 unfold spec_needs.f at H
 cbv
 repeat' (first
  | (with_reducible refine s_gd H (fun hg H => ?_))
  | (cases H; (try simp only [e0_S, e0_Param, e1_S, eS, e1_Param, eParam] at hF); with_reducible refine fin_ref hF rfl (by simp [expIds, posCells, C.cells, idOf]) ?_; cbv)
  | ((with_reducible first | refine s_lt H ?_ ?_ | refine s_le H ?_ ?_ | refine s_eq H ?_ ?_ | refine s_ne H ?_ ?_) <;> intro H <;> cbv)
  | with_reducible first
   | (refine s_ln H lnOf (fun _ H => ?_); cbv)
   | (refine s_ixParam hV H (fun _ _ _ _ H => ?_); cbv)
   | (refine s_ar H (fun _ H => ?_); cbv)
   | (refine s_apS hV H (fun _ H => ?_); cbv)
   | (refine s_apL hV.rS hV.nS H (fun _ H => ?_); cbv)
   | (refine s_apParam hV H (fun _ H => ?_); cbv)
   | (refine s_apL hV.rParam hV.nParam H (fun _ H => ?_); cbv)
   | (refine s_lv H (fun _ H => ?_); cbv)
   | (refine s_loop hA H (fun s h => hb0  s h) [1, 2] [128] (fun e s => [(5, .ref 448 0 1 0 (V.nS (s.2))), (6, .int .i64 (s.1))]) (fun e s => [(448, ⟨0, true, 1, .many (V.rS (s.2))⟩)]) [] pin_spec_needs nbOf ?_; rintro ⟨x125, x126⟩ H; unfold spec_needs.b0 at H; (try dsimp only at H); cbv)
  | (with_reducible refine s_next H pin_spec_needs nbOf)
  | with_reducible first
   | (refine s_cb hA H (by (try simp only [hV.rS, hV.rParam]); with_unfolding_all exact spec_open.ok hm hz hG) rfl (fun H => ?_) (fun H => ?_) <;> cbv)
   | (refine s_cFLS hV hA H (by (try simp only [hV.rS, hV.rParam]); (first | (have hk_ := spec_sortedTexts.ok hm hz hG hg; with_unfolding_all exact hk_) | (with_unfolding_all exact spec_sortedTexts.ok hm hz hG (by first | assumption | omega)))) rfl (fun _ H => ?_); cbv)
   | (refine s_rFLS (by assumption) hV H (by (try simp only [hV.rS, hV.rParam]); (first | (have hk_ := spec_sortedTexts.ok hm hz hG hg; with_unfolding_all exact hk_) | (with_unfolding_all exact spec_sortedTexts.ok hm hz hG (by first | assumption | omega)))) (fun _ H => ?_); cbv)
   | (refine callT_cl (g := 104) hA (fun U hU => ?_); cbv)
   | (refine indep_of hA ?_; cbv)
  | ((with_reducible refine side ?_); exact sideOf)
  | with_reducible first
   | (refine s_tkG hV.rS hV.nS ?_; cbv)
   | (refine s_tkG hV.rParam hV.nParam ?_; cbv)
   | (refine s_tk1 ?_; cbv)
  | (with_reducible refine And.intro ?_ ?_)
  | ((with_reducible refine s_cn H (fun hb H => ?_) (fun hb H => ?_)) <;> (revert H; subst hb; intro H; cbv))
  | (intro ys hys; subst hys; rfl)
  | rfl
  | (intro h_; cases h_; done)
  | (with_reducible refine s_pl ?_; with_unfolding_all simp [plainV, plainA, plainC, plRS hV, plRParam hV])
  | (intro ys hys; subst hys))
theorem spec_needs.ok {a1 : List Param} {a2 : Int} (hp : 0 ≤ a2 ∧ a1.length ≤ 1000) : FnOK pg G 105 [.agg [.sl (a1.map eParam)], .int .i64 a2] [] (.fr 1 ((((fun (s : Sig) (n : Int) => needsT s.params n.toNat) ⟨a1⟩ a2)).map eS)) [] false := by
 obtain ⟨p0, p1⟩ := hp
 refine @spec_needs.w G hm hz hG a1 a2 (fun s => 0 ≤ s.1 ∧ s.1 ≤ a1.length ∧ s.2 = needTk a1 a2.toNat s.1.toNat) (fun s => a1.length - s.1.toNat) (fun _ => needsT a1 a2.toNat) ?_ _ ?_
 ·rintro ⟨i, out⟩ ⟨h0, h1, h2⟩
  simp only at h0 h1 h2
  have hol : out.length ≤ a1.length := by rw [h2]; exact needTk_len _ _ _
  simp only [spec_needs.b0]
  refine ln_ok fun hB => ?_
  refine ite_ok (fun h => ?_) (fun h => ?_)
  ·obtain ⟨p, hp⟩ : ∃ p, a1[i.toNat]? = some p := ⟨_, List.getElem?_eq_getElem (by omega)⟩
   have e := @needTk_step a1 a2.toNat i p h0 hp
   rw [← h2, ← openI_eq h0 p0] at e
   have fin : ∀ out', out' = needTk a1 a2.toNat (i + 1).toNat → (arr .i64 (i + 1) fun u => LI (fun s : Int × List Str => 0 ≤ s.1 ∧ s.1 ≤ a1.length ∧ s.2 = needTk a1 a2.toNat s.1.toNat) (fun s => a1.length - s.1.toNat) (fun _ => needsT a1 a2.toNat) (a1.length - i.toNat) (u, out')) = some (needsT a1 a2.toNat) := by
    intro out' ho'
    rw [arr_ok (by omega), LI_ok ⟨⟨by simp only; omega, by simp only; omega, ho'⟩, by simp only; omega⟩]
   rw [ixParam_ok h0 hp]
   simp only [eta_Param, cn_ite]
   refine ite_ok (fun c => ?_) (fun c => ?_)
   ·rw [ixParam_ok h0 hp]
    refine ite_ok (fun d => ?_) (fun d => ?_)
    ·exact fin _ (by rw [e]; simp [d])
    ·rw [ixParam_ok h0 hp, gd_ok (by omega)]
     exact fin _ (by rw [e, if_pos ⟨c, by simpa using d⟩])
   ·exact fin _ (by rw [e]; simp [c])
  ·have : out = needL a1 a2.toNat := by
    rw [h2, needL_eq]; unfold needTk
    rw [List.take_of_length_le (by rw [List.length_zipIdx]; omega)]
   simp only [this]
   rw [gd_ok (by rw [← this]; omega)]
   rfl
 ·simp only [spec_needs.f]
  rw [EI_ok ⟨Int.le_refl 0, by simp only; omega, by simp [needTk]⟩]
end
noncomputable def spec_allows.f (a1 : List Param) (a2 : Int) (a3 : Str)  (z_ : Bool) : Option (Bool) := (lv ((fun (s : Sig) (n : Str) => takesV s.params n) (⟨a1⟩) a3) fun v4 => (if 0 ≤ v4 then (ixParam a1 v4 fun v5 v6 v7 v8 => (if v6 = 4 then (some true) else (ixParam a1 v4 fun v9 v10 v11 v12 => (cn ((fun (p : Param) (i n : Int) => openI p i n) (⟨v9, v10, v11, v12⟩) v4 a2) (some true) (some false))))) else (some false)))
section
variable {G : Glob} (hm : Hm) (hz : Hz) (hG : GF G)
include hm hz hG
theorem spec_allows.w {a1 : List Param} {a2 : Int} {a3 : Str}  {r : Bool} (H : spec_allows.f a1 a2 a3  r = some r) : FnOK pg G 175 [.agg [.sl (a1.map eParam)], .int .i64 a2, .str ⟨⟨a3⟩⟩] [] (.bool r) [] false := by
 obtain ⟨V, hV⟩ := exV
 simp only [← hV.rParam]
 refine fn_ok (tt0 := tyG [ty3, ty4, ty9, ty27, ty29, ty65]) (fn := Tryz.f175) (body := bodyOf Tryz.f175) (ext := []) hm (tyG_sub ⟨tt3, tt4, tt9, tt27, tt29, tt65, trivial⟩) hz 0 true [] (by unfold pg; exact Tryz.func175) rfl rfl (by simp [Tryz.f175]) (by simp [EObj.toObj]) (by cbv) ?_
 intro A F hA hF
 unfold spec_allows.f at H
 cbv
 repeat' (first
  | (cases H; exact fin_plain hF rfl rfl rfl rfl)
  | ((with_reducible first | refine s_lt H ?_ ?_ | refine s_le H ?_ ?_ | refine s_eq H ?_ ?_ | refine s_ne H ?_ ?_) <;> intro H <;> cbv)
  | with_reducible first
   | (refine s_ixParam hV H (fun _ _ _ _ H => ?_); cbv)
   | (refine s_lv H (fun _ H => ?_); cbv)
   | (refine s_ci hA H (by (try simp only [hV.rParam]); with_unfolding_all exact spec_takesName.ok hm hz hG) rfl (fun _ H => ?_); cbv)
   | (refine s_cb hA H (by (try simp only [hV.rParam]); with_unfolding_all exact spec_open.ok hm hz hG) rfl (fun H => ?_) (fun H => ?_) <;> cbv)
   | (refine indep_of hA ?_; cbv)
  | ((with_reducible refine side ?_); exact sideOf)
  | with_reducible first
   | (refine s_tkG hV.rParam hV.nParam ?_; cbv)
   | (refine s_tk1 ?_; cbv)
  | (with_reducible refine And.intro ?_ ?_)
  | ((with_reducible refine s_cn H (fun hb H => ?_) (fun hb H => ?_)) <;> (revert H; subst hb; intro H; cbv))
  | (intro ys hys; subst hys; rfl)
  | rfl)
theorem spec_allows.ok {a1 : List Param} {a2 : Int} {a3 : Str} (hp : 0 ≤ a2) : FnOK pg G 175 [.agg [.sl (a1.map eParam)], .int .i64 a2, .str ⟨⟨a3⟩⟩] [] (.bool (((fun (s : Sig) (n : Int) (x : Str) => allowsS s.params n.toNat x) ⟨a1⟩ a2 a3))) [] false := by
 have hp0 := hp
 refine spec_allows.w hm hz hG ?_
 simp only [spec_allows.f, lv, cn_ite]
 unfold allowsS
 refine ite_ok (fun c => ?_) (fun c => ?_)
 ·obtain ⟨p, hp⟩ : ∃ p, a1[(takesV a1 a3).toNat]? = some p := ⟨_, List.getElem?_eq_getElem (by have := @takes_lt a1 a3; omega)⟩
  rw [ixParam_ok c hp, ixParam_ok c hp, hp]
  simp only [Option.any_some, c, decide_true, Bool.true_and]
  simp only [eta_Param, openI_eq c hp0]
  by_cases h : p.kind = 4
  ·simp [h]
  ·rw [if_neg h]; simp only [h, decide_false, Bool.false_or]
   split <;> simp [*]
 ·simp [c]
end
def flatV (n : Int) (names : List Str) : Flat := ⟨List.replicate n.toNat 0, names.map fun x => ⟨x, 0⟩⟩
noncomputable def spec_flatOf.b0 (a1 : Int) (a2 : List Str) (v5 : List Int) (h0 : (Int × (List Pair)) → Option (Flat)) (z_ : Flat) (x33 : Int) (x34 : List Pair) : Option (Flat) := (ln' z_ (a2.length) fun v41 => (if x33 < v41 then (ixS a2 x33 fun v44 => (gd ((x34.length + 1) * 24 ≤ 140737488355328) (lv (x34 ++ [⟨v44, 0⟩]) fun v45 => (arr .i64 (x33 + 1) fun v46 => (h0 (v46, v45)))))) else (some ⟨v5, x34⟩)))
noncomputable def spec_flatOf.f (a1 : Int) (a2 : List Str) (h0 : (List Int) → (Int × (List Pair)) → Option (Flat)) (z_ : Flat) : Option (Flat) := (gd (0 ≤ a1 ∧ a1.toNat * 8 ≤ 140737488355328) (lv (List.replicate a1.toNat 0) fun v5 => (h0 v5 (0, []))))
theorem pin_spec_flatOf {e : ESt} {ns : List (Nat × Nat)} {ps : List (Nat × C)} {os : List (Nat × EObj)} (hs : pinPZ (pinZ e.o (os.map Prod.fst) ns) e.s ps := by first | (cbv <;> (repeat' (first | trivial | refine And.intro ?_ ?_)) <;> (first | rfl | assumption | omega | exact clI hV _ | exact clS hV _ | exact clPair hV _ | with_unfolding_all exact hV.nI [] | with_unfolding_all exact (hV.nI []).symm | with_unfolding_all exact hV.nS [] | with_unfolding_all exact (hV.nS []).symm | with_unfolding_all exact hV.nPair [] | with_unfolding_all exact (hV.nPair []).symm | with_unfolding_all exact hV.rI _ | with_unfolding_all exact hV.rS _ | with_unfolding_all exact hV.rPair _ | with_unfolding_all exact (hV.nI _).trans (Eq.trans (by simp only [hV.nI] at *; omega) (hV.nI _).symm) | with_unfolding_all exact (hV.nS _).trans (Eq.trans (by simp only [hV.nS] at *; omega) (hV.nS _).symm) | with_unfolding_all exact (hV.nPair _).trans (Eq.trans (by simp only [hV.nPair] at *; omega) (hV.nPair _).symm) | simp [closedCell])) | fail) (ho : ∀ B : (Nat → EObj) → List (List C) → List (List C) → Prop, (∀ o rows rows', rowsZ (pinZ o (os.map Prod.fst) ns) rows rows' → B o rows rows') → pinOZ (pinZ e.o (os.map Prod.fst) ns) B e.o ns os := by intro B hB; first | (cbv <;> (repeat' (first | trivial | refine And.intro ?_ ?_ | refine pin_same hB ?_ | refine pin_nil hB ?_ | refine pin_dirty hB (by assumption) (by assumption) ?_ ?_ | exact pinL_n | refine pinL_c ?_ ?_ | exact pzr rfl rfl rfl (nrI hV _) (clI hV _) | exact pzr rfl rfl rfl (nrS hV _) (clS hV _) | exact pzr rfl rfl rfl (nrPair hV _) (clPair hV _) | (refine pz_go ?_; cbv) | (refine pinL_go ?_; cbv))) <;> (first | exact clI hV _ | exact clS hV _ | exact clPair hV _ | with_unfolding_all exact hV.rI _ | with_unfolding_all exact hV.rS _ | with_unfolding_all exact hV.rPair _ | with_unfolding_all exact hV.nI [] | with_unfolding_all exact (hV.nI []).symm | with_unfolding_all exact hV.nS [] | with_unfolding_all exact (hV.nS []).symm | with_unfolding_all exact hV.nPair [] | with_unfolding_all exact (hV.nPair []).symm | assumption | omega | rfl | with_unfolding_all exact (hV.nI _).trans (Eq.trans (by simp only [hV.nI] at *; omega) (hV.nI _).symm) | with_unfolding_all exact (hV.nS _).trans (Eq.trans (by simp only [hV.nS] at *; omega) (hV.nS _).symm) | with_unfolding_all exact (hV.nPair _).trans (Eq.trans (by simp only [hV.nPair] at *; omega) (hV.nPair _).symm) | simp [closedCell])) | fail) : PinnedZ e ns ps os := ⟨hs, ho⟩
section
variable {G : Glob} (hm : Hm) (hz : Hz) (hG : GF G)
include hm hz hG
set_option maxHeartbeats 8000000 in
theorem spec_flatOf.w {a1 : Int} {a2 : List Str} (inv0 : (List Int) → (Int × (List Pair)) → Prop) (mu0 : (List Int) → (Int × (List Pair)) → Nat) (res0 : (List Int) → (Int × (List Pair)) → Flat) (hb0 : ∀ (v5 : List Int), ∀ (s_ : Int × (List Pair)), inv0 v5 s_ → spec_flatOf.b0 a1 a2 v5 (LI (inv0 v5) (mu0 v5) (res0 v5) (mu0 v5 s_)) (res0 v5 s_) s_.1 s_.2 = some (res0 v5 s_)) {r : Flat} (H : spec_flatOf.f a1 a2 (fun v5 => EI (inv0 v5) (mu0 v5) (res0 v5)) r = some r) : FnOK pg G 107 [.agg [.int .i64 a1, .sl (a2.map eS)]] [] (.agg [.fr 1 ((r.places).map eI), .fr 2 ((r.names).map ePair)]) [] false := by
 obtain ⟨V, hV⟩ := exV
 have e0_I : V.rI [] = [] := hV.rI []
 have e1_I : ∀ x r, V.rI (x :: r) = eI x :: V.rI r := fun x r => by rw [hV.rI, hV.rI]; rfl
 have e0_S : V.rS [] = [] := hV.rS []
 have e1_S : ∀ x r, V.rS (x :: r) = eS x :: V.rS r := fun x r => by rw [hV.rS, hV.rS]; rfl
 have e0_Pair : V.rPair [] = [] := hV.rPair []
 have e1_Pair : ∀ x r, V.rPair (x :: r) = ePair x :: V.rPair r := fun x r => by rw [hV.rPair, hV.rPair]; rfl
 simp only [← hV.rI, ← hV.rS, ← hV.rPair]
 refine fn_ok (tt0 := tyG [ty3, ty4, ty9, ty39, ty45, ty47, ty68, ty70, ty136]) (fn := Tryz.f107) (body := bodyOf Tryz.f107) (ext := []) hm (tyG_sub ⟨tt3, tt4, tt9, tt39, tt45, tt47, tt68, tt70, tt136, trivial⟩) hz 0 true [] (by unfold pg; exact Tryz.func107) rfl rfl (by simp [Tryz.f107]) (by simp [EObj.toObj]) (by cbv) ?_
 intro A F hA hF
 unfold spec_flatOf.f at H
 cbv
 repeat' (first
  | (with_reducible refine s_gd H (fun hg H => ?_))
  | (cases H; (try simp only [e0_I, e0_S, e0_Pair, e1_I, eI, e1_S, eS, e1_Pair, ePair] at hF); with_reducible refine fin_ref hF rfl (by simp [expIds, posCells, C.cells, idOf]) ?_; cbv)
  | ((with_reducible first | refine s_lt H ?_ ?_ | refine s_le H ?_ ?_ | refine s_eq H ?_ ?_ | refine s_ne H ?_ ?_) <;> intro H <;> cbv)
  | with_reducible first
   | (refine s_ln H lnOf (fun _ H => ?_); cbv)
   | (refine s_ixS hV H (fun _ H => ?_); cbv)
   | (refine s_ar H (fun _ H => ?_); cbv)
   | (refine s_apI hV H (fun _ H => ?_); cbv)
   | (refine s_apL hV.rI hV.nI H (fun _ H => ?_); cbv)
   | (refine s_mkL hV.rI hV.nI (by cbv) H (fun _ H => ?_); cbv)
   | (refine s_apS hV H (fun _ H => ?_); cbv)
   | (refine s_apL hV.rS hV.nS H (fun _ H => ?_); cbv)
   | (refine s_mkL hV.rS hV.nS (by cbv) H (fun _ H => ?_); cbv)
   | (refine s_apPair hV H (fun _ H => ?_); cbv)
   | (refine s_apL hV.rPair hV.nPair H (fun _ H => ?_); cbv)
   | (refine s_mkL hV.rPair hV.nPair (by cbv) H (fun _ H => ?_); cbv)
   | (refine s_lv H (fun _ H => ?_); cbv)
   | (refine s_loop hA H (fun s h => hb0 _ s h) [1, 2, 3] [64, 128, 448] (fun e s => [(4, .int .i64 (s.1))]) (fun e s => [ovO e 192 [(1, .ref 512 0 2 0 (V.nPair (s.2)))], (512, ⟨0, true, 2, .many (V.rPair (s.2))⟩)]) [] pin_spec_flatOf nbOf ?_; rintro ⟨x33, x34⟩ H; unfold spec_flatOf.b0 at H; (try dsimp only at H); cbv)
  | (with_reducible refine s_next H pin_spec_flatOf nbOf)
  | (with_reducible refine indep_of hA ?_; cbv)
  | ((with_reducible refine side ?_); exact sideOf)
  | with_reducible first
   | (refine s_tkG hV.rI hV.nI ?_; cbv)
   | (refine s_tkG hV.rS hV.nS ?_; cbv)
   | (refine s_tkG hV.rPair hV.nPair ?_; cbv)
   | (refine s_tk1 ?_; cbv)
  | (with_reducible refine And.intro ?_ ?_)
  | (intro ys hys; subst hys; rfl)
  | rfl
  | (intro h_; cases h_; done)
  | (with_reducible refine s_pl ?_; with_unfolding_all simp [plainV, plainA, plainC, plRI hV, plRS hV, plRPair hV])
  | (intro ys hys; subst hys; cbv)
  | (intro ys hys; subst hys))
theorem spec_flatOf.ok {a1 : Int} {a2 : List Str} (hp : 0 ≤ a1 ∧ a1 ≤ 1000 ∧ a2.length ≤ 1000) : FnOK pg G 107 [.agg [.int .i64 a1, .sl (a2.map eS)]] [] (.agg [.fr 1 ((((fun (x : Shape) => flatV x.count x.names) ⟨a1, a2⟩).places).map eI), .fr 2 ((((fun (x : Shape) => flatV x.count x.names) ⟨a1, a2⟩).names).map ePair)]) [] false := by
 obtain ⟨p0, p1, p2⟩ := hp
 refine @spec_flatOf.w G hm hz hG a1 a2 (fun v s => v = List.replicate a1.toNat 0 ∧ 0 ≤ s.1 ∧ s.1 ≤ a2.length ∧ s.2 = (a2.take s.1.toNat).map fun x => ⟨x, 0⟩) (fun _ s => a2.length - s.1.toNat) (fun _ _ => flatV a1 a2) ?_ _ ?_
 ·rintro v ⟨i, out⟩ ⟨hv, h0, h1, h2⟩
  simp only at h0 h1 h2
  have hol : out.length ≤ a2.length := by rw [h2]; exact map_take_le
  simp only [spec_flatOf.b0]
  refine ln_ok fun hB => ?_
  refine ite_ok (fun h => ?_) (fun h => ?_)
  ·obtain ⟨x, hx⟩ : ∃ x, a2[i.toNat]? = some x := ⟨_, List.getElem?_eq_getElem (by omega)⟩
   rw [ixS_ok h0 hx, gd_ok (by omega)]
   simp only [lv]
   rw [arr_ok (by omega), LI_ok ⟨⟨hv, by simp only; omega, by simp only; omega, by simp only; rw [h2, map_take_snoc h0 hx]⟩, by simp only; omega⟩]
  ·rw [take_len (by omega)] at h2
   rw [hv, h2]; rfl
 ·simp only [spec_flatOf.f, lv]
  rw [gd_ok ⟨p0, by omega⟩, EI_ok ⟨by trivial, Int.le_refl 0, by simp only; omega, by trivial⟩]
end
end Go.Proofs.YtchpopejojghmaaGreatDoor.M
