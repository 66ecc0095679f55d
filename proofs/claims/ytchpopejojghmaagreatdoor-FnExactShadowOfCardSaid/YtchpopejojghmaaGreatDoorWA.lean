/- The first refused shape: the program. -/
import Derived.Test.YtchpopejojghmaaGreatDoorW9
set_option linter.unusedVariables false
set_option linter.unusedSimpArgs false
set_option linter.unusedSectionVars false
namespace Go.Proofs.YtchpopejojghmaaGreatDoor.M
open Go Go.Proofs
set_option maxRecDepth 100000
def trimR (s c : Str) : Str := Lib.trimRightB s (c.getD 0 0)
section
variable {G : Glob} (hm : Hm) (hz : Hz) (hG : GF G)
include hm hz hG
theorem strings_TrimRight.ok {a1 a2 : Str} (hp : a2 = [122] ∧ a1.length ≤ 1000000) : FnOK pg G 156 [.str ⟨⟨a1⟩⟩, .str ⟨⟨a2⟩⟩] [] (.str ⟨⟨trimR a1 a2⟩⟩) [] false := by
 obtain ⟨rfl, hl⟩ := hp
 have hlen : (trimR a1 [122]).length ≤ a1.length := by
  unfold trimR Lib.trimRightB
  rw [List.length_reverse]
  refine Nat.le_trans (List.Sublist.length_le (List.dropWhile_sublist _)) ?_
  rw [List.length_reverse]; exact Nat.le_refl _
 refine lib_ok (body := bodyOf Tryz.f156) (by unfold pg; exact Tryz.func156) rfl (by simp [Tryz.f156]) false rfl rfl rfl (fun _ => .str _ (by show (trimR a1 [122]).length ≤ bnd63; unfold bnd63; omega)) fun w g vals hg hB hsz hargs ha => ?_
 obtain rfl : vals = #[.string ⟨⟨a1⟩⟩, .string ⟨⟨[122]⟩⟩] := vals2 hsz (arg_str (hargs 0 _ rfl)) (arg_str (hargs 1 _ rfl))
 have hs : (⟨⟨a1⟩⟩ : ByteArray).size ≤ 9223372036854775807 := by show a1.length ≤ _; omega
 have h := Tryz.strings_TrimRight_one ⟨⟨a1⟩⟩ 122 (by decide) w hs
 unfold pg
 refine h.mono ?_
 rintro e w' ⟨he, rfl⟩
 exact ⟨_, he, .refl _ _, g0, fun _ => rfl, fun b hb => hb.elim, lvrS⟩
end
def on_LS_B {R : Type} (v : (List Str) × Bool) (f : (List Str) → Bool → Option R) : Option R := f (v.1) (v.2)
section
variable {A : Bx} {P : Program} {G : Glob} {rg : Option Nat} {own : Nat} {o : Nat → EObj} {g : FuncId} {vs : List C} {sh : Bool} {K : C → List (Nat × EObj) → Prop} {R : Type} {r : R} {V : Vx} {v : (List Str) × Bool} {f : (List Str) → Bool → Option R}
theorem s_cLS_B (hV : IsV V) (hA : IsBx true rg P G A) (H : on_LS_B v f = some r) (hok : FnOK P G g vs [] (.tup [.sl ((v.1).map eS), .bool (v.2)]) [] sh) (hc : vs.all closedArg = true) (h : ∀ c0 c1, f c0 c1 = some r → K (.tup [.sl (V.rS c0), .bool c1]) []) : A.call own o g vs K := by
 refine callT_plain hA hok hc ?_
 have := h (v.1) (v.2) H
 simp only [hV.rS] at this
 exact this
variable {U : List C → List Nat → (C → List (Nat × EObj) → Prop) → Prop} {bs : List C} {tops : List Nat}
end
section
variable {G : Glob} (hm : Hm) (hz : Hz) (hG : GF G)
include hm hz hG
end
noncomputable def slices_Concat_Param.b1 (a1 : List Prs) (v36 : Int) (h1 : (Int × (List Param)) → Option ((List Param))) (z_ : (List Param)) (x42 : Int) (x43 : List Param) : Option ((List Param)) := (if x42 < v36 then (ixPrs a1 x42 fun v51 => (gd ((x43.length + v51.length) * 40 ≤ 140737488355328) (lv (x43 ++ v51) fun v52 => (arr .i64 (x42 + 1) fun v53 => (h1 (v53, v52)))))) else (some x43))
noncomputable def slices_Concat_Param.b0 (a1 : List Prs) (v2 : Int) (h0 : (Int × Int) → Option ((List Param))) (h1 : Int → (Int × (List Param)) → Option ((List Param))) (z_ : (List Param)) (x7 : Int) (x8 : Int) : Option ((List Param)) := (if x8 < v2 then (ixPrs a1 x8 fun v13 => (ln' z_ (v13.length) fun v14 => (arr .i64 (x7 + v14) fun v15 => (if v15 < 0 then none else (arr .i64 (x8 + 1) fun v16 => (h0 (v15, v16))))))) else (gd (0 ≤ x7 ∧ x7 ≤ 1000000000) (lv ([] : List Param) fun v17 => (ln' z_ (a1.length) fun v36 => (h1 v36 (0, v17))))))
noncomputable def slices_Concat_Param.f (a1 : List Prs) (h0 : Int → (Int × Int) → Option ((List Param))) (z_ : (List Param)) : Option ((List Param)) := (ln' z_ (a1.length) fun v2 => (h0 v2 (0, 0)))
theorem pin_slices_Concat_Param {e : ESt} {ns : List (Nat × Nat)} {ps : List (Nat × C)} {os : List (Nat × EObj)} (hs : pinPZ (pinZ e.o (os.map Prod.fst) ns) e.s ps := by first | (cbv <;> (repeat' (first | trivial | refine And.intro ?_ ?_)) <;> (first | rfl | assumption | omega | exact clParam hV _ | exact clPrs hV _ | with_unfolding_all exact hV.nParam [] | with_unfolding_all exact (hV.nParam []).symm | with_unfolding_all exact hV.nPrs [] | with_unfolding_all exact (hV.nPrs []).symm | with_unfolding_all exact hV.rParam _ | with_unfolding_all exact hV.rPrs _ | with_unfolding_all exact (hV.nParam _).trans (Eq.trans (by simp only [hV.nParam] at *; omega) (hV.nParam _).symm) | with_unfolding_all exact (hV.nPrs _).trans (Eq.trans (by simp only [hV.nPrs] at *; omega) (hV.nPrs _).symm) | simp [closedCell])) | fail) (ho : ∀ B : (Nat → EObj) → List (List C) → List (List C) → Prop, (∀ o rows rows', rowsZ (pinZ o (os.map Prod.fst) ns) rows rows' → B o rows rows') → pinOZ (pinZ e.o (os.map Prod.fst) ns) B e.o ns os := by intro B hB; first | (cbv <;> (repeat' (first | trivial | refine And.intro ?_ ?_ | refine pin_same hB ?_ | refine pin_nil hB ?_ | refine pin_dirty hB (by assumption) (by assumption) ?_ ?_ | exact pinL_n | refine pinL_c ?_ ?_ | exact pzr rfl rfl rfl (nrParam hV _) (clParam hV _) | exact pzr rfl rfl rfl (nrPrs hV _) (clPrs hV _) | (refine pz_go ?_; cbv) | (refine pinL_go ?_; cbv))) <;> (first | exact clParam hV _ | exact clPrs hV _ | with_unfolding_all exact hV.rParam _ | with_unfolding_all exact hV.rPrs _ | with_unfolding_all exact hV.nParam [] | with_unfolding_all exact (hV.nParam []).symm | with_unfolding_all exact hV.nPrs [] | with_unfolding_all exact (hV.nPrs []).symm | assumption | omega | rfl | with_unfolding_all exact (hV.nParam _).trans (Eq.trans (by simp only [hV.nParam] at *; omega) (hV.nParam _).symm) | with_unfolding_all exact (hV.nPrs _).trans (Eq.trans (by simp only [hV.nPrs] at *; omega) (hV.nPrs _).symm) | simp [closedCell])) | fail) : PinnedZ e ns ps os := ⟨hs, ho⟩
section
variable {G : Glob} (hm : Hm) (hz : Hz) (hG : GF G)
include hm hz hG
set_option maxHeartbeats 8000000 in
theorem slices_Concat_Param.w {a1 : List Prs} (inv0 : Int → (Int × Int) → Prop) (mu0 : Int → (Int × Int) → Nat) (res0 : Int → (Int × Int) → (List Param)) (inv1 : Int → (Int × (List Param)) → Prop) (mu1 : Int → (Int × (List Param)) → Nat) (res1 : Int → (Int × (List Param)) → (List Param)) (hb0 : ∀ (v2 : Int), ∀ (s_ : Int × Int), inv0 v2 s_ → slices_Concat_Param.b0 a1 v2 (LI (inv0 v2) (mu0 v2) (res0 v2) (mu0 v2 s_)) (fun v36 => EI (inv1 v36) (mu1 v36) (res1 v36)) (res0 v2 s_) s_.1 s_.2 = some (res0 v2 s_)) (hb1 : ∀ (v36 : Int), ∀ (s_ : Int × (List Param)), inv1 v36 s_ → slices_Concat_Param.b1 a1 v36 (LI (inv1 v36) (mu1 v36) (res1 v36) (mu1 v36 s_)) (res1 v36 s_) s_.1 s_.2 = some (res1 v36 s_)) {r : (List Param)} (H : slices_Concat_Param.f a1 (fun v2 => EI (inv0 v2) (mu0 v2) (res0 v2)) r = some r) : FnOK pg G 155 [.sl (a1.map ePrs)] [] (.fr 4 (r.map eParam)) [] false := by
 obtain ⟨V, hV⟩ := exV
 have e0_Param : V.rParam [] = [] := hV.rParam []
 have e1_Param : ∀ x r, V.rParam (x :: r) = eParam x :: V.rParam r := fun x r => by rw [hV.rParam, hV.rParam]; rfl
 have e0_Prs : V.rPrs [] = [] := hV.rPrs []
 simp only [← hV.rParam, ← hV.rPrs]
 refine fn_ok (tt0 := tyG [ty3, ty4, ty9, ty27, ty65, ty189]) (fn := Tryz.f155) (body := bodyOf Tryz.f155) (ext := []) hm (tyG_sub ⟨tt3, tt4, tt9, tt27, tt65, tt189, trivial⟩) hz 0 true [] (by unfold pg; exact Tryz.func155) rfl rfl (by simp [Tryz.f155]) (by simp [EObj.toObj]) (by cbv) ?_
 intro A F hA hF
 unfold slices_Concat_Param.f at H
 cbv
 repeat' (first
  | with_reducible first
   | (refine s_inlSort hA hV (by with_unfolding_all rfl) (by first | (with_unfolding_all exact hV.nS _) | (with_unfolding_all exact (Eq.symm (by assumption)).trans (hV.nS _))) (by assumption) H (fun _ hs_ H => ?_); cbv)
   | (refine s_inlCompact hA hV (by with_unfolding_all rfl) (by first | (with_unfolding_all exact hV.nS _) | (with_unfolding_all exact (Eq.symm (by assumption)).trans (hV.nS _))) (by assumption) H (fun _ _ hc_ H => ?_); cbv)
   | (refine s_inlGrowS hA hV (by assumption) H (fun _ H => ?_); cbv)
   | (refine s_inlGrowParam hA hV (by assumption) H (fun _ H => ?_); cbv)
   | (refine s_tkH hV.rParam hV.nParam (by assumption) ?_; cbv)
   | (refine s_tkC hV.rParam hV.nParam (by assumption) ?_; cbv)
  | ((with_reducible refine side ?_); with_unfolding_all first | exact s_cle hV.rParam hV.nParam (by assumption) | exact s_cle0 hV.rParam hV.nParam (by assumption))
  | with_reducible first
   | (refine s_tkH hV.rPrs hV.nPrs (by assumption) ?_; cbv)
   | (refine s_tkC hV.rPrs hV.nPrs (by assumption) ?_; cbv)
  | ((with_reducible refine side ?_); with_unfolding_all first | exact s_cle hV.rPrs hV.nPrs (by assumption) | exact s_cle0 hV.rPrs hV.nPrs (by assumption))
  | (with_reducible refine s_gd H (fun hg H => ?_))
  | (cases H; (try simp only [e0_Param, e0_Prs, e1_Param, eParam] at hF); with_reducible refine fin_ref hF rfl (by simp [expIds, posCells, C.cells, idOf]) ?_; cbv)
  | (cases H; done)
  | ((with_reducible first | refine s_lt H ?_ ?_ | refine s_le H ?_ ?_ | refine s_eq H ?_ ?_ | refine s_ne H ?_ ?_) <;> intro H <;> cbv)
  | with_reducible first
   | (refine s_ln H lnOf (fun _ H => ?_); cbv)
   | (refine s_ixPrs hV H (fun _ H => ?_); cbv)
   | (refine s_ar H (fun _ H => ?_); cbv)
   | (refine s_apParam hV H (fun _ H => ?_); cbv)
   | (refine s_apL hV.rParam hV.nParam H (fun _ H => ?_); cbv)
   | (refine s_bnParam hV H (fun _ H => ?_); cbv)
   | (refine s_ap0 hV.rParam hV.nParam (by first | exact (hV.rParam _).symm | (simp [eParam]; rfl) | (simp [eParam]; done)) H (fun _ H => ?_); cbv)
   | (refine s_apPrs hV H (fun _ H => ?_); cbv)
   | (refine s_apL hV.rPrs hV.nPrs H (fun _ H => ?_); cbv)
   | (refine s_apZPrs hV H (fun _ _ H hk_ zs_ hd_ => ?_); cbv)
   | (refine s_bnZPrs hV H (fun _ _ H hk_ zs_ hd_ => ?_); cbv)
   | (refine s_a0ZPrs hV H (fun _ _ H hk_ zs_ hd_ => ?_); cbv)
   | (refine s_bnPrs hV H (fun _ H => ?_); cbv)
   | (refine s_ap0 hV.rPrs hV.nPrs (by first | exact (hV.rPrs _).symm | (simp [ePrs]; rfl) | (simp [ePrs]; done)) H (fun _ H => ?_); cbv)
   | (refine s_lv H (fun _ H => ?_); cbv)
   | (refine s_loop hA H (fun s h => hb0 _ s h) [0, 9, 10] [] (fun e s => [(3, .int .i64 (s.1)), (11, .int .i64 (s.2))]) (fun e s => []) [] pin_slices_Concat_Param nbOf ?_; rintro ⟨x7, x8⟩ H; unfold slices_Concat_Param.b0 at H; (try dsimp only at H); cbv)
   | (refine s_loop hA H (fun s h => hb1 _ s h) [25, 26] [] (fun e s => [(27, .int .i64 (s.1)), (6, .ref 1536 0 4 0 (V.nParam (s.2)))]) (fun e s => [(1536, ⟨0, true, 4, .many (V.rParam (s.2))⟩)]) [] pin_slices_Concat_Param nbOf ?_; rintro ⟨x42, x43⟩ H; unfold slices_Concat_Param.b1 at H; (try dsimp only at H); cbv)
  | (with_reducible refine s_next H pin_slices_Concat_Param nbOf)
  | (with_reducible refine indep_of hA ?_; cbv)
  | ((with_reducible refine side ?_); exact sideOf)
  | with_reducible first
   | (refine s_tkG hV.rParam hV.nParam ?_; cbv)
   | (refine s_tkG hV.rPrs hV.nPrs ?_; cbv)
   | (refine s_tk1 ?_; cbv)
  | (with_reducible refine And.intro ?_ ?_)
  | (intro ys hys; subst hys; rfl)
  | rfl
  | (intro h_; cases h_; done)
  | (with_reducible refine s_pl ?_; with_unfolding_all simp [plainV, plainA, plainC, plRParam hV])
  | (intro ys hys; subst hys))
theorem slices_Concat_Param.ok {a1 : List Prs} (hp : a1.length ≤ 10 ∧ ∀ t ∈ a1, t.list.length ≤ 1000) : FnOK pg G 155 [.sl (a1.map ePrs)] [] (.fr 4 ((((fun (l : List Prs) => l.flatMap (·.list)) a1)).map eParam)) [] false := by
 obtain ⟨p1, p2⟩ := hp
 have bnd : ∀ l : List Prs, (∀ t ∈ l, t.list.length ≤ 1000) → (l.flatMap (·.list)).length ≤ 1000 * l.length := by
  intro l
  induction l with
  | nil => intro _; simp
  | cons t r ih =>
   intro h
   have h1 := h t (by simp)
   have h2 := ih fun x hx => h x (by simp [hx])
   rw [List.flatMap_cons, List.length_append, List.length_cons]; omega
 have bt : ∀ k : Nat, ((a1.take k).flatMap (·.list)).length ≤ 10000 := fun k => by
  have := bnd (a1.take k) fun t ht => p2 t (List.mem_of_mem_take ht)
  have h2 : (a1.take k).length ≤ 10 := by rw [List.length_take]; omega
  omega
 refine @slices_Concat_Param.w G hm hz hG a1 (fun v s => v = a1.length ∧ 0 ≤ s.2 ∧ s.2 ≤ a1.length ∧ s.1 = ((a1.take s.2.toNat).flatMap (·.list)).length) (fun _ s => a1.length - s.2.toNat) (fun _ _ => a1.flatMap (·.list))
  (fun v s => v = a1.length ∧ 0 ≤ s.1 ∧ s.1 ≤ a1.length ∧ s.2 = (a1.take s.1.toNat).flatMap (·.list)) (fun _ s => a1.length - s.1.toNat) (fun _ _ => a1.flatMap (·.list)) ?_ ?_ _ ?_
 ·rintro v ⟨n, i⟩ ⟨hv, h0, h1, hn⟩
  simp only at h0 h1 hn
  simp only [slices_Concat_Param.b0]
  have hb := bt i.toNat
  refine ite_ok (fun h => ?_) (fun h => ?_)
  ·obtain ⟨t, ht⟩ : ∃ t, a1[i.toNat]? = some t := ⟨_, List.getElem?_eq_getElem (by omega)⟩
   have h2 := p2 t (List.mem_of_getElem? ht)
   rw [ixPrs_ok h0 ht]
   refine ln_ok fun _ => ?_
   have en : n + (t.list.length : Int) = (((a1.take (i + 1).toNat).flatMap (·.list)).length : Int) := by
    rw [show (i + 1).toNat = i.toNat + 1 by omega, take_snoc ht, List.flatMap_append, List.length_append, hn]; simp
   rw [arr_ok (by omega), if_neg (by omega), arr_ok (by omega), LI_ok ⟨⟨hv, by simp only; omega, by simp only; omega, en⟩, by simp only; omega⟩]
  ·rw [gd_ok (by omega)]
   simp only [lv]
   refine ln_ok fun _ => ?_
   rw [EI_ok ⟨rfl, Int.le_refl 0, by simp only; omega, by simp⟩]
 ·rintro v ⟨i, out⟩ ⟨hv, h0, h1, ho⟩
  simp only at h0 h1 ho
  simp only [slices_Concat_Param.b1]
  have hb := bt i.toNat
  refine ite_ok (fun h => ?_) (fun h => ?_)
  ·obtain ⟨t, ht⟩ : ∃ t, a1[i.toNat]? = some t := ⟨_, List.getElem?_eq_getElem (by omega)⟩
   have h2 := p2 t (List.mem_of_getElem? ht)
   rw [ixPrs_ok h0 ht, gd_ok (by rw [ho]; omega)]
   simp only [lv]
   have en : out ++ t.list = (a1.take (i + 1).toNat).flatMap (·.list) := by
    rw [show (i + 1).toNat = i.toNat + 1 by omega, take_snoc ht, List.flatMap_append, ho]; simp
   rw [arr_ok (by omega), LI_ok ⟨⟨hv, by simp only; omega, by simp only; omega, en⟩, by simp only; omega⟩]
  ·rw [take_len (by omega)] at ho
   rw [ho]
 ·simp only [slices_Concat_Param.f]
  refine ln_ok fun _ => ?_
  rw [EI_ok ⟨rfl, Int.le_refl 0, by simp only; omega, by simp⟩]
end
theorem enc_abc : ∀ k : Nat, k < 25 → (Utf8.encode (((98 + k : Nat) : Int))).data.toList = [UInt8.ofNat (98 + k)] := by decide
theorem next_parts : ∀ k : Nat, k < 40 → ∀ s, gens[k]? = some s → ¬ (s.length : Int) < 6 → ∃ r b, trimR s [122] = r ++ [b] ∧ 97 ≤ b.toNat ∧ b.toNat < 122 ∧ nextName s = r ++ [b + 1] := by
 intro k hk s hs hl
 have hn := gens_name s (List.mem_of_getElem? hs)
 have key : ∀ k : Nat, k < 40 → (gens[k]?.any fun s => decide (s.length < 6) || (s.reverse.dropWhile fun b => b == 122) != []) = true := by decide
 have hk2 := key k hk
 rw [hs] at hk2
 simp only [Option.any_some, Bool.or_eq_true, decide_eq_true_eq, bne_iff_ne] at hk2
 have hne := hk2.resolve_left (by omega)
 cases e : s.reverse.dropWhile (fun b => b == 122) with
 | nil => exact absurd e hne
 | cons b r =>
  have hb : b ≠ 122 := by
   intro h
   have := List.head?_dropWhile_not (fun b => b == 122) s.reverse
   rw [e] at this
   simp [h] at this
  have hm : b ∈ s := by
   have : b ∈ s.reverse := List.dropWhile_subset _ (by rw [e]; simp)
   simpa using this
  have hr := name_b hn b hm
  have h3 : b.toNat ≠ 122 := fun h => hb (by rw [← UInt8.toNat_inj]; exact h)
  refine ⟨r.reverse, b, ?_, hr.1, by omega, ?_⟩
  ·unfold trimR Lib.trimRightB
   show ((s.reverse.dropWhile fun x => x == 122)).reverse = _
   rw [e]; simp
  ·rw [nextName, if_neg (by omega)]
   show (match s.reverse.dropWhile (fun b => b == 122) with | [] => [] | b :: r => r.reverse ++ [b + 1]) = _
   rw [e]
section
variable {A : Bx} {P : Program} {G : Glob} {rg : Option Nat} {own : Nat} {o : Nat → EObj} {g : FuncId} {vs : List C} {sh : Bool} {K : C → List (Nat × EObj) → Prop} {R : Type} {r : R} {V : Vx} {v : (List Param)} {f : (List Param) → Option R}
theorem s_cFLParam (hV : IsV V) (hA : IsBx true rg P G A) (H : on_LParam v f = some r) (hok : FnOK P G g vs [] (.fr 4 (v.map eParam)) [] sh) (hc : vs.all closedArg = true) (h : ∀ c0, f c0 = some r → K (.ref (own + 0) ((o (own + 0)).gen + 1) 4 0 (V.nParam c0)) [(own + 0, ⟨(o (own + 0)).gen + 1, true, 4, .many (V.rParam c0)⟩)]) : A.call own o g vs K := by
 refine callT_plain hA hok hc ?_
 have := h (v) H
 rw [show V.nParam (v) = ((v).map eParam).length by rw [hV.nParam, List.length_map]] at this
 simp only [hV.rParam] at this
 exact this
theorem s_rFLParam {U : List C → List EObj → (C → List (Nat × EObj) → Prop) → Prop} {bs : List C} {ext : List EObj} (hU : U = callR P G own o g) (hV : IsV V) (H : on_LParam v f = some r) (hok : FnOK P G g bs (ext.map EObj.toObj) (.fr 4 (v.map eParam)) (ext.map EObj.toObj) false) (h : ∀ c0, f c0 = some r → K (.ref (own + 0) ((o (own + 0)).gen + 1) 4 0 (V.nParam c0)) [(own + 0, ⟨(o (own + 0)).gen + 1, true, 4, .many (V.rParam c0)⟩)]) : U bs ext K := by
 refine callR_of hU hok ?_
 have := h (v) H
 rw [show V.nParam (v) = ((v).map eParam).length by rw [hV.nParam, List.length_map]] at this
 simp only [hV.rParam] at this
 exact this
variable {U : List C → List Nat → (C → List (Nat × EObj) → Prop) → Prop} {bs : List C} {tops : List Nat}
end
noncomputable def impl_someNames.b1 (a1 : List Param) (a2 : List Param)  (h1 : (Str × Int × (List Str)) → Option ((List Str))) (z_ : (List Str)) (x264 : Str) (x265 : Int) (x266 : List Str) : Option ((List Str)) := (if x265 < 40 then (gd ((x266.length + 1) * 16 ≤ 140737488355328) (lv (x266 ++ [x264]) fun v309 => (ln' z_ (x264.length) fun v310 => (if v310 < 6 then (gd (x264.length + ([97]).length ≤ 9223372036854775807) (lv (x264 ++ [97]) fun v311 => (arr .i64 (x265 + 1) fun v312 => (h1 (v311, v312, v309))))) else (gd ((([122] : Str)) = [122] ∧ x264.length ≤ 1000000) (lv (trimR x264 ([122])) fun v313 => (ln' z_ (v313.length) fun v314 => (arr .i64 (v314 - 1) fun v315 => (gd (0 ≤ v315 ∧ v315.toNat ≤ v313.length) (lv (v313.take v315.toNat) fun v316 => (bt v313 v315 fun v317 => (arr .u8 (v317 + 1) fun v318 => (arr .i32 (v318) fun v319 => (lv ((Utf8.encode v319).data.toList) fun v320 => (gd (v316.length + v320.length ≤ 9223372036854775807) (lv (v316 ++ v320) fun v321 => (arr .i64 (x265 + 1) fun v322 => (h1 (v321, v322, v309))))))))))))))))))) else (gd (okU x266 ∧ okU ([])) (on_LS ((fun (a b : List Str) => sortT (a ++ b)) x266 ([])) fun v323 => (some v323))))
noncomputable def impl_someNames.b0 (a1 : List Param) (a2 : List Param) (v76 : List Param) (v77 : Int) (h0 : (Int × (List Str)) → Option ((List Str))) (h1 : (Str × Int × (List Str)) → Option ((List Str))) (z_ : (List Str)) (x101 : Int) (x102 : List Str) : Option ((List Str)) := (if x101 < v77 then (ia v76.length x101 fun j142 => (rnParam v76 j142 fun v143 v144 v145 v146 => (gd ((x102.length + 1) * 16 ≤ 140737488355328) (lv (x102 ++ [v143]) fun v147 => (arr .i64 (x101 + 1) fun v148 => (h0 (v148, v147))))))) else (h1 ([97], 0, x102)))
noncomputable def impl_someNames.f (a1 : List Param) (a2 : List Param) (h0 : (List Param) → Int → (Int × (List Str)) → Option ((List Str))) (z_ : (List Str)) : Option ((List Str)) := (gd ((([⟨a1⟩, ⟨a2⟩] : List Prs)).length ≤ 10 ∧ ∀ t ∈ (([⟨a1⟩, ⟨a2⟩] : List Prs)), t.list.length ≤ 1000) (on_LParam ((fun (l : List Prs) => l.flatMap (·.list)) ([⟨a1⟩, ⟨a2⟩])) fun v76 => (ln' z_ (v76.length) fun v77 => (h0 v76 v77 (0, [])))))
theorem pin_impl_someNames {e : ESt} {ns : List (Nat × Nat)} {ps : List (Nat × C)} {os : List (Nat × EObj)} (hs : pinPZ (pinZ e.o (os.map Prod.fst) ns) e.s ps := by first | (cbv <;> (repeat' (first | trivial | refine And.intro ?_ ?_)) <;> (first | rfl | assumption | omega | exact clS hV _ | exact clParam hV _ | exact clPrs hV _ | with_unfolding_all exact hV.nS [] | with_unfolding_all exact (hV.nS []).symm | with_unfolding_all exact hV.nParam [] | with_unfolding_all exact (hV.nParam []).symm | with_unfolding_all exact hV.nPrs [] | with_unfolding_all exact (hV.nPrs []).symm | with_unfolding_all exact hV.rS _ | with_unfolding_all exact hV.rParam _ | with_unfolding_all exact hV.rPrs _ | with_unfolding_all exact (hV.nS _).trans (Eq.trans (by simp only [hV.nS] at *; omega) (hV.nS _).symm) | with_unfolding_all exact (hV.nParam _).trans (Eq.trans (by simp only [hV.nParam] at *; omega) (hV.nParam _).symm) | with_unfolding_all exact (hV.nPrs _).trans (Eq.trans (by simp only [hV.nPrs] at *; omega) (hV.nPrs _).symm) | simp [closedCell])) | fail) (ho : ∀ B : (Nat → EObj) → List (List C) → List (List C) → Prop, (∀ o rows rows', rowsZ (pinZ o (os.map Prod.fst) ns) rows rows' → B o rows rows') → pinOZ (pinZ e.o (os.map Prod.fst) ns) B e.o ns os := by intro B hB; first | (cbv <;> (repeat' (first | trivial | refine And.intro ?_ ?_ | refine pin_same hB ?_ | refine pin_nil hB ?_ | refine pin_dirty hB (by assumption) (by assumption) ?_ ?_ | exact pinL_n | refine pinL_c ?_ ?_ | exact pzr rfl rfl rfl (nrS hV _) (clS hV _) | exact pzr rfl rfl rfl (nrParam hV _) (clParam hV _) | exact pzr rfl rfl rfl (nrPrs hV _) (clPrs hV _) | (refine pz_go ?_; cbv) | (refine pinL_go ?_; cbv))) <;> (first | exact clS hV _ | exact clParam hV _ | exact clPrs hV _ | with_unfolding_all exact hV.rS _ | with_unfolding_all exact hV.rParam _ | with_unfolding_all exact hV.rPrs _ | with_unfolding_all exact hV.nS [] | with_unfolding_all exact (hV.nS []).symm | with_unfolding_all exact hV.nParam [] | with_unfolding_all exact (hV.nParam []).symm | with_unfolding_all exact hV.nPrs [] | with_unfolding_all exact (hV.nPrs []).symm | assumption | omega | rfl | with_unfolding_all exact (hV.nS _).trans (Eq.trans (by simp only [hV.nS] at *; omega) (hV.nS _).symm) | with_unfolding_all exact (hV.nParam _).trans (Eq.trans (by simp only [hV.nParam] at *; omega) (hV.nParam _).symm) | with_unfolding_all exact (hV.nPrs _).trans (Eq.trans (by simp only [hV.nPrs] at *; omega) (hV.nPrs _).symm) | simp [closedCell])) | fail) : PinnedZ e ns ps os := ⟨hs, ho⟩
section
variable {G : Glob} (hm : Hm) (hz : Hz) (hG : GF G)
include hm hz hG
set_option maxHeartbeats 8000000 in
theorem impl_someNames.w {a1 : List Param} {a2 : List Param} (inv0 : (List Param) → Int → (Int × (List Str)) → Prop) (mu0 : (List Param) → Int → (Int × (List Str)) → Nat) (res0 : (List Param) → Int → (Int × (List Str)) → (List Str)) (inv1 : (Str × Int × (List Str)) → Prop) (mu1 : (Str × Int × (List Str)) → Nat) (res1 : (Str × Int × (List Str)) → (List Str)) (hb0 : ∀ (v76 : List Param), ∀ (v77 : Int), ∀ (s_ : Int × (List Str)), inv0 v76 v77 s_ → impl_someNames.b0 a1 a2 v76 v77 (LI (inv0 v76 v77) (mu0 v76 v77) (res0 v76 v77) (mu0 v76 v77 s_)) (EI (inv1 ) (mu1 ) (res1 )) (res0 v76 v77 s_) s_.1 s_.2 = some (res0 v76 v77 s_)) (hb1 : ∀ (s_ : Str × Int × (List Str)), inv1  s_ → impl_someNames.b1 a1 a2  (LI (inv1 ) (mu1 ) (res1 ) (mu1  s_)) (res1  s_) s_.1 s_.2.1 s_.2.2 = some (res1  s_)) {r : (List Str)} (H : impl_someNames.f a1 a2 (fun v76 v77 => EI (inv0 v76 v77) (mu0 v76 v77) (res0 v76 v77)) r = some r) : FnOK pg G 112 [.agg [.sl (a1.map eParam)], .agg [.sl (a2.map eParam)]] [] (.sl (r.map eS)) [] true := by
 obtain ⟨V, hV⟩ := exV
 have e0_S : V.rS [] = [] := hV.rS []
 have e1_S : ∀ x r, V.rS (x :: r) = eS x :: V.rS r := fun x r => by rw [hV.rS, hV.rS]; rfl
 have e0_Param : V.rParam [] = [] := hV.rParam []
 have e1_Param : ∀ x r, V.rParam (x :: r) = eParam x :: V.rParam r := fun x r => by rw [hV.rParam, hV.rParam]; rfl
 have e0_Prs : V.rPrs [] = [] := hV.rPrs []
 simp only [← hV.rS, ← hV.rParam, ← hV.rPrs]
 refine fn_okS (tt0 := tyG [ty3, ty4, ty5, ty9, ty21, ty27, ty29, ty65, ty68, ty189]) (fn := Tryz.f112) (body := bodyOf Tryz.f112) (ext := []) hm (tyG_sub ⟨tt3, tt4, tt5, tt9, tt21, tt27, tt29, tt65, tt68, tt189, trivial⟩) hz 0 [] (by unfold pg; exact Tryz.func112) rfl rfl (by simp [Tryz.f112]) (by simp [EObj.toObj]) (by cbv) ?_
 intro A F hA hF
 unfold impl_someNames.f at H
 cbv
 repeat' (first
  | (with_reducible refine s_gd H (fun hg H => ?_))
  | (cases H; (try simp only [e0_S, e0_Param, e0_Prs, e1_S, eS, e1_Param, eParam] at hF); with_reducible refine fin_close hF rfl (by simp [expIds, posCells, C.cells, idOf]) ?_; cbv)
  | ((with_reducible first | refine s_lt H ?_ ?_ | refine s_le H ?_ ?_ | refine s_eq H ?_ ?_ | refine s_ne H ?_ ?_) <;> intro H <;> cbv)
  | with_reducible first
   | (refine s_ln H lnOf (fun _ H => ?_); cbv)
   | (refine s_rnParam hV H (fun _ _ _ _ H => ?_); cbv)
   | (refine s_ia H lnOf (fun _ H => ?_); cbv)
   | (refine s_bt H (fun _ H => ?_); cbv)
   | (refine s_ar H (fun _ H => ?_); cbv)
   | (refine s_apS hV H (fun _ H => ?_); cbv)
   | (refine s_apL hV.rS hV.nS H (fun _ H => ?_); cbv)
   | (refine s_tkL hV.rS H (fun _ H => ?_); cbv)
   | (refine s_tdL hV.rS H (fun _ H => ?_); cbv)
   | (refine s_tkLn hV.rS (by with_unfolding_all rfl) H (fun _ H => ?_); cbv)
   | (refine s_apParam hV H (fun _ H => ?_); cbv)
   | (refine s_apL hV.rParam hV.nParam H (fun _ H => ?_); cbv)
   | (refine s_tkL hV.rParam H (fun _ H => ?_); cbv)
   | (refine s_tdL hV.rParam H (fun _ H => ?_); cbv)
   | (refine s_tkLn hV.rParam (by with_unfolding_all rfl) H (fun _ H => ?_); cbv)
   | (refine s_apPrs hV H (fun _ H => ?_); cbv)
   | (refine s_apL hV.rPrs hV.nPrs H (fun _ H => ?_); cbv)
   | (refine s_apZPrs hV H (fun _ _ H hk_ zs_ hd_ => ?_); cbv)
   | (refine s_bnZPrs hV H (fun _ _ H hk_ zs_ hd_ => ?_); cbv)
   | (refine s_a0ZPrs hV H (fun _ _ H hk_ zs_ hd_ => ?_); cbv)
   | (refine s_tkL hV.rPrs H (fun _ H => ?_); cbv)
   | (refine s_tdL hV.rPrs H (fun _ H => ?_); cbv)
   | (refine s_tkLn hV.rPrs (by with_unfolding_all rfl) H (fun _ H => ?_); cbv)
   | (refine s_lv H (fun _ H => ?_); cbv)
   | (refine s_loop hA H (fun s h => hb0 _ _ s h) [16, 17] [1024] (fun e s => [(18, .int .i64 (s.1)), (5, .ref 1664 0 1 0 (V.nS (s.2)))]) (fun e s => [(1664, ⟨0, true, 1, .many (V.rS (s.2))⟩)]) [(1664, 1)] pin_impl_someNames nbOf ?_; rintro ⟨x101, x102⟩ H; unfold impl_someNames.b0 at H; (try dsimp only at H); cbv)
   | (refine s_loop hA H (fun s h => hb1  s h) [] [] (fun e s => [(8, .str ⟨⟨(s.1)⟩⟩), (28, .int .i64 (s.2.1)), (5, .ref 1664 0 1 0 (V.nS (s.2.2)))]) (fun e s => [(1664, ⟨0, true, 1, .many (V.rS (s.2.2))⟩)]) [] pin_impl_someNames nbOf ?_; rintro ⟨x264, x265, x266⟩ H; unfold impl_someNames.b1 at H; (try dsimp only at H); cbv)
  | (with_reducible refine s_next H pin_impl_someNames nbOf)
  | with_reducible first
   | (refine s_cFLParam hV hA H (by (try simp only [hV.rS, hV.rParam, hV.rPrs]); (first | (have hk_ := slices_Concat_Param.ok hm hz hG hg; with_unfolding_all exact hk_) | (with_unfolding_all exact slices_Concat_Param.ok hm hz hG (by first | assumption | omega)))) rfl (fun _ H => ?_); cbv)
   | (refine s_rFLParam (by assumption) hV H (by (try simp only [hV.rS, hV.rParam, hV.rPrs]); (first | (have hk_ := slices_Concat_Param.ok hm hz hG hg; with_unfolding_all exact hk_) | (with_unfolding_all exact slices_Concat_Param.ok hm hz hG (by first | assumption | omega)))) (fun _ H => ?_); cbv)
   | (refine callT_cl (g := 155) hA (fun U hU => ?_); cbv)
   | (refine s_cs hA H (by (try simp only [hV.rS, hV.rParam, hV.rPrs]); with_unfolding_all exact strings_TrimRight.ok hm hz hG (by first | assumption | omega)) rfl (fun _ H => ?_); cbv)
   | (refine s_cLS hV hA H (by (try simp only [hV.rS, hV.rParam, hV.rPrs]); (first | (have hk_ := impl_union.ok hm hz hG hg; with_unfolding_all exact hk_) | (with_unfolding_all exact impl_union.ok hm hz hG (by first | assumption | omega)))) rfl (fun _ H => ?_); cbv)
   | (refine s_tLS (by assumption) hV H (by (try simp only [hV.rS, hV.rParam, hV.rPrs]); (first | (have hk_ := impl_union.ok hm hz hG hg; with_unfolding_all exact hk_) | (with_unfolding_all exact impl_union.ok hm hz hG (by first | assumption | omega)))) (by first | (cbv <;> (repeat' (first | trivial | refine And.intro ?_ ?_)) <;> (first | rfl | exact clS hV _ | with_unfolding_all exact clParam hV _ | with_unfolding_all exact clPrs hV _ | simp [closedCell])) | fail) (fun _ H => ?_); cbv)
   | (refine s_wLS (g := 103) hA H rfl (fun U hU => ?_); cbv)
   | (refine indep_of hA ?_; cbv)
  | ((with_reducible refine side ?_); exact sideOf)
  | with_reducible first
   | (refine s_tkG hV.rS hV.nS ?_; cbv)
   | (refine s_tkG hV.rParam hV.nParam ?_; cbv)
   | (refine s_tkG hV.rPrs hV.nPrs ?_; cbv)
   | (refine s_tkP hV.rS ?_; cbv)
   | (refine s_drP hV.rS hV.nS ?_; cbv)
   | (refine s_tkP hV.rParam ?_; cbv)
   | (refine s_drP hV.rParam hV.nParam ?_; cbv)
   | (refine s_tkP hV.rPrs ?_; cbv)
   | (refine s_drP hV.rPrs hV.nPrs ?_; cbv)
   | (refine s_eqn ?_; cbv)
   | (refine s_eqn2 ?_; cbv)
   | (refine s_tk1 ?_; cbv)
   | (refine s_eqL ?_; cbv)
  | (with_reducible refine And.intro ?_ ?_)
  | (intro ys hys; subst hys; rfl)
  | rfl)
theorem impl_someNames.ok {a1 : List Param} {a2 : List Param} (hp : VN a1 ∧ VN a2) : FnOK pg G 112 [.agg [.sl (a1.map eParam)], .agg [.sl (a2.map eParam)]] [] (.sl ((((fun (a b : Sig) => sortT (parNames a.params b.params ++ gens)) ⟨a1⟩ ⟨a2⟩)).map eS)) [] true := by
 obtain ⟨va, vb⟩ := hp
 have la := va.len
 have lb := vb.len
 have lp := parNames_len va vb
 have hokU : ∀ l : List Str, (∀ s ∈ l, isName s = true) → l.length ≤ 100 → okU l := fun l h1 h2 => ⟨by omega, fun s hs => by have := name_l (h1 s hs); omega⟩
 refine @impl_someNames.w G hm hz hG a1 a2
  (fun l v s => l = a1 ++ a2 ∧ v = l.length ∧ 0 ≤ s.1 ∧ s.1 ≤ l.length ∧ s.2 = (l.take s.1.toNat).map (·.name)) (fun l _ s => l.length - s.1.toNat) (fun _ _ _ => sortT (parNames a1 a2 ++ gens))
  (fun s => 0 ≤ s.2.1 ∧ s.2.1 ≤ 40 ∧ (s.2.1 < 40 → gens[s.2.1.toNat]? = some s.1) ∧ s.2.2 = parNames a1 a2 ++ gens.take s.2.1.toNat) (fun s => 40 - s.2.1.toNat) (fun _ => sortT (parNames a1 a2 ++ gens)) ?_ ?_ _ ?_
 ·rintro l v ⟨i, out⟩ ⟨hl, hv, h0, h1, ho⟩
  simp only at h0 h1 ho
  have hll : l.length ≤ 16 := by rw [hl, List.length_append]; omega
  have hol : out.length ≤ l.length := by rw [ho]; exact map_take_le
  simp only [impl_someNames.b0]
  refine ite_ok (fun h => ?_) (fun h => ?_)
  ·obtain ⟨p, hp⟩ : ∃ p, l[i.toNat]? = some p := ⟨_, List.getElem?_eq_getElem (by omega)⟩
   rw [ia_ok (by omega), rnParam_ok hp, gd_ok (by omega)]
   simp only [lv]
   rw [arr_ok (by omega), LI_ok ⟨⟨hl, hv, by simp only; omega, by simp only; omega, by simp only; rw [ho, ← map_take_snoc (f := fun p : Param => p.name) h0 hp]⟩, by simp only; omega⟩]
  ·rw [take_len (by omega)] at ho
   rw [EI_ok ⟨Int.le_refl 0, by simp only; omega, fun _ => rfl, by simp only [Int.toNat_zero, List.take_zero, List.append_nil]; rw [ho, hl, List.map_append]; rfl⟩]
 ·rintro ⟨nm, i, out⟩ ⟨h0, h1, hn, ho⟩
  simp only at h0 h1 hn ho
  have hol : out.length ≤ 56 := by
   rw [ho, List.length_append, List.length_take, gens_len]; omega
  simp only [impl_someNames.b1]
  refine ite_ok (fun h => ?_) (fun h => ?_)
  ·have hg := hn h
   have hnm := gens_name nm (List.mem_of_getElem? hg)
   have hnl := name_l hnm
   have eo : out ++ [nm] = parNames a1 a2 ++ gens.take (i + 1).toNat := by
    rw [show (i + 1).toNat = i.toNat + 1 by omega, take_snoc hg, ho, List.append_assoc]
   have fin : ∀ nx, nx = nextName nm → (arr .i64 (i + 1) fun u => LI (fun s : Str × Int × List Str => 0 ≤ s.2.1 ∧ s.2.1 ≤ 40 ∧ (s.2.1 < 40 → gens[s.2.1.toNat]? = some s.1) ∧ s.2.2 = parNames a1 a2 ++ gens.take s.2.1.toNat) (fun s => 40 - s.2.1.toNat) (fun _ => sortT (parNames a1 a2 ++ gens)) (40 - i.toNat) (nx, u, out ++ [nm])) = some (sortT (parNames a1 a2 ++ gens)) := by
    intro nx hnx
    have g1 : i + 1 < 40 → gens[(i + 1).toNat]? = some nx := by
     intro hlt
     rw [show (i + 1).toNat = i.toNat + 1 by omega, gens_next i.toNat (by omega), hg, hnx]; rfl
    rw [arr_ok (by omega), LI_ok ⟨⟨by simp only; omega, by simp only; omega, g1, eo⟩, by simp only; omega⟩]
   rw [gd_ok (by omega)]
   simp only [lv]
   refine ln_ok fun _ => ?_
   refine ite_ok (fun c => ?_) (fun c => ?_)
   ·rw [gd_ok (by simp; omega)]
    exact fin _ (by rw [nextName, if_pos (by omega)])
   ·obtain ⟨r, b, e1, b1, b2, e2⟩ := next_parts i.toNat (by omega) nm hg c
    rw [gd_ok ⟨trivial, by omega⟩, e1]
    refine ln_ok fun _ => ?_
    have hlr : (r ++ [b]).length = r.length + 1 := by simp
    have hn1 : ((((r ++ [b]).length : Nat) : Int) - 1).toNat = r.length := by rw [hlr]; omega
    have hat : (r ++ [b])[((((r ++ [b]).length : Nat) : Int) - 1).toNat]? = some b := by
     rw [hn1, List.getElem?_append_right (Nat.le_refl _)]; simp
    rw [arr_ok (by omega), gd_ok ⟨by rw [hlr]; omega, by rw [hn1, hlr]; omega⟩, bt_ok (by rw [hlr]; omega), gD hat, arr_ok8 (by omega), arr_ok32 (by omega), hn1, List.take_left]
    have ee := enc_abc (b.toNat - 97) (by omega)
    rw [show (((98 + (b.toNat - 97) : Nat)) : Int) = (b.toNat : Int) + 1 by omega] at ee
    rw [ee, show UInt8.ofNat (98 + (b.toNat - 97)) = b + 1 by
     rw [show 98 + (b.toNat - 97) = b.toNat + 1 by omega, UInt8.ofNat_add, UInt8.ofNat_toNat]; rfl]
    have hrl : r.length ≤ 6 := by
     have := congrArg List.length e2
     have h6 : (trimR nm [122]).length ≤ nm.length := by
      unfold trimR Lib.trimRightB
      rw [List.length_reverse]
      refine Nat.le_trans (List.Sublist.length_le (List.dropWhile_sublist _)) ?_
      rw [List.length_reverse]; exact Nat.le_refl _
     rw [e1, hlr] at h6; omega
    rw [gd_ok (by simp; omega)]
    exact fin _ e2.symm
  ·have hi : i = 40 := by omega
   subst hi
   rw [List.take_of_length_le (by rw [gens_len]; decide)] at ho
   have hall : okU out := by
    refine hokU out (fun s hs => ?_) (by omega)
    rw [ho] at hs
    exact cand_name va vb (mem_sortT.2 hs)
   rw [gd_ok ⟨hall, hokU [] (fun s h => by cases h) (by decide)⟩]
   simp only [on_LS, List.append_nil]
   rw [ho]
 ·simp only [impl_someNames.f]
  rw [gd_ok ⟨by simp, fun t ht => by
   simp only [List.mem_cons, List.not_mem_nil, or_false] at ht
   rcases ht with rfl | rfl
   ·show a1.length ≤ 1000; omega
   ·show a2.length ≤ 1000; omega⟩]
  simp only [on_LParam, List.flatMap_cons, List.flatMap_nil, List.append_nil]
  refine ln_ok fun _ => ?_
  rw [EI_ok ⟨by trivial, by trivial, Int.le_refl 0, by simp only; omega, by simp⟩]
end
end Go.Proofs.YtchpopejojghmaaGreatDoor.M
