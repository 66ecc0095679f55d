/- The reference's texts of calls. -/
import Derived.Test.YtoofegkjdjlpkaaGreatDoorQ3
set_option linter.unusedVariables false
set_option linter.unusedSimpArgs false
set_option linter.unusedSectionVars false
namespace Go.Proofs.YtoofegkjdjlpkaaGreatDoor.M
open Go Go.Proofs
set_option maxRecDepth 100000
theorem joinW_snoc {s x : Str} : ∀ {l : List Str}, l ≠ [] → joinW (l ++ [x]) s = joinW l s ++ s ++ x
  | [], h => absurd rfl h
  | [a], _ => by rw [List.singleton_append, joinW_cons, joinW_one, joinW_one]
  | a :: b :: r, _ => by
    rw [List.cons_append, List.cons_append, joinW_cons, joinW_cons, ← List.cons_append, joinW_snoc (l := b :: r) (by simp)]
    simp [List.append_assoc]
theorem joinW_take {s : Str} {l : List Str} : ∀ {r k : List Str}, l = k ++ r → (joinW k s).length ≤ (joinW l s).length
  | [], k, h => by rw [h, List.append_nil]; exact Nat.le_refl _
  | x :: r, k, h => by
    refine Nat.le_trans ?_ (joinW_take (r := r) (k := k ++ [x]) (by rw [h]; simp))
    by_cases hk : k = []
    · subst hk; simp [joinW_nil]
    · rw [joinW_snoc hk]; simp
noncomputable def spec_joinWith.b0 (a1 : List Str) (a2 : Str)  (h0 : (Str × Int) → Option (Str)) (z_ : Str) (x9 : Str) (x10 : Int) : Option (Str) := (ln' z_ (a1.length) fun v17 => (if x10 < v17 then (lj 0 (fun J0 => (if 0 < x10 then (gd (x9.length + a2.length ≤ 9223372036854775807) (lv (x9 ++ a2) fun v20 => (J0 v20))) else (J0 x9))) (fun x19 => (ixS a1 x10 fun v21 => (gd (x19.length + v21.length ≤ 9223372036854775807) (lv (x19 ++ v21) fun v22 => (arr .i64 (x10 + 1) fun v23 => (h0 (v22, v23)))))))) else (some x9)))
noncomputable def spec_joinWith.f (a1 : List Str) (a2 : Str) (h0 : (Str × Int) → Option (Str)) (z_ : Str) : Option (Str) := (h0 (([] : Str), 0))
theorem pin_spec_joinWith {e : ESt} {ns : List (Nat × Nat)} {ps : List (Nat × C)} {os : List (Nat × EObj)} (hs : pinPZ (pinZ e.o (os.map Prod.fst) ns) e.s ps := by first | (cbv <;> (repeat' (first | trivial | refine And.intro ?_ ?_)) <;> (first | rfl | assumption | omega | exact clS hV _ | with_unfolding_all exact hV.nS [] | with_unfolding_all exact (hV.nS []).symm | with_unfolding_all exact hV.rS _ | with_unfolding_all exact (hV.nS _).trans (Eq.trans (by simp only [hV.nS] at *; omega) (hV.nS _).symm) | simp [closedCell])) | fail) (ho : ∀ B : (Nat → EObj) → List (List C) → List (List C) → Prop, (∀ o rows rows', rowsZ (pinZ o (os.map Prod.fst) ns) rows rows' → B o rows rows') → pinOZ (pinZ e.o (os.map Prod.fst) ns) B e.o ns os := by intro B hB; first | (cbv <;> (repeat' (first | trivial | refine And.intro ?_ ?_ | refine pin_same hB ?_ | refine pin_nil hB ?_ | refine pin_dirty hB (by assumption) (by assumption) ?_ ?_ | exact pinL_n | refine pinL_c ?_ ?_ | exact pzr rfl rfl rfl (nrS hV _) (clS hV _) | (refine pz_go ?_; cbv) | (refine pinL_go ?_; cbv))) <;> (first | exact clS hV _ | with_unfolding_all exact hV.rS _ | with_unfolding_all exact hV.nS [] | with_unfolding_all exact (hV.nS []).symm | assumption | omega | rfl | with_unfolding_all exact (hV.nS _).trans (Eq.trans (by simp only [hV.nS] at *; omega) (hV.nS _).symm) | simp [closedCell])) | fail) : PinnedZ e ns ps os := ⟨hs, ho⟩
section
variable {G : Glob} (hm : pg.follows .mixedOrders = true) (hz : ∀ T, ∀ c ∈ (ttOf pg T).zero, Bd c) (hG : GF G)
include hm hz hG
set_option maxHeartbeats 8000000 in
theorem spec_joinWith.w {a1 : List Str} {a2 : Str} (inv0 : (Str × Int) → Prop) (mu0 : (Str × Int) → Nat) (res0 : (Str × Int) → Str) (hb0 : ∀ (s_ : Str × Int), inv0  s_ → spec_joinWith.b0 a1 a2  (LI (inv0 ) (mu0 ) (res0 ) (mu0  s_)) (res0  s_) s_.1 s_.2 = some (res0  s_)) {r : Str} (H : spec_joinWith.f a1 a2 (EI (inv0 ) (mu0 ) (res0 )) r = some r) : FnOK pg G 148 [.sl (a1.map eS), .str ⟨⟨a2⟩⟩] [] (.str ⟨⟨r⟩⟩) [] false := by
  obtain ⟨V, hV⟩ := exV
  simp only [← hV.rS]
  refine fn_ok (tt0 := tyG [ty3, ty4, ty9, ty71]) (fn := Tryz.f148) (body := bodyOf Tryz.f148) (ext := []) hm (tyG_sub ⟨tt3, tt4, tt9, tt71, trivial⟩) hz 0 true [7] (by unfold pg; exact Tryz.func148) rfl rfl (by simp [Tryz.f148]) (by simp [EObj.toObj]) (by cbv) ?_
  intro A F hA hF
  unfold spec_joinWith.f at H
  cbv
  repeat' (first
    | (with_reducible refine s_gd H (fun hg H => ?_))
    | (cases H; exact fin_plain hF rfl rfl rfl rfl)
    | (with_reducible refine s_lt H (fun H => ?_) (fun H => ?_) <;> cbv)
    | (with_reducible refine s_le H (fun H => ?_) (fun H => ?_) <;> cbv)
    | (with_reducible refine s_eq H (fun H => ?_) (fun H => ?_) <;> cbv)
    | (with_reducible refine s_ne H (fun H => ?_) (fun H => ?_) <;> cbv)
    | (with_reducible refine s_ln H lnOf (fun _ H => ?_); cbv)
    | (with_reducible refine s_ixS hV H (fun _ H => ?_); cbv)
    | (with_reducible refine s_ar H (fun _ H => ?_); cbv)
    | (with_reducible refine s_apS hV H (fun _ H => ?_); cbv)
    | (with_reducible refine s_apL hV.rS hV.nS H (fun _ H => ?_); cbv)
    | (with_reducible refine s_lv H (fun _ H => ?_); cbv)
    | (with_reducible refine s_loop hA H (fun s h => hb0  s h) [0, 1] [] (fun e s => [(5, .str ⟨⟨(s.1)⟩⟩), (6, .int .i64 (s.2))]) (fun e s => []) [] pin_spec_joinWith nbOf ?_; rintro ⟨x9, x10⟩ H; unfold spec_joinWith.b0 at H; (try dsimp only at H); cbv)
    | (with_reducible refine s_next H pin_spec_joinWith nbOf)
    | (with_reducible refine s_joint 0 hA H [0, 1, 6] [] (fun e s => [(5, .str ⟨⟨s⟩⟩)]) (fun e s => []) (fun J0 H => ?_) ?_; rotate_left; (rintro x19 H; (try dsimp only at H); cbv); rotate_left; cbv)
    | (with_reducible refine s_meet H [] pin_spec_joinWith nbOf)
    | (with_reducible refine indep_of hA ?_; cbv)
    | ((with_reducible refine side ?_); exact sideOf)
    | (with_reducible refine s_tkG hV.rS hV.nS ?_; cbv)
    | (with_reducible refine s_tk1 ?_; cbv)
    | (with_reducible refine And.intro ?_ ?_)
    | (intro ys hys; subst hys; rfl)
    | rfl)
end
section
variable {G : Glob} (hm : pg.follows .mixedOrders = true) (hz : ∀ T, ∀ c ∈ (ttOf pg T).zero, Bd c) (hG : GF G)
include hm hz hG
theorem spec_joinWith.ok {a1 : List Str} {a2 : Str} (hp : (joinW a1 a2).length ≤ 1000000000) : FnOK pg G 148 [.sl (a1.map eS), .str ⟨⟨a2⟩⟩] [] (.str ⟨⟨((joinW a1 a2))⟩⟩) [] false := by
  have A := @spec_joinWith.w G hm hz hG a1 a2 (rgI (a1) (fun s : Str × Int => s.2) (fun s : Str × Int => s.1 = joinW (a1.take s.2.toNat) a2)) (rgM (a1) (fun s : Str × Int => s.2)) (rgR (a1) (fun s : Str × Int => s.2) (fun r (s : Str × Int) => joinW a1 a2)) (rangeS (a1) (fun s : Str × Int => s.2) (fun s : Str × Int => s.1 = joinW (a1.take s.2.toNat) a2) (fun r (s : Str × Int) => joinW a1 a2) (fun rec z s => spec_joinWith.b0 a1 a2  rec z s.1 s.2) ?_ ?_)
  · exact A (EI_fin (rg0 rfl rfl) rfl)
  · rintro rec ⟨acc, i⟩ hI h0 h1
    simp only at h0 h1 hI
    rw [take_len h1] at hI
    subst hI
    simp only [spec_joinWith.b0]
    refine ln_ok fun hB => ?_
    rw [if_neg (by omega)]
  · rintro rec ⟨acc, i⟩ x r hI h0 h1 hx hll hr
    simp only at h0 h1 hx hll hI
    subst hI
    have e1 : a1.take (i + 1).toNat = a1.take i.toNat ++ [x] := by rw [show (i + 1).toNat = i.toNat + 1 by omega, take_snoc hx]
    have b1 := joinW_take (s := a2) (l := a1) (k := a1.take (i + 1).toNat) (r := a1.drop (i + 1).toNat) (List.take_append_drop _ _).symm
    rw [e1] at b1
    simp only [spec_joinWith.b0, lj, lv]
    refine ln_ok fun hB => ?_
    rw [if_pos (by omega), ixS_ok h0 hx, ixS_ok h0 hx]
    by_cases hi : 0 < i
    · have hne : a1.take i.toNat ≠ [] := by
        intro h
        rw [List.take_eq_nil_iff] at h
        rcases h with h | h
        · omega
        · subst h; simp at h1; omega
      rw [joinW_snoc hne] at b1
      simp only [List.length_append] at b1
      rw [if_pos hi, gd_ok (by omega), gd_ok (by simp; omega), arr_ok (by omega)]
      refine hr _ ?_ rfl
      rw [e1, joinW_snoc hne]
    · have hi : i = 0 := by omega
      subst hi
      simp only [Int.toNat_zero, List.take_zero, List.nil_append, joinW_one, joinW_nil, Int.lt_irrefl, if_false] at b1 ⊢
      rw [gd_ok (by simp; omega), arr_ok (by omega)]
      refine hr _ ?_ rfl
      rw [e1]
      simp [joinW_one]
end
section
variable {G : Glob} (hm : pg.follows .mixedOrders = true) (hz : ∀ T, ∀ c ∈ (ttOf pg T).zero, Bd c) (hG : GF G)
include hm hz hG
end
section
variable {G : Glob} (hm : pg.follows .mixedOrders = true) (hz : ∀ T, ∀ c ∈ (ttOf pg T).zero, Bd c) (hG : GF G)
include hm hz hG
end
section
variable {G : Glob} (hm : pg.follows .mixedOrders = true) (hz : ∀ T, ∀ c ∈ (ttOf pg T).zero, Bd c) (hG : GF G)
include hm hz hG
end
section
variable {G : Glob} (hm : pg.follows .mixedOrders = true) (hz : ∀ T, ∀ c ∈ (ttOf pg T).zero, Bd c) (hG : GF G)
include hm hz hG
end
section
variable {G : Glob} (hm : pg.follows .mixedOrders = true) (hz : ∀ T, ∀ c ∈ (ttOf pg T).zero, Bd c) (hG : GF G)
include hm hz hG
end
section
variable {G : Glob} (hm : pg.follows .mixedOrders = true) (hz : ∀ T, ∀ c ∈ (ttOf pg T).zero, Bd c) (hG : GF G)
include hm hz hG
end
end Go.Proofs.YtoofegkjdjlpkaaGreatDoor.M
