/- The name that comes next. -/
import Derived.Test.YtchpopejojghmaaGreatDoorX1
import Derived.Test.YtchpopejojghmaaGreatDoorHO
set_option linter.unusedVariables false
set_option linter.unusedSimpArgs false
set_option linter.unusedSectionVars false
namespace Go.Proofs.YtchpopejojghmaaGreatDoor.M
open Go Go.Proofs
set_option maxRecDepth 100000
def abc : Str := [97, 98, 99, 100, 101, 102, 103, 104, 105, 106, 107, 108, 109, 110, 111, 112, 113, 114, 115, 116, 117, 118, 119, 120, 121, 122]
theorem abc_at : ∀ k : Nat, k < 25 → (abc.take (k + 2)).drop (k + 1) = [UInt8.ofNat (97 + k) + 1] := by decide
theorem drop_z : ∀ {zs r : Str}, (∀ b ∈ zs, b = 122) → (∀ b t, r = b :: t → b ≠ 122) → (zs ++ r).dropWhile (fun b => b == 122) = r
 | [], [], _, _ => rfl
 | [], b :: t, _, h => by
  have := h b t rfl
  simp [List.dropWhile_cons, this]
 | z :: zs, r, hz, h => by
  have hz0 := hz z (by simp)
  rw [List.cons_append, List.dropWhile_cons, hz0]
  simp only [BEq.rfl, if_true]
  exact drop_z (fun b hb => hz b (by simp [hb])) h
theorem name_b {s : Str} (h : isName s = true) : ∀ b ∈ s, 97 ≤ b.toNat ∧ b.toNat ≤ 122 := by
 intro b hb
 simp only [isName, Bool.and_eq_true, List.all_eq_true, isLow, decide_eq_true_eq] at h
 exact h.1 b hb
theorem name_l {s : Str} (h : isName s = true) : 1 ≤ s.length ∧ s.length ≤ 6 := by
 simp only [isName, inRange, Bool.and_eq_true, decide_eq_true_eq] at h
 omega
noncomputable def spec_nextName.b0 (a1 : Str) (J0 : (Str → Option (Str))) (h0 : (Str) → Option (Str)) (z_ : Str) (x30 : Str) : Option (Str) := (if x30 = ([] : Str) then (J0 x30) else (ln' z_ (x30.length) fun v37 => (arr .i64 (v37 - 1) fun v38 => (bt x30 v38 fun v39 => (if v39 = 122 then (ln' z_ (x30.length) fun v40 => (arr .i64 (v40 - 1) fun v41 => (gd (0 ≤ v41 ∧ v41.toNat ≤ x30.length) (lv (x30.take v41.toNat) fun v42 => (h0 v42))))) else (J0 x30))))))
noncomputable def spec_nextName.f (a1 : Str) (h0 : ((Str → Option (Str))) → (Str) → Option (Str)) (z_ : Str) : Option (Str) := (ln' z_ (a1.length) fun v2 => (if v2 < 6 then (gd (a1.length + ([97]).length ≤ 9223372036854775807) (lv (a1 ++ [97]) fun v3 => (some v3))) else (lj 0 (fun J0 => (h0 J0 a1)) (fun x23 => (if x23 = ([] : Str) then (some (([] : Str))) else (ln' z_ (x23.length) fun v43 => (arr .i64 (v43 - 1) fun v44 => (bt x23 v44 fun v45 => (arr .u8 (v45 - 97) fun v46 => (arr .i64 (v46) fun v47 => (arr .i64 (v47 + 1) fun v48 => (ln' z_ (x23.length) fun v49 => (arr .i64 (v49 - 1) fun v50 => (gd (0 ≤ v50 ∧ v50.toNat ≤ x23.length) (lv (x23.take v50.toNat) fun v51 => (arr .i64 (v48 + 1) fun v52 => (gd (0 ≤ v48 ∧ v48 ≤ v52 ∧ v52.toNat ≤ [97, 98, 99, 100, 101, 102, 103, 104, 105, 106, 107, 108, 109, 110, 111, 112, 113, 114, 115, 116, 117, 118, 119, 120, 121, 122].length) (lv (([97, 98, 99, 100, 101, 102, 103, 104, 105, 106, 107, 108, 109, 110, 111, 112, 113, 114, 115, 116, 117, 118, 119, 120, 121, 122].take v52.toNat).drop v48.toNat) fun v53 => (gd (v51.length + v53.length ≤ 9223372036854775807) (lv (v51 ++ v53) fun v54 => (some v54)))))))))))))))))))))
theorem pin_spec_nextName {e : ESt} {ns : List (Nat × Nat)} {ps : List (Nat × C)} {os : List (Nat × EObj)} (hs : pinPZ (pinZ e.o (os.map Prod.fst) ns) e.s ps := by first | (cbv <;> (repeat' (first | trivial | refine And.intro ?_ ?_)) <;> (first | rfl | assumption | omega | trivial | rfl | rfl | simp [closedCell])) | fail) (ho : ∀ B : (Nat → EObj) → List (List C) → List (List C) → Prop, (∀ o rows rows', rowsZ (pinZ o (os.map Prod.fst) ns) rows rows' → B o rows rows') → pinOZ (pinZ e.o (os.map Prod.fst) ns) B e.o ns os := by intro B hB; first | (cbv <;> (repeat' (first | trivial | refine And.intro ?_ ?_ | refine pin_same hB ?_ | refine pin_nil hB ?_ | refine pin_dirty hB (by assumption) (by assumption) ?_ ?_ | exact pinL_n | refine pinL_c ?_ ?_ | (refine pz_go ?_; cbv) | (refine pinL_go ?_; cbv))) <;> (first | trivial | rfl | rfl | assumption | omega | rfl | simp [closedCell])) | fail) : PinnedZ e ns ps os := ⟨hs, ho⟩
section
variable {G : Glob} (hm : Hm) (hz : Hz) (hG : GF G)
include hm hz hG
set_option maxHeartbeats 8000000 in
theorem spec_nextName.w {a1 : Str} (inv0 : ((Str → Option (Str))) → (Str) → Prop) (mu0 : ((Str → Option (Str))) → (Str) → Nat) (res0 : ((Str → Option (Str))) → (Str) → Str) (hb0 : ∀ (J0 : (Str → Option (Str))), ∀ (s_ : Str), inv0 J0 s_ → spec_nextName.b0 a1 J0 (LI (inv0 J0) (mu0 J0) (res0 J0) (mu0 J0 s_)) (res0 J0 s_) s_ = some (res0 J0 s_)) {r : Str} (H : spec_nextName.f a1 (fun J0 => EI (inv0 J0) (mu0 J0) (res0 J0)) r = some r) : FnOK pg G 174 [.str ⟨⟨a1⟩⟩] [] (.str ⟨⟨r⟩⟩) [] false := by
 obtain ⟨V, hV⟩ := exV
 refine fn_ok (tt0 := tyG [ty3, ty4, ty5, ty9]) (fn := Tryz.f174) (body := bodyOf Tryz.f174) (ext := []) hm (tyG_sub ⟨tt3, tt4, tt5, tt9, trivial⟩) hz 0 true [5] (by unfold pg; exact Tryz.func174) rfl rfl (by simp [Tryz.f174]) (by simp [EObj.toObj]) (by cbv) ?_
 intro A F hA hF
 unfold spec_nextName.f at H
 cbv
 repeat' (first
  | (with_reducible refine s_gd H (fun hg H => ?_))
  | (cases H; exact fin_plain hF rfl rfl rfl rfl)
  | ((with_reducible first | refine s_lt H ?_ ?_ | refine s_le H ?_ ?_ | refine s_eq H ?_ ?_ | refine s_ne H ?_ ?_) <;> intro H <;> cbv)
  | with_reducible first
   | (refine s_ln H lnOf (fun _ H => ?_); cbv)
   | (refine s_bt H (fun _ H => ?_); cbv)
   | (refine s_ar H (fun _ H => ?_); cbv)
   | (refine s_lv H (fun _ H => ?_); cbv)
   | (refine s_loop hA H (fun s h => hb0 _ s h) [] [] (fun e s => [(0, .str ⟨⟨s⟩⟩)]) (fun e s => []) [] pin_spec_nextName nbOf ?_; rintro x30 H; unfold spec_nextName.b0 at H; (try dsimp only at H); cbv)
  | (with_reducible refine s_next H pin_spec_nextName nbOf)
  | (with_reducible refine s_joint 0 hA H [] [] (fun e s => [(0, .str ⟨⟨s⟩⟩)]) (fun e s => []) (fun J0 H => ?_) ?_; rotate_left; (rintro x23 H; (try dsimp only at H); cbv); rotate_left; cbv)
  | (with_reducible refine s_meet H [] pin_spec_nextName nbOf)
  | (with_reducible refine indep_of hA ?_; cbv)
  | ((with_reducible refine side ?_); exact sideOf)
  | with_reducible first
   | (refine s_eqn ?_; cbv)
   | (refine s_eqn2 ?_; cbv)
   | (refine s_tk1 ?_; cbv)
  | (with_reducible refine And.intro ?_ ?_)
  | (intro ys hys; subst hys; rfl)
  | rfl)
theorem spec_nextName.ok {a1 : Str} (hp : isName a1 = true) : FnOK pg G 174 [.str ⟨⟨a1⟩⟩] [] (.str ⟨⟨((nextName a1))⟩⟩) [] false := by
 have hl := name_l hp
 have hb := name_b hp
 refine @spec_nextName.w G hm hz hG a1 (fun J s => (∀ s, (∃ zs, a1 = s ++ zs ∧ (∀ b ∈ zs, b = 122)) → (s = [] ∨ ∃ r b, s = r ++ [b] ∧ b ≠ 122) → J s = some (nextName a1)) ∧ ∃ zs, a1 = s ++ zs ∧ ∀ b ∈ zs, b = 122) (fun _ s => s.length) (fun _ _ => nextName a1) ?_ _ ?_
 ·rintro J s ⟨hJ, zs, hs, hz⟩
  simp only [spec_nextName.b0]
  refine ite_ok (fun c => ?_) (fun c => ?_)
  ·exact hJ s ⟨zs, hs, hz⟩ (.inl c)
  ·obtain ⟨r, b, rfl⟩ : ∃ r b, s = r ++ [b] := ⟨s.dropLast, s.getLast c, (List.dropLast_concat_getLast c).symm⟩
   refine ln_ok fun hB => ?_
   have hat : (r ++ [b])[((((r ++ [b]).length : Nat) : Int) - 1).toNat]? = some b := by
    rw [show ((((r ++ [b]).length : Nat) : Int) - 1).toNat = r.length by rw [List.length_append, List.length_singleton]; omega, List.getElem?_append_right (Nat.le_refl _)]; simp
   rw [arr_ok (by omega), bt_ok (by rw [List.length_append, List.length_singleton]; omega), gD hat]
   refine ite_ok (fun d => ?_) (fun d => ?_)
   ·refine ln_ok fun hB2 => ?_
    have hn : ((((r ++ [b]).length : Nat) : Int) - 1).toNat = r.length := by rw [List.length_append, List.length_singleton]; omega
    rw [arr_ok (by omega), gd_ok ⟨by rw [List.length_append, List.length_singleton]; omega, by rw [hn]; simp⟩]
    simp only [lv]
    have hb1 : b = 122 := by rw [← UInt8.toNat_inj]; exact Int.ofNat.inj d
    rw [hn, List.take_left, LI_ok ⟨⟨hJ, [b] ++ zs, by rw [hs]; simp, fun x hx => by
     rcases List.mem_append.1 hx with hx | hx
     ·rw [List.mem_singleton] at hx; rw [hx, hb1]
     ·exact hz x hx⟩, by simp⟩]
   ·refine hJ _ ⟨zs, hs, hz⟩ (.inr ⟨r, b, rfl, fun e => d (by rw [e]; rfl)⟩)
 ·simp only [spec_nextName.f]
  refine ln_ok fun hB => ?_
  refine ite_ok (fun c => ?_) (fun c => ?_)
  ·rw [gd_ok (by simp; omega)]
   simp only [lv]
   rw [nextName, if_pos (by omega)]
  ·have en : nextName a1 = match a1.reverse.dropWhile (fun b => b == 122) with | [] => [] | b :: r => r.reverse ++ [b + 1] := by rw [nextName, if_neg (by omega)]; rfl
   refine lj_ok (fun s => (∃ zs, a1 = s ++ zs ∧ (∀ b ∈ zs, b = 122)) ∧ (s = [] ∨ ∃ r b, s = r ++ [b] ∧ b ≠ 122)) (fun J hJ => ?_) (fun s hs => ?_)
   ·rw [EI_ok ⟨fun s h1 h2 => hJ s ⟨h1, h2⟩, [], by simp, fun b hb => by cases hb⟩]
   ·obtain ⟨⟨zs, hs, hz⟩, he⟩ := hs
    rcases he with rfl | ⟨r, b, rfl, hb1⟩
    ·rw [if_pos rfl, en, hs]
     have := @drop_z zs.reverse [] (fun b hb => hz b (by simpa using hb)) (fun b t h => by cases h)
     rw [List.append_nil] at this
     simp only [List.nil_append]
     rw [this]
    ·rw [if_neg (by simp)]
     have hbr := hb b (by rw [hs]; simp)
     refine ln_ok fun hB => ?_
     have hn : ((((r ++ [b]).length : Nat) : Int) - 1).toNat = r.length := by rw [List.length_append, List.length_singleton]; omega
     have hat : (r ++ [b])[((((r ++ [b]).length : Nat) : Int) - 1).toNat]? = some b := by
      rw [hn, List.getElem?_append_right (Nat.le_refl _)]; simp
     have hb2 : b.toNat ≠ 122 := fun e => hb1 (by rw [← UInt8.toNat_inj]; exact e)
     rw [arr_ok (by omega), bt_ok (by rw [List.length_append, List.length_singleton]; omega), gD hat, arr_ok8 (by omega), arr_ok (by omega), arr_ok (by omega)]
     refine ln_ok fun hB2 => ?_
     rw [arr_ok (by omega), gd_ok ⟨by rw [List.length_append, List.length_singleton]; omega, by rw [hn]; simp⟩]
     simp only [lv]
     rw [arr_ok (by omega), gd_ok ⟨by omega, by omega, by simp; omega⟩, hn, List.take_left]
     have e3 := abc_at (b.toNat - 97) (by omega)
     rw [show ((b.toNat : Int) - 97 + 1 + 1).toNat = b.toNat - 97 + 2 by omega, show ((b.toNat : Int) - 97 + 1).toNat = b.toNat - 97 + 1 by omega]
     unfold abc at e3
     rw [e3, show 97 + (b.toNat - 97) = b.toNat by omega, UInt8.ofNat_toNat, gd_ok (by simp; simp at hl hs; have := congrArg List.length hs; simp at this; omega)]
     rw [en, hs]
     have := @drop_z zs.reverse (b :: r.reverse) (fun x hx => hz x (by simpa using hx)) (fun x t h => by cases h; exact hb1)
     rw [List.reverse_append, List.reverse_append, List.reverse_singleton, List.singleton_append, this]
     simp
end
end Go.Proofs.YtchpopejojghmaaGreatDoor.M
