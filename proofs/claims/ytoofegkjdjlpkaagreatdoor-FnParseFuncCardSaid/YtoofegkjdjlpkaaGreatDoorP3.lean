/- Numbers in decimal. -/
import Derived.Test.YtoofegkjdjlpkaaGreatDoorL3
set_option linter.unusedVariables false
set_option linter.unusedSimpArgs false
set_option linter.unusedSectionVars false
namespace Go.Proofs.YtoofegkjdjlpkaaGreatDoor.M
open Go Go.Proofs
set_option maxRecDepth 100000
def numN (k : Nat) : Str := if h : k < 10 then [UInt8.ofNat (48 + k)] else numN (k / 10) ++ [UInt8.ofNat (48 + k % 10)]
def number (n : Int) : Str := if n < 0 then 45 :: numN n.natAbs else numN n.toNat
theorem digit_lit : ∀ k : Nat, k < 10 → (([48, 49, 50, 51, 52, 53, 54, 55, 56, 57] : Str).take (k + 1)).drop k = [UInt8.ofNat (48 + k)] := by decide
theorem numN_len (k b : Nat) (h : k < 10 ^ b) (hb : 1 ≤ b) : (numN k).length ≤ b := by
  induction b generalizing k with
  | zero => omega
  | succ b ih =>
    rw [numN]
    split
    · simp
    · rename_i hk
      rcases Nat.eq_zero_or_pos b with rfl | hb'
      · simp at h; omega
      · have := ih (k / 10) (by rw [Nat.pow_succ] at h; omega) hb'
        simp; omega
theorem numN_len7 {k : Nat} (h : k ≤ 1000000) : (numN k).length ≤ 7 := numN_len k 7 (by omega) (by omega)
theorem number_len {n : Int} (h : -1000000 ≤ n ∧ n ≤ 1000000) : (number n).length ≤ 8 := by
  unfold number
  split
  · have := numN_len7 (k := n.natAbs) (by omega); simp; omega
  · have := numN_len7 (k := n.toNat) (by omega); omega
theorem number_nn {n : Int} (h : 0 ≤ n) : number n = numN n.toNat := by rw [number, if_neg (by omega)]
noncomputable def spec_number.f (a1 : Int) (P_ : Int → Prop)  (z_ : Str) : Option (Str) := (if a1 < 0 then (arr .i64 (0 - a1) fun v2 => (gd (P_ v2) (lv (number v2) fun v3 => (gd (([45]).length + v3.length ≤ 9223372036854775807) (lv ([45] ++ v3) fun v4 => (some v4)))))) else (if a1 < 10 then (arr .i64 (a1 + 1) fun v5 => (gd (0 ≤ a1 ∧ a1 ≤ v5 ∧ v5.toNat ≤ [48, 49, 50, 51, 52, 53, 54, 55, 56, 57].length) (lv (([48, 49, 50, 51, 52, 53, 54, 55, 56, 57].take v5.toNat).drop a1.toNat) fun v6 => (some v6)))) else (arr .i64 (Int.tdiv a1 10) fun v7 => (gd (P_ v7) (lv (number v7) fun v8 => (lv (Int.tmod a1 10) fun v9 => (gd (P_ v9) (lv (number v9) fun v10 => (gd (v8.length + v10.length ≤ 9223372036854775807) (lv (v8 ++ v10) fun v11 => (some v11)))))))))))
section
variable {G : Glob} (hm : pg.follows .mixedOrders = true) (hz : ∀ T, ∀ c ∈ (ttOf pg T).zero, Bd c) (hG : GF G)
include hm hz hG
theorem spec_number.w {a1 : Int} {P_ : Int → Prop} (ih_ : ∀ a1, P_ a1 → FnOK pg G 199 [.int .i64 a1] [] (.str ⟨⟨((number a1))⟩⟩) [] false) {r : Str} (H : spec_number.f a1 P_  r = some r) : FnOK pg G 199 [.int .i64 a1] [] (.str ⟨⟨r⟩⟩) [] false := by
  obtain ⟨V, hV⟩ := exV
  refine fn_ok (tt0 := tyG [ty3, ty4, ty9]) (fn := Tryz.f199) (body := bodyOf Tryz.f199) (ext := []) hm (tyG_sub ⟨tt3, tt4, tt9, trivial⟩) hz 0 true [] (by unfold pg; exact Tryz.func199) rfl rfl (by simp [Tryz.f199]) (by simp [EObj.toObj]) (by cbv) ?_
  intro A F hA hF
  unfold spec_number.f at H
  cbv
  repeat' (first
    | (with_reducible refine s_gd H (fun hg H => ?_))
    | (cases H; exact fin_plain hF rfl rfl rfl rfl)
    | (with_reducible refine s_lt H (fun H => ?_) (fun H => ?_) <;> cbv)
    | (with_reducible refine s_le H (fun H => ?_) (fun H => ?_) <;> cbv)
    | (with_reducible refine s_eq H (fun H => ?_) (fun H => ?_) <;> cbv)
    | (with_reducible refine s_ne H (fun H => ?_) (fun H => ?_) <;> cbv)
    | (with_reducible refine s_ar H (fun _ H => ?_); cbv)
    | (with_reducible refine s_lv H (fun _ H => ?_); cbv)
    | (with_reducible refine s_cs hA H (by with_unfolding_all exact ih_ _ (by assumption)) rfl (fun _ H => ?_); cbv)
    | (with_reducible refine indep_of hA ?_; cbv)
    | ((with_reducible refine side ?_); exact sideOf)
    | (with_reducible refine s_eqn ?_; cbv)
    | (with_reducible refine s_eqn2 ?_; cbv)
    | (with_reducible refine s_tk1 ?_; cbv)
    | (with_reducible refine And.intro ?_ ?_)
    | (intro ys hys; subst hys; rfl)
    | rfl)
end
section
variable {G : Glob} (hm : pg.follows .mixedOrders = true) (hz : ∀ T, ∀ c ∈ (ttOf pg T).zero, Bd c) (hG : GF G)
include hm hz hG
theorem number_step (n : Int) (h : -1000000 ≤ n ∧ n ≤ 1000000) (ih : ∀ m : Int, 0 ≤ m ∧ (n < 0 ∧ m ≤ 1000000 ∨ m < n) → FnOK pg G 199 [.int .i64 m] [] (.str ⟨⟨number m⟩⟩) [] false) : FnOK pg G 199 [.int .i64 n] [] (.str ⟨⟨number n⟩⟩) [] false := by
  refine spec_number.w hm hz hG ih ?_
  simp only [spec_number.f]
  by_cases h0 : n < 0
  · have hl := numN_len7 (k := (0 - n).toNat) (by omega)
    rw [if_pos h0, arr_ok (by omega), gd_ok (by omega), lv, number_nn (by omega), gd_ok (by simp only [List.length_cons, List.length_nil]; omega), lv, number, if_pos h0, show (0 - n).toNat = n.natAbs by omega]
    rfl
  · rw [if_neg h0]
    by_cases h1 : n < 10
    · rw [if_pos h1, arr_ok (by omega), gd_ok (by simp; omega), lv, number_nn (by omega), numN, dif_pos (by omega), show (n + 1).toNat = n.toNat + 1 by omega, digit_lit _ (by omega)]
    · have ed : n.tdiv 10 = n / 10 := Int.tdiv_eq_ediv_of_nonneg (by omega)
      have em : n.tmod 10 = n % 10 := Int.tmod_eq_emod_of_nonneg (by omega)
      have e3 : numN (n.toNat % 10) = [UInt8.ofNat (48 + n.toNat % 10)] := by rw [numN, dif_pos (by omega)]
      have e4 : numN n.toNat = numN (n.toNat / 10) ++ [UInt8.ofNat (48 + n.toNat % 10)] := by rw [numN, dif_neg (by omega)]
      have hl := numN_len7 (k := n.toNat / 10) (by omega)
      rw [if_neg h1, arr_ok (by rw [ed]; omega), ed, gd_ok (by omega), lv, em, lv, gd_ok (by omega), lv, number_nn (by omega), number_nn (by omega), show (n / 10).toNat = n.toNat / 10 by omega, show (n % 10).toNat = n.toNat % 10 by omega, e3, gd_ok (by simp; omega), lv, number_nn (by omega), e4]
theorem number_nnok : ∀ (k : Nat) (n : Int), 0 ≤ n → n.toNat = k → n ≤ 1000000 → FnOK pg G 199 [.int .i64 n] [] (.str ⟨⟨number n⟩⟩) [] false := by
  intro k
  induction k using Nat.strongRecOn with
  | _ k ih => exact fun n h0 hk hb => number_step hm hz hG n (by omega) fun m hmm => ih m.toNat (by omega) m hmm.1 rfl (by omega)
end
section
variable {G : Glob} (hm : pg.follows .mixedOrders = true) (hz : ∀ T, ∀ c ∈ (ttOf pg T).zero, Bd c) (hG : GF G)
include hm hz hG
theorem spec_number.ok {a1 : Int} (hp : -1000000 ≤ a1 ∧ a1 ≤ 1000000) : FnOK pg G 199 [.int .i64 a1] [] (.str ⟨⟨((number a1))⟩⟩) [] false := by
  exact number_step hm hz hG a1 hp fun m h => number_nnok hm hz hG _ m h.1 rfl (by omega)
end
end Go.Proofs.YtoofegkjdjlpkaaGreatDoor.M
