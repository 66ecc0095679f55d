/- The reference's ParseCall reads what is written, and nothing else. -/
import Derived.Test.YtoofegkjdjlpkaaGreatDoorPE
set_option linter.unusedVariables false
set_option linter.unusedSimpArgs false
set_option linter.unusedSectionVars false
namespace Go.Proofs.YtoofegkjdjlpkaaGreatDoor.M
open Go Go.Proofs
set_option maxRecDepth 100000
theorem u8 {b c : UInt8} (h : b.toNat = c.toNat) : b = c := UInt8.toNat_inj.1 h
theorem splitL_step {b : UInt8} (h : b.toNat ≠ 44) (r cur : Str) : splitL (b :: r) cur = splitL r (cur ++ [b]) := by
  cases r with
  | nil => simp [splitL]
  | cons d r => rw [splitL, if_neg (fun e => h e.1)]
theorem splitL_app : ∀ (p : Str), (∀ b ∈ p, b.toNat ≠ 44) → ∀ (cur rest : Str), splitL (p ++ 44 :: 32 :: rest) cur = (cur ++ p) :: splitL rest []
  | [], _, cur, rest => by rw [List.nil_append, splitL, if_pos ⟨rfl, rfl⟩, List.append_nil]
  | b :: p, h, cur, rest => by
    rw [List.cons_append, splitL_step (h b (by simp)), splitL_app p (fun c hc => h c (by simp [hc]))]
    simp
theorem splitL_last : ∀ (p : Str), (∀ b ∈ p, b.toNat ≠ 44) → ∀ (cur : Str), splitL p cur = [cur ++ p]
  | [], _, cur => by simp [splitL]
  | b :: p, h, cur => by
    rw [splitL_step (h b (by simp)), splitL_last p (fun c hc => h c (by simp [hc]))]
    simp
theorem splitL_join : ∀ (p : Str) (ps : List Str), (∀ q ∈ p :: ps, ∀ b ∈ q, b.toNat ≠ 44) → splitL (joinW (p :: ps) [44, 32]) [] = p :: ps
  | p, [], h => by rw [joinW_one, splitL_last p (h p (by simp)), List.nil_append]
  | p, q :: ps, h => by
    rw [joinW_cons, List.append_assoc]
    show splitL (p ++ 44 :: 32 :: joinW (q :: ps) [44, 32]) [] = _
    rw [splitL_app p (h p (by simp)), splitL_join q ps (fun x hx => h x (by simp [List.mem_cons.1 hx])), List.nil_append]
theorem joinW_ne {p : Str} {ps : List Str} {s : Str} (h : p ≠ []) : joinW (p :: ps) s ≠ [] := by
  cases ps with
  | nil => rwa [joinW_one]
  | cons q ps => rw [joinW_cons]; simp [h]
theorem splitList_join {ps : List Str} (h : ∀ q ∈ ps, q ≠ [] ∧ ∀ b ∈ q, b.toNat ≠ 44) : splitList (joinW ps [44, 32]) = ps := by
  cases ps with
  | nil => rfl
  | cons p ps => rw [splitList, if_neg (joinW_ne (h p (by simp)).1), splitL_join p ps (fun q hq => (h q hq).2)]
theorem findI_app {p : UInt8 → Bool} {a r : Str} {x : UInt8} (ha : ∀ b ∈ a, p b = false) (hx : p x = true) : findI p (a ++ x :: r) = a.length := by
  unfold findI
  have : (a ++ x :: r).findIdx? p = some a.length := by
    rw [List.findIdx?_eq_some_iff_getElem]
    refine ⟨by simp, by simpa using hx, fun j hj => ?_⟩
    rw [List.getElem_append_left hj]
    simpa using ha _ (List.getElem_mem hj)
  rw [this]; simp [idxOr]
theorem findI_none {p : UInt8 → Bool} {a : Str} (ha : ∀ b ∈ a, p b = false) : findI p a = -1 := by
  unfold findI
  rw [List.findIdx?_eq_none_iff.2 ha]; rfl
theorem index_app {a r : Str} (ha : ∀ b ∈ a, b.toNat ≠ 61) : indexByte (a ++ 61 :: r) 61 = a.length :=
  findI_app (fun b hb => decide_eq_false (by have := ha b hb; omega)) rfl
theorem index_none {a : Str} (ha : ∀ b ∈ a, b.toNat ≠ 61) : indexByte a 61 = -1 :=
  findI_none (fun b hb => decide_eq_false (by have := ha b hb; omega))
theorem name_head {s : Str} (h : isName s = true) (t : Str) : ∃ b r, s ++ t = b :: r ∧ 97 ≤ b.toNat ∧ b.toNat ≤ 122 := by
  have hc := name_chars h
  have hne := name_ne h
  cases s with
  | nil => exact absurd rfl hne
  | cons b r => exact ⟨b, r ++ t, rfl, hc b (by simp)⟩
end Go.Proofs.YtoofegkjdjlpkaaGreatDoor.M
