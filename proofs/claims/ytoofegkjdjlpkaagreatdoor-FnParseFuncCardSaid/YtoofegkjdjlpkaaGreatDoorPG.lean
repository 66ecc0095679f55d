/- The program's ParseCall reads what is written; the law of FnTopCall. -/
import Derived.Test.YtoofegkjdjlpkaaGreatDoorPF
set_option linter.unusedVariables false
set_option linter.unusedSimpArgs false
set_option linter.unusedSectionVars false
namespace Go.Proofs.YtoofegkjdjlpkaaGreatDoor.M
open Go Go.Proofs
set_option maxRecDepth 100000
theorem splitS_eq (s sep : Str) : splitS s sep = Lib.splitK sep 0 (Lib.count s sep) s := Lib.splitB_data ⟨⟨sep⟩⟩ 0 _ ⟨⟨s⟩⟩
theorem occ_no {s sep : Str} {c : UInt8} {t : Str} {j : Nat} (hs : sep = c :: t) (h : s[j]? ≠ some c) : Lib.occAt s sep j = false := by
  cases e : Lib.occAt s sep j with
  | false => rfl
  | true => exact absurd (Lib.occAt_head hs e) h
theorem idx_app {p rest t : Str} {c : UInt8} (hp : c ∉ p) : Lib.index (p ++ (c :: t) ++ rest) (c :: t) = p.length := by
  refine Lib.index_first (by simp) ?_ fun j hj => occ_no rfl ?_
  · unfold Lib.occAt
    rw [List.append_assoc, List.drop_left' rfl]
    exact List.isPrefixOf_iff_prefix.2 ⟨_, rfl⟩
  · rw [List.append_assoc, List.getElem?_append_left hj, List.getElem?_eq_getElem hj]
    intro e
    exact hp (Option.some.inj e ▸ List.getElem_mem hj)
theorem idx_none {p t : Str} {c : UInt8} (hp : c ∉ p) : Lib.index p (c :: t) = -1 :=
  Lib.index_none fun j hj => occ_no rfl fun e => hp (List.mem_of_getElem? e)
theorem no44 {p : Str} (h : ∀ b ∈ p, b.toNat ≠ 44) : (44 : UInt8) ∉ p := fun hm => h _ hm rfl
theorem no61 {p : Str} (h : ∀ b ∈ p, b.toNat ≠ 61) : (61 : UInt8) ∉ p := fun hm => h _ hm rfl
theorem splitS_app {p rest : Str} (h : ∀ b ∈ p, b.toNat ≠ 44) : splitS (p ++ [44, 32] ++ rest) [44, 32] = p :: splitS rest [44, 32] := by
  have hi := idx_app (rest := rest) (t := [32]) (no44 h)
  have hd : (p ++ [44, 32] ++ rest).drop (p.length + 2) = rest := List.drop_left' (by simp)
  have ht : (p ++ [44, 32] ++ rest).take p.length = p := by rw [List.append_assoc]; exact List.take_left' rfl
  rw [splitS_eq, splitS_eq, Lib.count_hit (by simp) hi, Nat.add_comm 1, Lib.splitK]
  rw [hi, if_neg (by simp), Int.toNat_natCast, Nat.add_zero, ht]
  show p :: Lib.splitK [44, 32] 0 (Lib.count ((p ++ [44, 32] ++ rest).drop (p.length + 2)) [44, 32]) ((p ++ [44, 32] ++ rest).drop (p.length + 2)) = _
  rw [hd]
theorem splitS_last {p : Str} (h : ∀ b ∈ p, b.toNat ≠ 44) : splitS p [44, 32] = [p] := by
  rw [splitS_eq, Lib.count_miss (idx_none (no44 h))]; rfl
theorem splitS_join : ∀ (p : Str) (ps : List Str), (∀ q ∈ p :: ps, ∀ b ∈ q, b.toNat ≠ 44) → splitS (joinW (p :: ps) [44, 32]) [44, 32] = p :: ps
  | p, [], h => by rw [joinW_one, splitS_last (h p (by simp))]
  | p, q :: ps, h => by
    rw [joinW_cons, splitS_app (h p (by simp)), splitS_join q ps (fun x hx => h x (by simp [List.mem_cons.1 hx]))]
theorem cutS_app {p r : Str} (h : ∀ b ∈ p, b.toNat ≠ 61) : cutS (p ++ 61 :: r) [61] = (p, r, true) := by
  have hi := idx_app (rest := r) (t := []) (no61 h)
  rw [List.append_assoc] at hi
  have hi : Lib.index (p ++ 61 :: r) [61] = p.length := hi
  have e1 : (p ++ 61 :: r).take p.length = p := List.take_left' rfl
  have e2 : (p ++ 61 :: r).drop (p.length + 1) = r := by rw [← List.drop_drop, List.drop_left' rfl]; rfl
  rw [cutS, Lib.cut, hi, if_pos (by omega), Int.toNat_natCast]
  show (_, (p ++ 61 :: r).drop (p.length + 1), _) = _
  rw [e1, e2]
section
variable {G : Glob} (hm : pg.follows .mixedOrders = true) (hz : ∀ T, ∀ c ∈ (ttOf pg T).zero, Bd c) (hG : GF G)
include hm hz hG
end
end Go.Proofs.YtoofegkjdjlpkaaGreatDoor.M
