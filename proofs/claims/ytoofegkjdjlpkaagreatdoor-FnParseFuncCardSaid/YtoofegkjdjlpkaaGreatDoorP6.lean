/- Texts of calls. -/
import Derived.Test.YtoofegkjdjlpkaaGreatDoorP5
set_option linter.unusedVariables false
set_option linter.unusedSimpArgs false
set_option linter.unusedSectionVars false
namespace Go.Proofs.YtoofegkjdjlpkaaGreatDoor.M
open Go Go.Proofs
set_option maxRecDepth 100000
theorem joinW_nil (s : Str) : joinW [] s = [] := rfl
theorem joinW_one (x s : Str) : joinW [x] s = x := by simp [joinW, Lib.join, List.intercalate]
theorem joinW_cons (x y : Str) (r : List Str) (s : Str) : joinW (x :: y :: r) s = x ++ s ++ joinW (y :: r) s := by simp [joinW, Lib.join, List.intercalate]
theorem joinW_len {n : Nat} {s : Str} : ∀ (l : List Str), (∀ x ∈ l, x.length ≤ n) → (joinW l s).length ≤ l.length * (n + s.length)
  | [], _ => by simp [joinW_nil]
  | [x], h => by have := h x (by simp); rw [joinW_one]; simp; omega
  | x :: y :: r, h => by
    have h1 := h x (by simp)
    have h2 := joinW_len (n := n) (s := s) (y :: r) (fun z hz => h z (by simp [hz]))
    rw [joinW_cons]
    simp only [List.length_append, List.length_cons] at h2 ⊢
    rw [show (r.length + 1 + 1) * (n + s.length) = (r.length + 1) * (n + s.length) + (n + s.length) by rw [Nat.add_mul _ 1, Nat.one_mul]]
    omega
theorem isName_len {s : Str} (h : isName s = true) : 1 ≤ s.length ∧ s.length ≤ 6 := by
  simp only [isName, inRange, Bool.and_eq_true, decide_eq_true_eq] at h; omega
theorem isValue_rng {n : Int} (h : isValue n = true) : -99 ≤ n ∧ n ≤ 99 := by simpa [isValue, inRange] using h
theorem vnum_len {n : Int} (h : isValue n = true) : (number n).length ≤ 8 := number_len (by have := isValue_rng h; omega)
section
variable {G : Glob} (hm : pg.follows .mixedOrders = true) (hz : ∀ T, ∀ c ∈ (ttOf pg T).zero, Bd c) (hG : GF G)
include hm hz hG
end
section
variable {G : Glob} (hm : pg.follows .mixedOrders = true) (hz : ∀ T, ∀ c ∈ (ttOf pg T).zero, Bd c) (hG : GF G)
include hm hz hG
end
section
variable {G : Glob} (hm : pg.follows .mixedOrders = true) (hz : ∀ T, ∀ c ∈ (ttOf pg T).zero, Bd c) (hG : GF G)
include hm hz hG
end
section
variable {G : Glob} (hm : pg.follows .mixedOrders = true) (hz : ∀ T, ∀ c ∈ (ttOf pg T).zero, Bd c) (hG : GF G)
include hm hz hG
end
end Go.Proofs.YtoofegkjdjlpkaaGreatDoor.M
