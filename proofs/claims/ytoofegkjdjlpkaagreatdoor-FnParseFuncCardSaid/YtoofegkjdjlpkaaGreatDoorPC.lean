/- The reference's ParseCall; calls held against each other; FnTopCall. -/
import Derived.Test.YtoofegkjdjlpkaaGreatDoorPB
set_option linter.unusedVariables false
set_option linter.unusedSimpArgs false
set_option linter.unusedSectionVars false
namespace Go.Proofs.YtoofegkjdjlpkaaGreatDoor.M
open Go Go.Proofs
set_option maxRecDepth 100000
theorem splitL_len : ∀ (r cur : Str) (n : Nat), cur.length + r.length ≤ n → ∀ t ∈ splitL r cur, t.length ≤ n
  | [], cur, n, h, t, ht => by simp only [splitL, List.mem_singleton] at ht; subst ht; simpa using h
  | [b], cur, n, h, t, ht => by simp only [splitL, List.mem_singleton] at ht; subst ht; simpa using h
  | b :: d :: r, cur, n, h, t, ht => by
    simp only [splitL] at ht
    simp only [List.length_cons] at h
    split at ht
    · rcases List.mem_cons.1 ht with rfl | ht
      · omega
      · exact splitL_len r [] n (by simp; omega) t ht
    · exact splitL_len (d :: r) _ n (by simp; omega) t ht
theorem splitList_len {s : Str} : ∀ t ∈ splitList s, t.length ≤ s.length := by
  intro t ht
  unfold splitList at ht
  split at ht
  · cases ht
  · exact splitL_len s [] _ (by simp) t ht
theorem splitL_count : ∀ (r cur : Str), (splitL r cur).length ≤ r.length + 1
  | [], cur => by simp [splitL]
  | [b], cur => by simp [splitL]
  | b :: d :: r, cur => by
    simp only [splitL]
    split
    · have := splitL_count r []; simp; omega
    · have := splitL_count (d :: r) (cur ++ [b]); simp at this ⊢; omega
theorem splitList_count {s : Str} : (splitList s).length ≤ s.length + 1 := by
  unfold splitList
  split
  · simp
  · exact splitL_count s []
section
variable {G : Glob} (hm : pg.follows .mixedOrders = true) (hz : ∀ T, ∀ c ∈ (ttOf pg T).zero, Bd c) (hG : GF G)
include hm hz hG
end
section
variable {G : Glob} (hm : pg.follows .mixedOrders = true) (hz : ∀ T, ∀ c ∈ (ttOf pg T).zero, Bd c) (hG : GF G)
include hm hz hG
end
section
variable {G : Glob} (hm : pg.follows .mixedOrders = true) (hz : ∀ T, ∀ c ∈ (ttOf pg T).zero, Bd c) (hG : GF G)
include hm hz hG
end
section
variable {G : Glob} (hm : pg.follows .mixedOrders = true) (hz : ∀ T, ∀ c ∈ (ttOf pg T).zero, Bd c) (hG : GF G)
include hm hz hG
end
section
variable {A : Bx} {P : Program} {G : Glob} {rg : Option Nat} {own : Nat} {o : Nat → EObj} {g : FuncId} {vs : List C} {sh : Bool} {K : C → List (Nat × EObj) → Prop} {R : Type} {r : R} {V : Vx} {v : Cal × Bool} {f : (List Arg) → Bool → Option R}
variable {U : List C → List Nat → (C → List (Nat × EObj) → Prop) → Prop} {bs : List C} {tops : List Nat}
end
section
variable {G : Glob} (hm : pg.follows .mixedOrders = true) (hz : ∀ T, ∀ c ∈ (ttOf pg T).zero, Bd c) (hG : GF G)
include hm hz hG
end
section
variable {G : Glob} (hm : pg.follows .mixedOrders = true) (hz : ∀ T, ∀ c ∈ (ttOf pg T).zero, Bd c) (hG : GF G)
include hm hz hG
end
end Go.Proofs.YtoofegkjdjlpkaaGreatDoor.M
