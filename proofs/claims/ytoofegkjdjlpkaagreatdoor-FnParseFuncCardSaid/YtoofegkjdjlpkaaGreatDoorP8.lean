/- The program's reading of calls. -/
import Derived.Test.YtoofegkjdjlpkaaGreatDoorP7
set_option linter.unusedVariables false
set_option linter.unusedSimpArgs false
set_option linter.unusedSectionVars false
namespace Go.Proofs.YtoofegkjdjlpkaaGreatDoor.M
open Go Go.Proofs
set_option maxRecDepth 100000
theorem splitS_count {s sep : Str} : (splitS s sep).length ≤ s.length + 2 := by
  rw [splitS, List.length_map]
  have := Lib.splitB_length_le ⟨⟨sep⟩⟩ 0 (Lib.countB ⟨⟨s⟩⟩ ⟨⟨sep⟩⟩) ⟨⟨s⟩⟩
  have : Lib.countB ⟨⟨s⟩⟩ ⟨⟨sep⟩⟩ ≤ s.length + 1 := Lib.count_le s sep
  omega
def on_I_B {R : Type} (v : Int × Bool) (f : Int → Bool → Option R) : Option R := f (v.1) (v.2)
section
variable {A : Bx} {P : Program} {G : Glob} {rg : Option Nat} {own : Nat} {o : Nat → EObj} {g : FuncId} {vs : List C} {sh : Bool} {K : C → List (Nat × EObj) → Prop} {R : Type} {r : R} {V : Vx} {v : Int × Bool} {f : Int → Bool → Option R}
theorem s_cI_B (hV : IsV V) (hA : IsBx true rg P G A) (H : on_I_B v f = some r) (hok : FnOK P G g vs [] (.tup [.int .i64 (v.1), .bool (v.2)]) [] sh) (hc : vs.all closedArg = true) (h : ∀ c0 c1, f c0 c1 = some r → K (.tup [.int .i64 c0, .bool c1]) []) : A.call own o g vs K := by
  refine callT_plain hA hok hc ?_
  have := h (v.1) (v.2) H
  exact this
variable {U : List C → List EObj → (C → List (Nat × EObj) → Prop) → Prop} {bs : List C} {ext : List EObj}
end
def on_S_S_B {R : Type} (v : Str × Str × Bool) (f : Str → Str → Bool → Option R) : Option R := f (v.1) (v.2.1) (v.2.2)
section
variable {A : Bx} {P : Program} {G : Glob} {rg : Option Nat} {own : Nat} {o : Nat → EObj} {g : FuncId} {vs : List C} {sh : Bool} {K : C → List (Nat × EObj) → Prop} {R : Type} {r : R} {V : Vx} {v : Str × Str × Bool} {f : Str → Str → Bool → Option R}
theorem s_cS_S_B (hV : IsV V) (hA : IsBx true rg P G A) (H : on_S_S_B v f = some r) (hok : FnOK P G g vs [] (.tup [.str ⟨⟨(v.1)⟩⟩, .str ⟨⟨(v.2.1)⟩⟩, .bool (v.2.2)]) [] sh) (hc : vs.all closedArg = true) (h : ∀ c0 c1 c2, f c0 c1 c2 = some r → K (.tup [.str ⟨⟨c0⟩⟩, .str ⟨⟨c1⟩⟩, .bool c2]) []) : A.call own o g vs K := by
  refine callT_plain hA hok hc ?_
  have := h (v.1) (v.2.1) (v.2.2) H
  exact this
variable {U : List C → List EObj → (C → List (Nat × EObj) → Prop) → Prop} {bs : List C} {ext : List EObj}
end
section
variable {G : Glob} (hm : pg.follows .mixedOrders = true) (hz : ∀ T, ∀ c ∈ (ttOf pg T).zero, Bd c) (hG : GF G)
include hm hz hG
end
section
variable {G : Glob} (hm : pg.follows .mixedOrders = true) (hz : ∀ T, ∀ c ∈ (ttOf pg T).zero, Bd c) (hG : GF G)
include hm hz hG
end
def on_S_B {R : Type} (v : Str × Bool) (f : Str → Bool → Option R) : Option R := f (v.1) (v.2)
section
variable {A : Bx} {P : Program} {G : Glob} {rg : Option Nat} {own : Nat} {o : Nat → EObj} {g : FuncId} {vs : List C} {sh : Bool} {K : C → List (Nat × EObj) → Prop} {R : Type} {r : R} {V : Vx} {v : Str × Bool} {f : Str → Bool → Option R}
theorem s_cS_B (hV : IsV V) (hA : IsBx true rg P G A) (H : on_S_B v f = some r) (hok : FnOK P G g vs [] (.tup [.str ⟨⟨(v.1)⟩⟩, .bool (v.2)]) [] sh) (hc : vs.all closedArg = true) (h : ∀ c0 c1, f c0 c1 = some r → K (.tup [.str ⟨⟨c0⟩⟩, .bool c1]) []) : A.call own o g vs K := by
  refine callT_plain hA hok hc ?_
  have := h (v.1) (v.2) H
  exact this
variable {U : List C → List EObj → (C → List (Nat × EObj) → Prop) → Prop} {bs : List C} {ext : List EObj}
end
section
variable {G : Glob} (hm : pg.follows .mixedOrders = true) (hz : ∀ T, ∀ c ∈ (ttOf pg T).zero, Bd c) (hG : GF G)
include hm hz hG
end
section
variable {G : Glob} (hm : pg.follows .mixedOrders = true) (hz : ∀ T, ∀ c ∈ (ttOf pg T).zero, Bd c) (hG : GF G)
include hm hz hG
end
section
variable {G : Glob} (hm : pg.follows .mixedOrders = true) (hz : ∀ T, ∀ c ∈ (ttOf pg T).zero, Bd c) (hG : GF G)
include hm hz hG
end
section
variable {G : Glob} (hm : pg.follows .mixedOrders = true) (hz : ∀ T, ∀ c ∈ (ttOf pg T).zero, Bd c) (hG : GF G)
include hm hz hG
end
end Go.Proofs.YtoofegkjdjlpkaaGreatDoor.M
