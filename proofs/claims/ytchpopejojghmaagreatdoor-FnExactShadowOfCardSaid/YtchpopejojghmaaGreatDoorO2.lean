/- From cells that fit their kinds to the data structures. -/
import Derived.Test.YtchpopejojghmaaGreatDoorD2
import Derived.Test.YtchpopejojghmaaGreatDoorO1
set_option linter.unusedVariables false
set_option linter.unusedSimpArgs false
namespace Go.Proofs.YtchpopejojghmaaGreatDoor.M
open Go
def FitsL (ks : List Kn) (cs : List C) : Prop := cs.length = ks.length ∧ ∀ (i : Nat) (k : Kn) (c : C), ks[i]? = some k → cs[i]? = some c → Fits k c
theorem fit_str {c : C} (h : Fits .str c) : ∃ l : Str, c = .str ⟨⟨l⟩⟩ := by
 cases h with
 | str s h => exact ⟨s.data.toList, rfl⟩
theorem fit_int {k : IntKind} {c : C} (h : Fits (.int k) c) : ∃ n : Int, c = .int k n := by
 cases h with
 | int k n h => exact ⟨n, rfl⟩
theorem fit_bool {c : C} (h : Fits .bool c) : ∃ b : Bool, c = .bool b := by
 cases h with
 | bool b => exact ⟨b, rfl⟩
theorem rows_of {α : Type} {e : α → List C} : ∀ (xss : List (List C)), (∀ r ∈ xss, ∃ x, r = e x) → ∃ l : List α, xss = l.map e
 | [], _ => ⟨[], rfl⟩
 | r :: xss, h => by
  obtain ⟨x, rfl⟩ := h r (.head _)
  obtain ⟨l, rfl⟩ := rows_of xss fun r hr => h r (.tail _ hr)
  exact ⟨x :: l, rfl⟩
theorem fit_sl {α : Type} {e : α → List C} {row : List Kn} (hX : ∀ cs, FitsL row cs → ∃ x, cs = e x) {c : C} (h : Fits (.sl row) c) : ∃ l : List α, c = .sl (l.map e) := by
 cases h with
 | sl row xss h hl hr =>
  obtain ⟨l, rfl⟩ := rows_of (e := e) xss fun r hr' => hX r ⟨hl r hr', hr r hr'⟩
  exact ⟨l, rfl⟩
theorem fit_Param (cs : List C) (h : FitsL [.str, .int .i64, .bool, .int .i64] cs) : ∃ x : Param, cs = eParam x := by
 obtain ⟨hl, h⟩ := h
 match cs, hl with
 | [c0, c1, c2, c3], _ =>
  obtain ⟨x0, rfl⟩ := fit_str (h 0 _ c0 rfl rfl)
  obtain ⟨x1, rfl⟩ := fit_int (h 1 _ c1 rfl rfl)
  obtain ⟨x2, rfl⟩ := fit_bool (h 2 _ c2 rfl rfl)
  obtain ⟨x3, rfl⟩ := fit_int (h 3 _ c3 rfl rfl)
  exact ⟨⟨x0, x1, x2, x3⟩, rfl⟩
theorem fit_Sig (cs : List C) (h : FitsL [.sl [.str, .int .i64, .bool, .int .i64]] cs) : ∃ x : Sig, cs = eSig x := by
 obtain ⟨hl, h⟩ := h
 match cs, hl with
 | [c0], _ =>
  obtain ⟨x0, rfl⟩ := fit_sl fit_Param (h 0 _ c0 rfl rfl)
  exact ⟨⟨x0⟩, rfl⟩
end Go.Proofs.YtchpopejojghmaaGreatDoor.M
