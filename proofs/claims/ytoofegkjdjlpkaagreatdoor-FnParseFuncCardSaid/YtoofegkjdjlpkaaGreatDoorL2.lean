/- The library's functions, as they are called. -/
import Derived.Test.YtoofegkjdjlpkaaGreatDoorL1
set_option linter.unusedVariables false
set_option linter.unusedSimpArgs false
set_option linter.unusedSectionVars false
namespace Go.Proofs.YtoofegkjdjlpkaaGreatDoor.M
open Go Go.Proofs
set_option maxRecDepth 100000
def cutS (s sep : Str) : Str × Str × Bool := Lib.cut s sep
def cutSuf (s p : Str) : Str × Bool := (Lib.trimSuffix s p, Lib.hasSuffix s p)
theorem bd_str {s : Str} (h : Bd (.str ⟨⟨s⟩⟩)) : s.length ≤ 9223372036854775807 := by cases h with | str _ h => exact h
theorem bd_tup2 {a b : C} (ha : Bd a) (hb : Bd b) : Bd (.tup [a, b]) := .tup _ fun c hc => by
  rcases List.mem_cons.1 hc with rfl | hc
  · exact ha
  · rw [List.mem_singleton] at hc; subst hc; exact hb
theorem bd_tup3 {a b d : C} (ha : Bd a) (hb : Bd b) (hd : Bd d) : Bd (.tup [a, b, d]) := .tup _ fun c hc => by
  rcases List.mem_cons.1 hc with rfl | hc
  · exact ha
  · rcases List.mem_cons.1 hc with rfl | hc
    · exact hb
    · rw [List.mem_singleton] at hc; subst hc; exact hd
theorem lvr_tup2 {w : World} {g : Gh} {o : Nat → Obj} {a b : C} {x y : Value} (h1 : VA w g o a x) (h2 : VA w g o b y) : VR w g o (.tup [a, b]) (.tuple #[x, y]) := by
  refine ⟨_, rfl, rfl, fun i c hi => ?_⟩
  match i, hi with
  | 0, hi => cases hi; exact h1
  | 1, hi => cases hi; exact h2
theorem lvr_tup3 {w : World} {g : Gh} {o : Nat → Obj} {a b d : C} {x y z : Value} (h1 : VA w g o a x) (h2 : VA w g o b y) (h3 : VA w g o d z) : VR w g o (.tup [a, b, d]) (.tuple #[x, y, z]) := by
  refine ⟨_, rfl, rfl, fun i c hi => ?_⟩
  match i, hi with
  | 0, hi => cases hi; exact h1
  | 1, hi => cases hi; exact h2
  | 2, hi => cases hi; exact h3
theorem res_tup2 {a b : C} (ha : compOK a) (hb : compOK b) : resShape (.tup [a, b]) := fun v hv => by
  rcases List.mem_cons.1 hv with rfl | hv
  · exact ha
  · rw [List.mem_singleton] at hv; subst hv; exact hb
theorem res_tup3 {a b d : C} (ha : compOK a) (hb : compOK b) (hd : compOK d) : resShape (.tup [a, b, d]) := fun v hv => by
  rcases List.mem_cons.1 hv with rfl | hv
  · exact ha
  · rcases List.mem_cons.1 hv with rfl | hv
    · exact hb
    · rw [List.mem_singleton] at hv; subst hv; exact hd
theorem trimSuf_len (s p : Str) : (Lib.trimSuffix s p).length ≤ s.length := by unfold Lib.trimSuffix; split <;> simp
theorem cut_len1 (s p : Str) : (Lib.cut s p).1.length ≤ s.length := by unfold Lib.cut; split <;> simp; omega
theorem cut_len2 (s p : Str) : (Lib.cut s p).2.1.length ≤ s.length := by unfold Lib.cut; split <;> simp
section
variable {G : Glob} (hm : pg.follows .mixedOrders = true) (hz : ∀ T, ∀ c ∈ (ttOf pg T).zero, Bd c) (hG : GF G)
include hm hz hG
theorem strings_CutSuffix.ok {a1 a2 : Str} : FnOK pg G 109 [.str ⟨⟨a1⟩⟩, .str ⟨⟨a2⟩⟩] [] (.tup [.str ⟨⟨(cutSuf a1 a2).1⟩⟩, .bool (cutSuf a1 a2).2]) [] false := by
  refine lib_ok (by unfold pg; exact Tryz.func109) rfl rfl false (res_tup2 rfl rfl) rfl rfl (fun ha => bd_tup2 (.str _ ?_) (.bool _)) fun w g vals hw hout hsz ha hb => ?_
  · have := bd_str (ha (.str ⟨⟨a1⟩⟩) (by simp)); have := trimSuf_len a1 a2; show (Lib.trimSuffix a1 a2).length ≤ bnd63; unfold bnd63; omega
  · obtain rfl := vals2 hsz (arg_str (ha 0 _ rfl)) (arg_str (ha 1 _ rfl))
    have h := Tryz.strings_CutSuffix ⟨⟨a1⟩⟩ ⟨⟨a2⟩⟩ w (bd_str (hb _ (by simp)))
    unfold pg
    refine h.mono ?_
    rintro e w' ⟨he, rfl⟩
    exact ⟨_, he, .refl _ _, g0, fun _ => rfl, fun b hb => hb.elim, lvr_tup2 (.closed (.str _)) (.closed (.bool _))⟩
theorem strings_HasPrefix.ok {a1 a2 : Str} : FnOK pg G 91 [.str ⟨⟨a1⟩⟩, .str ⟨⟨a2⟩⟩] [] (.bool (Lib.hasPrefix a1 a2)) [] false := by
  refine lib_ok (by unfold pg; exact Tryz.func91) rfl rfl false rfl rfl rfl (fun ha => .bool _) fun w g vals hw hout hsz ha hb => ?_
  obtain rfl := vals2 hsz (arg_str (ha 0 _ rfl)) (arg_str (ha 1 _ rfl))
  have h := Tryz.strings_HasPrefix ⟨⟨a1⟩⟩ ⟨⟨a2⟩⟩ w
  unfold pg
  refine h.mono ?_
  rintro e w' ⟨he, rfl⟩
  exact ⟨_, he, .refl _ _, g0, fun _ => rfl, fun b hb => hb.elim, .closed (.bool _)⟩
theorem strings_Cut.ok {a1 a2 : Str} (hp : a1.length < 4294967281) : FnOK pg G 92 [.str ⟨⟨a1⟩⟩, .str ⟨⟨a2⟩⟩] [] (.tup [.str ⟨⟨(cutS a1 a2).1⟩⟩, .str ⟨⟨(cutS a1 a2).2.1⟩⟩, .bool (cutS a1 a2).2.2]) [] false := by
  refine lib_ok (by unfold pg; exact Tryz.func92) rfl rfl false (res_tup3 rfl rfl rfl) rfl rfl (fun ha => bd_tup3 (.str _ ?_) (.str _ ?_) (.bool _)) fun w g vals hw hout hsz ha hb => ?_
  · have := cut_len1 a1 a2; show (Lib.cut a1 a2).1.length ≤ bnd63; unfold bnd63; omega
  · have := cut_len2 a1 a2; show (Lib.cut a1 a2).2.1.length ≤ bnd63; unfold bnd63; omega
  · obtain rfl := vals2 hsz (arg_str (ha 0 _ rfl)) (arg_str (ha 1 _ rfl))
    obtain ⟨m, hm'⟩ := hG.max w hw
    have h := Tryz.strings_Cut ⟨⟨a1⟩⟩ ⟨⟨a2⟩⟩ m w hp hm'
    unfold pg
    refine h.mono ?_
    rintro e w' ⟨he, n, rfl⟩
    exact ⟨_, he, below_drewN _ _, g0, fun _ => rfl, fun b hb => hb.elim, lvr_tup3 (.closed (.str _)) (.closed (.str _)) (.closed (.bool _))⟩
end
end Go.Proofs.YtoofegkjdjlpkaaGreatDoor.M
