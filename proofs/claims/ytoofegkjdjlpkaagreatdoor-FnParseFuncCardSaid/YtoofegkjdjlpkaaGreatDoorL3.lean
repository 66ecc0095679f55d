/- impl.readNumber, walked by hand: it holds an error against nil. -/
import Derived.Test.YtoofegkjdjlpkaaGreatDoorL2
import Derived.WalkSpells
import Derived.WalkLawsBesides
import Derived.Outline
set_option linter.unusedVariables false
set_option linter.unusedSimpArgs false
set_option linter.unusedSectionVars false
namespace Go.Proofs.YtoofegkjdjlpkaaGreatDoor.M
open Go Go.Proofs Go.RowKit
theorem below_grow {w : World} {k : Nat} {os : Array Go.Obj} : Below w.heap.size w (Sort.grow (w.drewN k) os) := by
  refine ⟨rfl, rfl, rfl, ?_, fun b hb => ?_⟩
  · show w.heap.size ≤ (w.heap ++ os).size; simp
  · show (w.heap ++ os)[b]? = _; rw [Array.getElem?_append_left hb]
theorem below_bytes {w : World} {e : TypeId} {s : ByteArray} : Below w.heap.size w (Lib.bytesWorld w e s) := Lib.bytesWorld_below _ _ _
theorem raw_ok {s : Str} {v : Int} (w : World) (hs : s.length ≤ 9223372036854775806) (hv : Lib.atoiAll s = .ok v) (h0 : -9223372036854775808 ≤ v) (h1 : v ≤ 9223372036854775807)
    (ht : ∀ w1, Below w.heap.size w w1 → Lib.TabIs Tryz.prog w1 "internal/strconv.uint64pow10" .u64 Lib.pow10Tab) :
    Calls Tryz.prog 93 #[.string ⟨⟨s⟩⟩] w fun e w' => e = .returned (.tuple #[.int .i64 v, .bool (decide (Lib.itoa v = s))]) ∧ Below w.heap.size w w' := by
  have A1 : Calls Tryz.prog 163 #[.string ⟨⟨s⟩⟩] w fun e w' => e = .returned (.tuple #[.int .i64 v, .nilIface]) ∧ Below w.heap.size w w' := by
    refine (Tryz.strconv_Atoi_ok ⟨⟨s⟩⟩ hs v hv w).mono ?_
    rintro e w' ⟨he, rfl | ⟨t, rfl⟩⟩
    · exact ⟨he, .refl _ _⟩
    · exact ⟨he, below_bytes⟩
  have A2 : ∀ w1, Below w.heap.size w w1 → Calls Tryz.prog 164 #[.int .i64 v] w1 fun e w' => e = .returned (.string ⟨⟨Lib.itoa v⟩⟩) ∧ Below w1.heap.size w1 w' := fun w1 hB => by
    refine (Tryz.strconv_Itoa v h0 h1 w1 (ht w1 hB)).mono ?_
    rintro e w' ⟨he, k, os, rfl⟩
    exact ⟨he, below_grow⟩
  go_enter Tryz.func93, Tryz.ntmps93
  go_wp2_with (first
    | (go_at_call 163; refine A1.mono ?_; rintro e w1 ⟨rfl, hB1⟩)
    | (go_at_call 164; refine (A2 _ hB1).mono ?_; rintro e w2 ⟨rfl, hB2⟩))
  go_ret2
  refine ⟨?_, hB1.trans (hB2.mono hB1.size)⟩
  rw [show (Lib.itoa v == s) = decide (Lib.itoa v = s) by rw [Bool.eq_iff_iff]; simp]
  rfl
theorem raw_fail {s : Str} {n : Int} (w : World) (h : Calls Tryz.prog 163 #[.string ⟨⟨s⟩⟩] w fun e w' => ∃ N, e = .returned (.tuple #[.int .i64 n, .iface 189 (.pointer (some ⟨N, 0, none⟩))]) ∧ Below w.heap.size w w') :
    Calls Tryz.prog 93 #[.string ⟨⟨s⟩⟩] w fun e w' => e = .returned (.tuple #[.int .i64 n, .bool false]) ∧ Below w.heap.size w w' := by
  go_enter Tryz.func93, Tryz.ntmps93
  go_wp2_with (go_at_call 163; refine h.mono ?_; rintro e w1 ⟨N, rfl, hB1⟩)
  go_ret2
  exact ⟨rfl, hB1⟩
def readNumI (s : Str) : Int × Bool :=
  match Lib.atoiAll s with
  | .ok v => (v, decide (Lib.itoa v = s))
  | .range => (Lib.atoiSat s, false)
  | _ => (0, false)
section
variable {G : Glob} (hm : pg.follows .mixedOrders = true) (hz : ∀ T, ∀ c ∈ (ttOf pg T).zero, Bd c) (hG : GF G)
include hm hz hG
theorem impl_readNumber.ok {a1 : Str} (hp : a1.length ≤ 281474976710656) : FnOK pg G 93 [.str ⟨⟨a1⟩⟩] [] (.tup [.int .i64 (readNumI a1).1, .bool (readNumI a1).2]) [] false := by
  refine lib_ok (by unfold pg; exact Tryz.func93) rfl rfl false (res_tup2 rfl rfl) rfl rfl (fun ha => bd_tup2 (.int _ _) (.bool _)) fun w g vals hw hout hsz ha hb => ?_
  obtain rfl := vals1 hsz (arg_str (ha 0 _ rfl))
  have key : Calls pg 93 #[.string ⟨⟨a1⟩⟩] w fun e w' => e = .returned (.tuple #[.int .i64 (readNumI a1).1, .bool (readNumI a1).2]) ∧ Below w.heap.size w w' := by
    unfold readNumI
    cases hv : Lib.atoiAll a1
    case ok v =>
      have hW : ∀ w1, Below w.heap.size w w1 → World.var? pg w1 "internal/strconv.uint64pow10" = some (Lib.pow10Tab.map fun z => Value.int .u64 z).toArray := fun w1 hB => hG.pow w1 (G.loc w w1 (fun b hb => hB.block b (hout b hb)) hw)
      unfold pg at hW ⊢
      exact raw_ok w (by show List.length _ ≤ _; omega) hv (Lib.atoiAll_bounds hv).1 (Lib.atoiAll_bounds hv).2 hW
    case range =>
      obtain ⟨tp, p, hs⟩ := hG.ran w hw
      unfold pg at hs ⊢
      refine raw_fail w ((Tryz.strconv_Atoi_range_var ⟨⟨a1⟩⟩ hp hv tp p w hs).mono ?_)
      rintro e w' ⟨N, he, _, _, hB⟩
      exact ⟨N, he, hB⟩
    · obtain ⟨tp, p, hs⟩ := hG.syn w hw
      unfold pg at hs ⊢
      refine raw_fail w ((Tryz.strconv_Atoi_bad_var ⟨⟨a1⟩⟩ hp (by rw [toList_data, hv]) tp p w hs).mono ?_)
      rintro e w' ⟨N, he, _, _, hB⟩
      exact ⟨N, he, hB⟩
  refine key.mono ?_
  rintro e w' ⟨he, hB⟩
  exact ⟨_, he, hB, g0, fun _ => rfl, fun b hb => hb.elim, lvr_tup2 (.closed (.int _ _)) (.closed (.bool _))⟩
end
end Go.Proofs.YtoofegkjdjlpkaaGreatDoor.M
