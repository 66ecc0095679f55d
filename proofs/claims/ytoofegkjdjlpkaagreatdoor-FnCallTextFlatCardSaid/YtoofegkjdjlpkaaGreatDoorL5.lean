/- FieldsFunc at a space. -/
import Derived.Test.YtoofegkjdjlpkaaGreatDoorL4
set_option linter.unusedVariables false
set_option linter.unusedSimpArgs false
set_option linter.unusedSectionVars false
namespace Go.Proofs.YtoofegkjdjlpkaaGreatDoor.M
open Go Go.Proofs
set_option maxRecDepth 100000
def spP (r : Nat) : Bool := decide (r = 32)
def fieldsS (s : Str) : List Str := (Lib.goFieldsP spP ⟨⟨s⟩⟩).map fun x => x.data.toList
theorem spans_count (p : Nat → Bool) (s : ByteArray) : ∀ (f pos : Nat) (st : Option Nat) (acc : List (Nat × Nat)), (Lib.spansFromP p s f pos st acc).1.length ≤ acc.length + f
  | 0, _, _, acc => by simp [Lib.spansFromP]
  | f + 1, pos, st, acc => by
    unfold Lib.spansFromP
    split
    · split
      · cases st with
        | none => have := spans_count p s f (pos + (Utf8.decode s pos).2) none acc; simp only; omega
        | some a => have := spans_count p s f (pos + (Utf8.decode s pos).2) none (acc ++ [(a, pos)]); simp at this ⊢; omega
      · cases st with
        | none => have := spans_count p s f (pos + (Utf8.decode s pos).2) (some pos) acc; simp only; omega
        | some a => have := spans_count p s f (pos + (Utf8.decode s pos).2) (some a) acc; simp only; omega
    · simp
theorem fieldsS_count {s : Str} : (fieldsS s).length ≤ s.length + 1 := by
  have h := spans_count spP ⟨⟨s⟩⟩ s.length 0 none []
  rw [fieldsS, List.length_map, Lib.goFieldsP, List.length_map, Lib.spansOfP]
  unfold Lib.closeSpans
  simp only [List.length_nil, Nat.zero_add] at h
  have e : (ByteArray.mk ⟨s⟩).size = s.length := rfl
  rw [e]
  split <;> simp <;> omega
theorem fieldsS_part {s x : Str} (h : x ∈ fieldsS s) : x.length ≤ s.length := by
  obtain ⟨y, hy, rfl⟩ := List.mem_map.1 h
  obtain ⟨z, hz, rfl⟩ := List.mem_map.1 hy
  exact ext_size _ _ _
theorem enter_all {f : Nat} {fn : Go.Func} {body : Code} (hf : Tryz.prog.funcs[f]? = some fn) (hn : (fn.name == "runtime.NumGoroutine") = false) (hb : fn.body = some body) : ∀ (args : Array Value) (w : World), (callFunc f args).run Tryz.prog w = .ok (Next.enter f args) w :=
  fun args w => enters_of hf hn hb args w
theorem pred1 (w : World) : PredAt Tryz.prog 124 #[] encR spP w := by
  intro W x hB
  show Calls Tryz.prog 124 #[.int .i32 x] W fun e w' => e = .returned (.bool (spP x)) ∧ ∃ q, w' = W.drewN q
  go_enter Tryz.func124, Tryz.ntmps124
  go_wp2
  all_goals go_ret
  refine ⟨?_, 0, rfl⟩
  show Ending.returned (.bool ((x : Int) == 32)) = .returned (.bool (spP x))
  rw [show ((x : Int) == 32) = spP x by rw [spP, Bool.eq_iff_iff]; simp; omega]
theorem pred2 (w : World) : PredAt Tryz.prog 126 #[] encR spP w := by
  intro W x hB
  show Calls Tryz.prog 126 #[.int .i32 x] W fun e w' => e = .returned (.bool (spP x)) ∧ ∃ q, w' = W.drewN q
  go_enter Tryz.func126, Tryz.ntmps126
  go_wp2
  all_goals go_ret
  refine ⟨?_, 0, rfl⟩
  show Ending.returned (.bool ((x : Int) == 32)) = .returned (.bool (spP x))
  rw [show ((x : Int) == 32) = spP x by rw [spP, Bool.eq_iff_iff]; simp; omega]
theorem arg_fn {w : World} {g : Gh} {o : Nat → Obj} {k : Nat} {v : Value} (h : VA w g o (.fn k []) v) : v = .func (.func k) #[] #[] := by
  have h : VC w g o (.fn k []) v := h
  cases h with
  | closed h => cases h
  | fn _ _ vals hs hc => rw [Array.eq_empty_of_size_eq_zero hs]
section
variable {G : Glob} (hm : pg.follows .mixedOrders = true) (hz : ∀ T, ∀ c ∈ (ttOf pg T).zero, Bd c) (hG : GF G)
include hm hz hG
theorem fields_at (k : Nat) (hk : ∀ w, PredAt Tryz.prog k #[] encR spP w) (hE : ∀ (args : Array Value) (w : World), (callFunc k args).run Tryz.prog w = .ok (Next.enter k args) w) {a1 : Str} (hp : a1.length ≤ 4294967296) : FnOK pg G 123 [.str ⟨⟨a1⟩⟩, .fn k []] [] (.sl ((fieldsS a1).map eS)) [] true := by
  refine lib_ok (by unfold pg; exact Tryz.func123) rfl rfl true rfl rfl rfl (fun ha => ?_) fun w g vals hw hout hsz ha hb => ?_
  · refine bd_rowsS ?_ fun x hx => by have := fieldsS_part hx; omega
    have := @fieldsS_count a1; omega
  · obtain rfl := vals2 hsz (arg_str (ha 0 _ rfl)) (arg_fn (ha 1 _ rfl))
    unfold pg
    refine (Tryz.strings_FieldsFunc k #[] hE spP ⟨⟨a1⟩⟩ w hp (hk w)).mono ?_
    rintro e w' ⟨A, he, hA, ⟨hl, hrow⟩, hB⟩
    rcases hrow with ⟨hv, hn⟩ | ⟨gg, cap, cur, hv, hb', hh, hn, hcap, hcs, hct⟩
    · cases hv
    · cases hv
      refine ⟨_, he, hB, gB A, fun _ => rfl, fun b hb => ?_, lvr_rows (by rw [fieldsS, List.length_map]) (Nat.le_refl _) fun j s hj => ?_⟩
      · have : b = A := hb
        subst this
        refine ⟨hA, ?_⟩
        by_cases hlt : b < w'.heap.size
        · exact hlt
        · rw [Array.getElem?_eq_none (by omega)] at hh; cases hh
      · rw [fieldsS, List.getElem?_map, Option.map_eq_some_iff] at hj
        obtain ⟨x, hx, rfl⟩ := hj
        simp only [World.cell?]
        rw [hh]
        simp only
        have hjl := (List.getElem?_eq_some_iff.1 hx).1
        have : (cur.toList.take ((Lib.goFieldsP spP ⟨⟨a1⟩⟩).length * 1))[j]? = some (Value.string x) := by rw [hct, List.getElem?_map, hx]; rfl
        rw [List.getElem?_take_of_lt (by omega)] at this
        rw [← Array.getElem?_toList]; exact this
end
section
variable {G : Glob} (hm : pg.follows .mixedOrders = true) (hz : ∀ T, ∀ c ∈ (ttOf pg T).zero, Bd c) (hG : GF G)
include hm hz hG
theorem strings_FieldsFunc_1.ok {a1 : Str} (hp : a1.length ≤ 4294967296) : FnOK pg G 123 [.str ⟨⟨a1⟩⟩, .fn 124 []] [] (.sl ((fieldsS a1).map eS)) [] true :=
  fields_at hm hz hG _ pred1 (enter_all Tryz.func124 rfl rfl) hp
theorem strings_FieldsFunc_2.ok {a1 : Str} (hp : a1.length ≤ 4294967296) : FnOK pg G 123 [.str ⟨⟨a1⟩⟩, .fn 126 []] [] (.sl ((fieldsS a1).map eS)) [] true :=
  fields_at hm hz hG _ pred2 (enter_all Tryz.func126 rfl rfl) hp
end
end Go.Proofs.YtoofegkjdjlpkaaGreatDoor.M
