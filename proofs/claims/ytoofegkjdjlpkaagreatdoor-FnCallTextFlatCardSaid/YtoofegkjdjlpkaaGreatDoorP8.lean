/- The program's reading of calls. -/
import Derived.Test.YtoofegkjdjlpkaaGreatDoorP7
set_option linter.unusedVariables false
set_option linter.unusedSimpArgs false
set_option linter.unusedSectionVars false
namespace Go.Proofs.YtoofegkjdjlpkaaGreatDoor.M
open Go Go.Proofs
set_option maxRecDepth 100000
def allOk {α : Type} (f : Str → α × Bool) : List Str → Option (List α)
  | [] => some []
  | t :: r => if (f t).2 = true then (allOk f r).map fun l => (f t).1 :: l else none
theorem allOk_len {α : Type} {f : Str → α × Bool} : ∀ {l : List Str} {r : List α}, allOk f l = some r → r.length = l.length
  | [], r, h => by cases h; rfl
  | t :: l, r, h => by
    simp only [allOk] at h
    split at h
    · rw [Option.map_eq_some_iff] at h
      obtain ⟨r', h1, rfl⟩ := h
      simp [allOk_len h1]
    · cases h
def readPairI (s : Str) : Pair × Bool := (⟨(cutS s [61]).1, (readNumI (cutS s [61]).2.1).1⟩, (cutS s [61]).2.2 && (readNumI (cutS s [61]).2.1).2)
def enclosed (s f b : Str) : Str × Bool := ((cutSuf (cutPre s f).1 b).1, (cutPre s f).2 && (cutSuf (cutPre s f).1 b).2)
theorem enclosed_len (s f b : Str) : (enclosed s f b).1.length ≤ s.length := Nat.le_trans (trimSuf_len _ _) (trimPre_len _ _)
def arg0 : Arg := ⟨0, [], [], []⟩
def readArgI (s : Str) : Arg × Bool :=
  if (enclosed s [42, 42, 123] [125]).2 = true then
    match allOk readPairI (fieldsS (enclosed s [42, 42, 123] [125]).1) with
    | some l => (⟨3, [], [], l⟩, true)
    | none => (arg0, false)
  else if (enclosed s [42, 91] [93]).2 = true then
    match allOk readNumI (fieldsS (enclosed s [42, 91] [93]).1) with
    | some l => (⟨1, [], l, []⟩, true)
    | none => (arg0, false)
  else if (readNumI s).2 = true then (⟨0, [], [(readNumI s).1], []⟩, true)
  else (⟨2, (readPairI s).1.name, [(readPairI s).1.value], []⟩, (readPairI s).2)
theorem readArgI_len (s : Str) : (readArgI s).1.list.length ≤ s.length + 1 ∧ (readArgI s).1.pairs.length ≤ s.length + 1 := by
  unfold readArgI
  split
  · have := enclosed_len s [42, 42, 123] [125]
    have := @fieldsS_count (enclosed s [42, 42, 123] [125]).1
    cases e : allOk readPairI (fieldsS (enclosed s [42, 42, 123] [125]).1) with
    | none => simp [arg0]
    | some l => have := allOk_len e; simp; omega
  · split
    · have := enclosed_len s [42, 91] [93]
      have := @fieldsS_count (enclosed s [42, 91] [93]).1
      cases e : allOk readNumI (fieldsS (enclosed s [42, 91] [93]).1) with
      | none => simp [arg0]
      | some l => have := allOk_len e; simp; omega
    · split <;> simp
def parseCallI (s : Str) : Cal × Bool :=
  if s = [] then (⟨[]⟩, true)
  else match allOk readArgI (splitS s [44, 32]) with
    | none => (⟨[]⟩, false)
    | some l => if validCall ⟨l⟩ = true ∧ callText ⟨l⟩ = s then (⟨l⟩, true) else (⟨[]⟩, false)
theorem splitS_count {s sep : Str} : (splitS s sep).length ≤ s.length + 2 := by
  rw [splitS, List.length_map]
  have := Lib.splitB_length_le ⟨⟨sep⟩⟩ 0 (Lib.countB ⟨⟨s⟩⟩ ⟨⟨sep⟩⟩) ⟨⟨s⟩⟩
  have : Lib.countB ⟨⟨s⟩⟩ ⟨⟨sep⟩⟩ ≤ s.length + 1 := Lib.count_le s sep
  omega
def on_I_B {R : Type} (v : Int × Bool) (f : Int → Bool → Option R) : Option R := f (v.1) (v.2)
section
variable {A : Bx} {P : Program} {G : Glob} {rg : Option Nat} {own : Nat} {o : Nat → EObj} {g : FuncId} {vs : List C} {sh : Bool} {K : C → List (Nat × EObj) → Prop} {R : Type} {r : R} {V : Vx} {v : Int × Bool} {f : Int → Bool → Option R}
theorem s_cI_B (hV : IsV V) (hA : IsBx true rg P G A) (H : on_I_B v f = some r) (hok : FnOK P G g vs [] (.tup [.int .i64 (v.1), .bool (v.2)]) [] sh) (hc : vs.all closedArg = true) (h : ∀ c0 c1, f c0 c1 = some r → K (.tup [.int .i64 c0, .bool c1]) []) : A.call own o g vs K := by
  refine callT_plain hA hok hc ?_
  have := h (v.1) (v.2) H
  exact this
variable {U : List C → List EObj → (C → List (Nat × EObj) → Prop) → Prop} {bs : List C} {ext : List EObj}
end
def on_S_S_B {R : Type} (v : Str × Str × Bool) (f : Str → Str → Bool → Option R) : Option R := f (v.1) (v.2.1) (v.2.2)
section
variable {A : Bx} {P : Program} {G : Glob} {rg : Option Nat} {own : Nat} {o : Nat → EObj} {g : FuncId} {vs : List C} {sh : Bool} {K : C → List (Nat × EObj) → Prop} {R : Type} {r : R} {V : Vx} {v : Str × Str × Bool} {f : Str → Str → Bool → Option R}
theorem s_cS_S_B (hV : IsV V) (hA : IsBx true rg P G A) (H : on_S_S_B v f = some r) (hok : FnOK P G g vs [] (.tup [.str ⟨⟨(v.1)⟩⟩, .str ⟨⟨(v.2.1)⟩⟩, .bool (v.2.2)]) [] sh) (hc : vs.all closedArg = true) (h : ∀ c0 c1 c2, f c0 c1 c2 = some r → K (.tup [.str ⟨⟨c0⟩⟩, .str ⟨⟨c1⟩⟩, .bool c2]) []) : A.call own o g vs K := by
  refine callT_plain hA hok hc ?_
  have := h (v.1) (v.2.1) (v.2.2) H
  exact this
variable {U : List C → List EObj → (C → List (Nat × EObj) → Prop) → Prop} {bs : List C} {ext : List EObj}
end
noncomputable def impl_readPair.f (a1 : Str)  (z_ : Pair × Bool) : Option (Pair × Bool) := (gd (a1.length < 4294967281) (on_S_S_B (cutS a1 ([61])) fun v2 v3 v4 => (gd (v3.length ≤ 281474976710656) (on_I_B (readNumI v3) fun v5 v6 => (cn v4 (some (⟨v2, v5⟩, v6)) (some (⟨v2, v5⟩, false)))))))
section
variable {G : Glob} (hm : pg.follows .mixedOrders = true) (hz : ∀ T, ∀ c ∈ (ttOf pg T).zero, Bd c) (hG : GF G)
include hm hz hG
theorem impl_readPair.w {a1 : Str}  {r : Pair × Bool} (H : impl_readPair.f a1  r = some r) : FnOK pg G 125 [.str ⟨⟨a1⟩⟩] [] (.tup [.agg [.str ⟨⟨(r.1.name)⟩⟩, .int .i64 (r.1.value)], .bool (r.2)]) [] false := by
  obtain ⟨V, hV⟩ := exV
  refine fn_ok (tt0 := tyG [ty3, ty4, ty9, ty80]) (fn := Tryz.f125) (body := bodyOf Tryz.f125) (ext := []) hm (tyG_sub ⟨tt3, tt4, tt9, tt80, trivial⟩) hz 0 true [] (by unfold pg; exact Tryz.func125) rfl rfl (by simp [Tryz.f125]) (by simp [EObj.toObj]) (by cbv) ?_
  intro A F hA hF
  unfold impl_readPair.f at H
  cbv
  repeat' (first
    | (with_reducible refine s_gd H (fun hg H => ?_))
    | (cases H; exact fin_plain hF rfl rfl rfl rfl)
    | (with_reducible refine s_lv H (fun _ H => ?_); cbv)
    | (with_reducible refine s_cS_S_B hV hA H (by with_unfolding_all exact strings_Cut.ok hm hz hG (by first | assumption | omega)) rfl (fun _ _ _ H => ?_); cbv)
    | (with_reducible refine s_cI_B hV hA H (by with_unfolding_all exact impl_readNumber.ok hm hz hG (by first | assumption | omega)) rfl (fun _ _ H => ?_); cbv)
    | (with_reducible refine indep_of hA ?_; cbv)
    | ((with_reducible refine side ?_); exact sideOf)
    | (with_reducible refine s_tk1 ?_; cbv)
    | (with_reducible refine And.intro ?_ ?_)
    | ((with_reducible refine s_cn H (fun hb H => ?_) (fun hb H => ?_)) <;> (revert H; subst hb; intro H; cbv))
    | (intro ys hys; subst hys; rfl)
    | rfl)
end
section
variable {G : Glob} (hm : pg.follows .mixedOrders = true) (hz : ∀ T, ∀ c ∈ (ttOf pg T).zero, Bd c) (hG : GF G)
include hm hz hG
theorem impl_readPair.ok {a1 : Str} (hp : a1.length ≤ 1048576) : FnOK pg G 125 [.str ⟨⟨a1⟩⟩] [] (.tup [.agg [.str ⟨⟨((readPairI a1).1.name)⟩⟩, .int .i64 ((readPairI a1).1.value)], .bool ((readPairI a1).2)]) [] false := by
  refine impl_readPair.w hm hz hG ?_
  have := cut_len2 a1 [61]
  simp only [impl_readPair.f, on_S_S_B, on_I_B]
  rw [gd_ok (by omega), gd_ok (by show (Lib.cut a1 [61]).2.1.length ≤ _; omega), readPairI]
  cases (cutS a1 [61]).2.2 <;> rfl
end
def on_S_B {R : Type} (v : Str × Bool) (f : Str → Bool → Option R) : Option R := f (v.1) (v.2)
section
variable {A : Bx} {P : Program} {G : Glob} {rg : Option Nat} {own : Nat} {o : Nat → EObj} {g : FuncId} {vs : List C} {sh : Bool} {K : C → List (Nat × EObj) → Prop} {R : Type} {r : R} {V : Vx} {v : Str × Bool} {f : Str → Bool → Option R}
theorem s_cS_B (hV : IsV V) (hA : IsBx true rg P G A) (H : on_S_B v f = some r) (hok : FnOK P G g vs [] (.tup [.str ⟨⟨(v.1)⟩⟩, .bool (v.2)]) [] sh) (hc : vs.all closedArg = true) (h : ∀ c0 c1, f c0 c1 = some r → K (.tup [.str ⟨⟨c0⟩⟩, .bool c1]) []) : A.call own o g vs K := by
  refine callT_plain hA hok hc ?_
  have := h (v.1) (v.2) H
  exact this
variable {U : List C → List EObj → (C → List (Nat × EObj) → Prop) → Prop} {bs : List C} {ext : List EObj}
end
noncomputable def impl_enclosed.f (a1 : Str) (a2 : Str) (a3 : Str)  (z_ : Str × Bool) : Option (Str × Bool) := (on_S_B (cutPre a1 a2) fun v4 v5 => (on_S_B (cutSuf v4 a3) fun v6 v7 => (cn v5 (some (v6, v7)) (some (v6, false)))))
section
variable {G : Glob} (hm : pg.follows .mixedOrders = true) (hz : ∀ T, ∀ c ∈ (ttOf pg T).zero, Bd c) (hG : GF G)
include hm hz hG
theorem impl_enclosed.w {a1 : Str} {a2 : Str} {a3 : Str}  {r : Str × Bool} (H : impl_enclosed.f a1 a2 a3  r = some r) : FnOK pg G 122 [.str ⟨⟨a1⟩⟩, .str ⟨⟨a2⟩⟩, .str ⟨⟨a3⟩⟩] [] (.tup [.str ⟨⟨(r.1)⟩⟩, .bool (r.2)]) [] false := by
  obtain ⟨V, hV⟩ := exV
  refine fn_ok (tt0 := tyG [ty4, ty9]) (fn := Tryz.f122) (body := bodyOf Tryz.f122) (ext := []) hm (tyG_sub ⟨tt4, tt9, trivial⟩) hz 0 true [] (by unfold pg; exact Tryz.func122) rfl rfl (by simp [Tryz.f122]) (by simp [EObj.toObj]) (by cbv) ?_
  intro A F hA hF
  unfold impl_enclosed.f at H
  cbv
  repeat' (first
    | (cases H; exact fin_plain hF rfl rfl rfl rfl)
    | (with_reducible refine s_lv H (fun _ H => ?_); cbv)
    | (with_reducible refine s_cS_B hV hA H (by with_unfolding_all exact strings_CutPrefix.ok hm hz hG) rfl (fun _ _ H => ?_); cbv)
    | (with_reducible refine s_cS_B hV hA H (by with_unfolding_all exact strings_CutSuffix.ok hm hz hG) rfl (fun _ _ H => ?_); cbv)
    | (with_reducible refine indep_of hA ?_; cbv)
    | ((with_reducible refine side ?_); exact sideOf)
    | (with_reducible refine s_tk1 ?_; cbv)
    | (with_reducible refine And.intro ?_ ?_)
    | ((with_reducible refine s_cn H (fun hb H => ?_) (fun hb H => ?_)) <;> (revert H; subst hb; intro H; cbv))
    | (intro ys hys; subst hys; rfl)
    | rfl)
end
section
variable {G : Glob} (hm : pg.follows .mixedOrders = true) (hz : ∀ T, ∀ c ∈ (ttOf pg T).zero, Bd c) (hG : GF G)
include hm hz hG
theorem impl_enclosed.ok {a1 : Str} {a2 : Str} {a3 : Str}  : FnOK pg G 122 [.str ⟨⟨a1⟩⟩, .str ⟨⟨a2⟩⟩, .str ⟨⟨a3⟩⟩] [] (.tup [.str ⟨⟨((enclosed a1 a2 a3).1)⟩⟩, .bool ((enclosed a1 a2 a3).2)]) [] false := by
  refine impl_enclosed.w hm hz hG ?_
  simp only [impl_enclosed.f, on_S_B]
  rw [enclosed]
  cases (cutPre a1 a2).2 <;> rfl
end
noncomputable def slices_Clip_Arg.f (a1 : List Arg)  (z_ : (List Arg)) : Option ((List Arg)) := (ln' z_ (a1.length) fun v2 => (ln' z_ (a1.length) fun v3 => (gd (v2.toNat = a1.length ∧ v3.toNat = a1.length ∧ 0 ≤ v2 ∧ 0 ≤ v3) (some a1))))
section
variable {G : Glob} (hm : pg.follows .mixedOrders = true) (hz : ∀ T, ∀ c ∈ (ttOf pg T).zero, Bd c) (hG : GF G)
include hm hz hG
theorem slices_Clip_Arg.w {a1 : List Arg}  {r : (List Arg)} (H : slices_Clip_Arg.f a1  r = some r) : FnOK pg G 66 [.sl (a1.map eArg)] [] (.sl (r.map eArg)) [] true := by
  obtain ⟨V, hV⟩ := exV
  have e0_I : V.rI [] = [] := hV.rI []
  have e1_I : ∀ x r, V.rI (x :: r) = eI x :: V.rI r := fun x r => by rw [hV.rI, hV.rI]; rfl
  have e0_Pair : V.rPair [] = [] := hV.rPair []
  have e1_Pair : ∀ x r, V.rPair (x :: r) = ePair x :: V.rPair r := fun x r => by rw [hV.rPair, hV.rPair]; rfl
  have e0_Arg : V.rArg [] = [] := hV.rArg []
  simp only [← hV.rI, ← hV.rPair, ← hV.rArg]
  refine fn_okS (tt0 := tyG [ty3, ty9, ty22, ty36, ty37, ty74, ty80]) (fn := Tryz.f66) (body := bodyOf Tryz.f66) (ext := []) hm (tyG_sub ⟨tt3, tt9, tt22, tt36, tt37, tt74, tt80, trivial⟩) hz 0 [] (by unfold pg; exact Tryz.func66) rfl rfl (by simp [Tryz.f66]) (by simp [EObj.toObj]) (by cbv) ?_
  intro A F hA hF
  unfold slices_Clip_Arg.f at H
  cbv
  repeat' (first
    | (with_reducible refine s_gd H (fun hg H => ?_))
    | (cases H; (try simp only [e0_I, e0_Pair, e0_Arg, e1_I, eI, e1_Pair, ePair] at hF); with_reducible refine fin_close hF rfl (by simp [expIds, posCells, C.cells, idOf]) ?_; cbv)
    | (with_reducible refine s_ln H lnOf (fun _ H => ?_); cbv)
    | (with_reducible refine s_lv H (fun _ H => ?_); cbv)
    | (with_reducible refine indep_of hA ?_; cbv)
    | ((with_reducible refine side ?_); exact sideOf)
    | (with_reducible refine s_tkG hV.rI hV.nI ?_; cbv)
    | (with_reducible refine s_tkG hV.rPair hV.nPair ?_; cbv)
    | (with_reducible refine s_tkG hV.rArg hV.nArg ?_; cbv)
    | (with_reducible refine s_tk1 ?_; cbv)
    | (with_reducible refine And.intro ?_ ?_)
    | (intro ys hys; subst hys; rfl)
    | rfl)
end
section
variable {G : Glob} (hm : pg.follows .mixedOrders = true) (hz : ∀ T, ∀ c ∈ (ttOf pg T).zero, Bd c) (hG : GF G)
include hm hz hG
theorem slices_Clip_Arg.ok {a1 : List Arg}  : FnOK pg G 66 [.sl (a1.map eArg)] [] (.sl ((((fun (l : List Arg) => l) a1)).map eArg)) [] true := by
  refine slices_Clip_Arg.w hm hz hG ?_
  simp only [slices_Clip_Arg.f]
  refine ln_ok fun _ => ln_ok fun _ => ?_
  rw [gd_ok (by omega)]
end
end Go.Proofs.YtoofegkjdjlpkaaGreatDoor.M
