/- The reference's parser of signatures. -/
import Derived.Test.YtoofegkjdjlpkaaGreatDoorV2
set_option linter.unusedVariables false
set_option linter.unusedSimpArgs false
set_option linter.unusedSectionVars false
namespace Go.Proofs.YtoofegkjdjlpkaaGreatDoor.M
open Go Go.Proofs
set_option maxRecDepth 100000
def foldP (step : Str → List Param × Int → Option (List Param × Int)) : List Str → List Param × Int → Option (List Param × Int)
  | [], s => some s
  | t :: r, s => match step t s with
    | some s' => foldP step r s'
    | none => none
theorem foldP_app {step : Str → List Param × Int → Option (List Param × Int)} : ∀ {a b : List Str} {s s' : List Param × Int}, foldP step a s = some s' → foldP step (a ++ b) s = foldP step b s'
  | [], b, s, s', h => by cases h; rfl
  | t :: a, b, s, s', h => by
    simp only [foldP, List.cons_append] at h ⊢
    cases e : step t s with
    | none => rw [e] at h; cases h
    | some s1 => rw [e] at h; simp only at h ⊢; exact foldP_app h
def setKind (k : Int) (p : Param) : Param := ⟨p.name, k, p.hasDefault, p.dflt⟩
structure Steps (step : Str → List Param × Int → Option (List Param × Int)) : Prop where
  hS : ∀ acc k, (∀ q ∈ acc, q.kind = 1) → step [47] (acc, k) = some (acc.map (setKind 0), k)
  hT : ∀ acc k, step [42] (acc, k) = some (acc, 3)
  hP : ∀ p acc k, k ≠ 2 → validParam p = true → (p.kind = 0 ∨ p.kind = 1 ∨ p.kind = 3) → step (paramText p) (acc, k) = some (acc ++ [setKind k p], k)
  hR : ∀ p acc k, validParam p = true → p.kind = 2 → step (paramText p) (acc, k) = some (acc ++ [p], 3)
  hM : ∀ p acc k, validParam p = true → p.kind = 4 → step (paramText p) (acc, k) = some (acc ++ [p], k)
def accOf (pre r : List Param) : List Param := if next0 r = true then pre.map (setKind 1) else pre
def kOf (pre : List Param) : Int := if hasK 2 pre || hasK 3 pre then 3 else 1
theorem setKind_self (p : Param) : setKind p.kind p = p := rfl
theorem set01 {l : List Param} (h : ∀ q ∈ l, q.kind = 0) : (l.map (setKind 1)).map (setKind 0) = l := by
  rw [List.map_map]
  conv => rhs; rw [← List.map_id l]
  exact List.map_congr_left fun q hq => by
    obtain ⟨n, k, d, v⟩ := q
    have := h _ hq
    simp only at this
    subst this; rfl
theorem kOf_low {l : List Param} (h : ∀ q ∈ l, q.kind ≤ 1) : kOf l = 1 := by
  unfold kOf hasK
  rw [if_neg]
  simp only [Bool.or_eq_true, List.any_eq_true, decide_eq_true_eq, not_or, not_exists, not_and]
  exact ⟨fun q hq e => by have := h q hq; omega, fun q hq e => by have := h q hq; omega⟩
theorem kOf_snoc {l : List Param} {p : Param} : kOf (l ++ [p]) = if p.kind = 2 ∨ p.kind = 3 then 3 else kOf l := by
  unfold kOf hasK
  by_cases h2 : p.kind = 2 <;> by_cases h3 : p.kind = 3 <;> simp [h2, h3]
theorem next0_ge {p : Param} {r : List Param} (h : ∀ q ∈ r, p.kind ≤ q.kind) (hp : 1 ≤ p.kind) : next0 r = false := by
  cases r with
  | nil => rfl
  | cons q r => have := h q (by simp); simp only [next0, decide_eq_false_iff_not]; omega
theorem rt {step : Str → List Param × Int → Option (List Param × Int)} (hs : Steps step) : ∀ (r pre : List Param), (∀ p ∈ r, validParam p = true) → sortedK (pre ++ r) →  (∀ q ∈ pre, 0 ≤ q.kind) →
    foldP step (sigParts (hasK 2 (pre ++ r)) (last3 pre) r) (accOf pre r, kOf pre) = some (pre ++ r, kOf (pre ++ r))
  | [], pre, _, _, _ => by simp [sigParts, foldP, accOf, next0]
  | p :: r, pre, hv, hso, h0 => by
    have hvp := hv p (by simp)
    have hk := kind_rng hvp
    have hpre : ∀ q ∈ pre, q.kind ≤ p.kind := fun q hq => (List.pairwise_append.1 hso).2.2 q hq p (by simp)
    have hr : ∀ q ∈ r, p.kind ≤ q.kind := fun q hq => (List.pairwise_cons.1 (List.pairwise_append.1 hso).2.1).1 q hq
    have e1 : pre ++ p :: r = (pre ++ [p]) ++ r := by simp
    have ih := rt hs r (pre ++ [p]) (fun q hq => hv q (by simp [hq])) (by rw [← e1]; exact hso) (fun q hq => by
      rcases List.mem_append.1 hq with h | h
      · exact h0 q h
      · rw [List.mem_singleton] at h; subst h; exact hk.1)
    rw [← e1, last3_snoc] at ih
    have hstar : foldP step (starOf (hasK 2 (pre ++ p :: r)) (last3 pre) p) (accOf pre (p :: r), kOf pre) = some (accOf pre (p :: r), if p.kind = 3 then 3 else kOf pre) := by
      unfold starOf
      by_cases h3 : p.kind = 3
      · have i3 : is3 p = true := by simp [is3, h3]
        rw [i3, if_pos h3]
        cases hh : hasK 2 (pre ++ p :: r) with
        | true =>
          have : hasK 2 pre = true := by
            simp only [hasK, List.any_append, Bool.or_eq_true, List.any_eq_true, List.mem_cons, decide_eq_true_eq] at hh ⊢
            rcases hh with h | ⟨q, h | h, e⟩
            · exact h
            · subst h; omega
            · have := hr q h; omega
          simp [foldP, kOf, this]
        | false =>
          cases hl : last3 pre with
          | true =>
            have : hasK 3 pre = true := by
              unfold last3 at hl
              split at hl
              · rename_i q hq
                exact List.any_eq_true.2 ⟨q, List.mem_of_getLast? hq, hl⟩
              · cases hl
            simp [foldP, kOf, this]
          | false => simp [foldP, hs.hT]
      · have i3 : is3 p = false := by simp [is3, h3]
        rw [i3, if_neg h3]; simp [foldP]
    have hone : foldP step (paramText p :: slashOf p r) (accOf pre (p :: r), if p.kind = 3 then 3 else kOf pre) = some (accOf (pre ++ [p]) r, kOf (pre ++ [p])) := by
      rcases (by omega : p.kind = 0 ∨ p.kind = 1 ∨ p.kind = 2 ∨ p.kind = 3 ∨ p.kind = 4) with k | k | k | k | k
      · have a0 : ∀ q ∈ pre, q.kind = 0 := fun q hq => by have := hpre q hq; have := h0 q hq; omega
        have ek : kOf pre = 1 := kOf_low fun q hq => by rw [a0 q hq]; omega
        have e2 : accOf pre (p :: r) = pre.map (setKind 1) := by simp [accOf, next0, k]
        have e3 : kOf (pre ++ [p]) = 1 := by rw [kOf_snoc, if_neg (by omega), ek]
        rw [e2, e3, if_neg (by omega), ek]
        simp only [foldP, hs.hP p _ 1 (by decide) hvp (.inl k)]
        have e4 : pre.map (setKind 1) ++ [setKind 1 p] = (pre ++ [p]).map (setKind 1) := by simp
        rw [e4]
        unfold slashOf accOf
        cases hn : next0 r with
        | true => simp [foldP]
        | false =>
          simp only [k, decide_true, Bool.not_false, Bool.and_true, if_true, foldP, Bool.false_eq_true, if_false]
          rw [hs.hS _ 1 (fun q hq => by obtain ⟨x, _, rfl⟩ := List.mem_map.1 hq; rfl), set01]
          intro q hq
          rcases List.mem_append.1 hq with h | h
          · exact a0 q h
          · rw [List.mem_singleton] at h; subst h; exact k
      all_goals
        have e2 : accOf pre (p :: r) = pre := by simp [accOf, next0, k]
        have e3 : accOf (pre ++ [p]) r = pre ++ [p] := by rw [accOf, next0_ge hr (by omega)]; rfl
        have e4 : slashOf p r = [] := by simp [slashOf, k]
        rw [e2, e3, e4, kOf_snoc]
      · have ek : kOf pre = 1 := kOf_low fun q hq => by have := hpre q hq; omega
        rw [if_neg (by omega), if_neg (by omega), ek]
        simp only [foldP, hs.hP p _ 1 (by decide) hvp (.inr (.inl k))]
        rw [← k, setKind_self]
      · rw [if_neg (by omega), if_pos (.inl k)]
        simp only [foldP, hs.hR p _ _ hvp k]
      · rw [if_pos k, if_pos (.inr k)]
        simp only [foldP, hs.hP p _ 3 (by decide) hvp (.inr (.inr k))]
        rw [← k, setKind_self]
      · rw [if_neg (by omega), if_neg (by omega)]
        simp only [foldP, hs.hM p _ _ hvp k]
    rw [sigParts, foldP_app (foldP_app (s' := (accOf pre (p :: r), if p.kind = 3 then 3 else kOf pre)) hstar ▸ hone)]
    exact ih
/- The reference's parser. -/
def parseParamS (s : Str) (kind : Int) : Param × Bool :=
  if 2 < s.length ∧ s.take 2 = [42, 42] then (⟨s.drop 2, 4, false, 0⟩, true)
  else if 1 < s.length ∧ s.headD 0 = 42 then (⟨s.drop 1, 2, false, 0⟩, true)
  else if indexByte s 61 < 0 then (⟨s, kind, false, 0⟩, true)
  else (⟨s.take (indexByte s 61).toNat, kind, true, (readNumS (s.drop (indexByte s 61 + 1).toNat)).1⟩, (readNumS (s.drop (indexByte s 61 + 1).toNat)).2)
def slash1 (q : Param) : Param := if q.kind = 1 then setKind 0 q else q
def stepS (t : Str) (s : List Param × Int) : Option (List Param × Int) :=
  if t = [47] then some (s.1.map slash1, s.2)
  else if t = [42] then some (s.1, 3)
  else if (parseParamS t s.2).2 = true then some (s.1 ++ [(parseParamS t s.2).1], if (parseParamS t s.2).1.kind = 2 then 3 else s.2) else none
theorem single_head {p : Param} (h : validParam p = true) (k : p.kind = 0 ∨ p.kind = 1 ∨ p.kind = 3) : ∃ b r, paramText p = b :: r ∧ 97 ≤ b.toNat ∧ b.toNat ≤ 122 := by
  rw [paramText_s k]; exact name_head (vp_name h) _
theorem steps_S : Steps stepS := by
  refine ⟨fun acc k h => ?_, fun acc k => ?_, fun p acc k hk2 h hk => ?_, fun p acc k h hk => ?_, fun p acc k h hk => ?_⟩
  · rw [stepS, if_pos rfl]
    have : acc.map slash1 = acc.map (setKind 0) := List.map_congr_left fun q hq => by rw [slash1, if_pos (h q hq)]
    rw [this]
  · rw [stepS, if_neg (by decide), if_pos rfl]
  · obtain ⟨b, r, e, hb1, hb2⟩ := single_head h hk
    have n1 : paramText p ≠ [47] := by rw [e]; intro h; cases h; exact absurd hb1 (by decide)
    have n2 : paramText p ≠ [42] := by rw [e]; intro h; cases h; exact absurd hb1 (by decide)
    have hb : b ≠ 42 := by intro h; subst h; exact absurd hb1 (by decide)
    have hn := fun b hb => name_chars (vp_name h) b hb
    have key : parseParamS (paramText p) k = (setKind k p, true) := by
      rw [parseParamS, if_neg (by rw [e]; simp [hb]), if_neg (by rw [e]; simp [hb]), paramText_s hk]
      cases hd : p.hasDefault with
      | true =>
        have hi : indexByte (p.name ++ 61 :: number p.dflt) 61 = p.name.length := index_app (fun b hb => by have := hn b hb; omega)
        have h1 : (p.name ++ 61 :: number p.dflt).take p.name.length = p.name := by simp
        have h2 : (p.name ++ 61 :: number p.dflt).drop (p.name.length + 1) = number p.dflt := by simp
        simp only [if_true, hi]
        rw [if_neg (by omega), show ((p.name.length : Int) + 1).toNat = p.name.length + 1 by omega, Int.toNat_natCast, h1, h2, readNumS_number (vp_val h), setKind, hd]
      | false =>
        have hi : indexByte p.name 61 = -1 := index_none (fun b hb => by have := hn b hb; omega)
        simp only [Bool.false_eq_true, if_false, List.append_nil, hi]
        rw [if_pos (by decide), setKind, hd, vp_dflt h hd]
    rw [stepS, if_neg n1, if_neg n2, key]
    have e3 : (if (setKind k p).kind = 2 then (3 : Int) else k) = k := if_neg hk2
    show some (acc ++ [setKind k p], if (setKind k p).kind = 2 then (3 : Int) else k) = _
    rw [e3]
  · rw [paramText_2 hk]
    obtain ⟨d1, d2⟩ := vp_no h (.inl hk)
    obtain ⟨b, r, e, hb1, hb2⟩ := name_head (vp_name h) []
    rw [List.append_nil] at e
    have hb : b ≠ 42 := by intro h; subst h; exact absurd hb1 (by decide)
    have ep : (⟨p.name, 2, false, 0⟩ : Param) = p := by rw [← hk, ← d1, ← d2]
    have key : parseParamS (42 :: p.name) k = (p, true) := by
      rw [parseParamS, if_neg (by rw [e]; simp [hb]), if_pos (by rw [e]; simp)]
      show ((⟨p.name, 2, false, 0⟩ : Param), true) = _
      rw [ep]
    rw [stepS, if_neg (by simp), if_neg (by rw [e]; simp), key]
    simp [hk]
  · rw [paramText_4 hk]
    obtain ⟨d1, d2⟩ := vp_no h (.inr hk)
    obtain ⟨b, r, e, hb1, hb2⟩ := name_head (vp_name h) []
    rw [List.append_nil] at e
    have ep : (⟨p.name, 4, false, 0⟩ : Param) = p := by rw [← hk, ← d1, ← d2]
    have key : parseParamS (42 :: 42 :: p.name) k = (p, true) := by
      rw [parseParamS, if_pos (by rw [e]; simp)]
      show ((⟨p.name, 4, false, 0⟩ : Param), true) = _
      rw [ep]
    rw [stepS, if_neg (by simp), if_neg (by simp), key]
    simp [hk]
def parseSigS (t : Str) : Sig × Bool :=
  match foldP stepS (splitList t) ([], 1) with
  | none => (⟨[]⟩, false)
  | some s => (⟨s.1⟩, validParams s.1 && decide (sigText s.1 = t))
def ParseSigS (t : Str) : Sig × Bool := if (parseSigS t).2 = true then ((parseSigS t).1, true) else (⟨[]⟩, false)
noncomputable def spec_parseParam.f (a1 : Str) (a2 : Int)  (z_ : Param × Bool) : Option (Param × Bool) := (ln' z_ (a1.length) fun v15 => (if 2 < v15 then (gd (0 ≤ (2 : Int) ∧ 2 ≤ a1.length) (lv (a1.take 2) fun v16 => (if v16 = [42, 42] then (gd (0 ≤ (2 : Int) ∧ 2 ≤ a1.length) (lv (a1.drop 2) fun v18 => (some (⟨v18, 4, false, 0⟩, true)))) else (ln' z_ (a1.length) fun v19 => (if 1 < v19 then (bt a1 0 fun v20 => (if v20 = 42 then (gd (0 ≤ (1 : Int) ∧ 1 ≤ a1.length) (lv (a1.drop 1) fun v22 => (some (⟨v22, 2, false, 0⟩, true)))) else (lv (indexByte a1 61) fun v23 => (if v23 < 0 then (some (⟨a1, a2, false, 0⟩, true)) else (arr .i64 (v23 + 1) fun v24 => (gd (0 ≤ v24 ∧ v24.toNat ≤ a1.length) (lv (a1.drop v24.toNat) fun v25 => (on_I_B (readNumS v25) fun v26 v27 => (gd (0 ≤ v23 ∧ v23.toNat ≤ a1.length) (lv (a1.take v23.toNat) fun v29 => (some (⟨v29, a2, true, v26⟩, v27)))))))))))) else (lv (indexByte a1 61) fun v30 => (if v30 < 0 then (some (⟨a1, a2, false, 0⟩, true)) else (arr .i64 (v30 + 1) fun v31 => (gd (0 ≤ v31 ∧ v31.toNat ≤ a1.length) (lv (a1.drop v31.toNat) fun v32 => (on_I_B (readNumS v32) fun v33 v34 => (gd (0 ≤ v30 ∧ v30.toNat ≤ a1.length) (lv (a1.take v30.toNat) fun v36 => (some (⟨v36, a2, true, v33⟩, v34))))))))))))))) else (ln' z_ (a1.length) fun v37 => (if 1 < v37 then (bt a1 0 fun v38 => (if v38 = 42 then (gd (0 ≤ (1 : Int) ∧ 1 ≤ a1.length) (lv (a1.drop 1) fun v40 => (some (⟨v40, 2, false, 0⟩, true)))) else (lv (indexByte a1 61) fun v41 => (if v41 < 0 then (some (⟨a1, a2, false, 0⟩, true)) else (arr .i64 (v41 + 1) fun v42 => (gd (0 ≤ v42 ∧ v42.toNat ≤ a1.length) (lv (a1.drop v42.toNat) fun v43 => (on_I_B (readNumS v43) fun v44 v45 => (gd (0 ≤ v41 ∧ v41.toNat ≤ a1.length) (lv (a1.take v41.toNat) fun v47 => (some (⟨v47, a2, true, v44⟩, v45)))))))))))) else (lv (indexByte a1 61) fun v48 => (if v48 < 0 then (some (⟨a1, a2, false, 0⟩, true)) else (arr .i64 (v48 + 1) fun v49 => (gd (0 ≤ v49 ∧ v49.toNat ≤ a1.length) (lv (a1.drop v49.toNat) fun v50 => (on_I_B (readNumS v50) fun v51 v52 => (gd (0 ≤ v48 ∧ v48.toNat ≤ a1.length) (lv (a1.take v48.toNat) fun v54 => (some (⟨v54, a2, true, v51⟩, v52))))))))))))))
section
variable {G : Glob} (hm : pg.follows .mixedOrders = true) (hz : ∀ T, ∀ c ∈ (ttOf pg T).zero, Bd c) (hG : GF G)
include hm hz hG
theorem spec_parseParam.w {a1 : Str} {a2 : Int}  {r : Param × Bool} (H : spec_parseParam.f a1 a2  r = some r) : FnOK pg G 159 [.str ⟨⟨a1⟩⟩, .int .i64 a2] [] (.tup [.agg [.str ⟨⟨(r.1.name)⟩⟩, .int .i64 (r.1.kind), .bool (r.1.hasDefault), .int .i64 (r.1.dflt)], .bool (r.2)]) [] false := by
  obtain ⟨V, hV⟩ := exV
  refine fn_ok (tt0 := tyG [ty3, ty4, ty5, ty9, ty99]) (fn := Tryz.f159) (body := bodyOf Tryz.f159) (ext := []) hm (tyG_sub ⟨tt3, tt4, tt5, tt9, tt99, trivial⟩) hz 0 true [] (by unfold pg; exact Tryz.func159) rfl rfl (by simp [Tryz.f159]) (by simp [EObj.toObj]) (by cbv) ?_
  intro A F hA hF
  unfold spec_parseParam.f at H
  cbv
  repeat' (first
    | (with_reducible refine s_gd H (fun hg H => ?_))
    | (cases H; exact fin_plain hF rfl rfl rfl rfl)
    | (with_reducible refine s_lt H (fun H => ?_) (fun H => ?_) <;> cbv)
    | (with_reducible refine s_le H (fun H => ?_) (fun H => ?_) <;> cbv)
    | (with_reducible refine s_eq H (fun H => ?_) (fun H => ?_) <;> cbv)
    | (with_reducible refine s_ne H (fun H => ?_) (fun H => ?_) <;> cbv)
    | (with_reducible refine s_ln H lnOf (fun _ H => ?_); cbv)
    | (with_reducible refine s_bt H (fun _ H => ?_); cbv)
    | (with_reducible refine s_ar H (fun _ H => ?_); cbv)
    | (with_reducible refine s_lv H (fun _ H => ?_); cbv)
    | (with_reducible refine s_lvn (by with_unfolding_all rfl) H (fun _ H => ?_); cbv)
    | (with_reducible refine s_ci hA H (by with_unfolding_all exact spec_indexByte.ok hm hz hG) rfl (fun _ H => ?_); cbv)
    | (with_reducible refine s_cI_B hV hA H (by with_unfolding_all exact spec_readNumber.ok hm hz hG) rfl (fun _ _ H => ?_); cbv)
    | (with_reducible refine indep_of hA ?_; cbv)
    | ((with_reducible refine side ?_); exact sideOf)
    | (with_reducible refine s_eqn ?_; cbv)
    | (with_reducible refine s_eqn2 ?_; cbv)
    | (with_reducible refine s_tk1 ?_; cbv)
    | (with_reducible refine And.intro ?_ ?_)
    | (intro ys hys; subst hys; rfl)
    | rfl)
end
section
variable {G : Glob} (hm : pg.follows .mixedOrders = true) (hz : ∀ T, ∀ c ∈ (ttOf pg T).zero, Bd c) (hG : GF G)
include hm hz hG
theorem spec_parseParam.ok {a1 : Str} {a2 : Int} (hp : a1.length ≤ 1048576) : FnOK pg G 159 [.str ⟨⟨a1⟩⟩, .int .i64 a2] [] (.tup [.agg [.str ⟨⟨((parseParamS a1 a2).1.name)⟩⟩, .int .i64 ((parseParamS a1 a2).1.kind), .bool ((parseParamS a1 a2).1.hasDefault), .int .i64 ((parseParamS a1 a2).1.dflt)], .bool ((parseParamS a1 a2).2)]) [] false := by
  have hi := indexByte_range a1 61
  have IDX : ¬ (2 < a1.length ∧ a1.take 2 = [42, 42]) → ¬ (1 < a1.length ∧ a1.headD 0 = 42) → (lv (indexByte a1 61) fun v23 => if v23 < 0 then some ((⟨a1, a2, false, 0⟩ : Param), true) else arr .i64 (v23 + 1) fun v24 => gd (0 ≤ v24 ∧ v24.toNat ≤ a1.length) (lv (a1.drop v24.toNat) fun v25 => on_I_B (readNumS v25) fun v26 v27 => gd (0 ≤ v23 ∧ v23.toNat ≤ a1.length) (lv (a1.take v23.toNat) fun v29 => some ((⟨v29, a2, true, v26⟩ : Param), v27)))) = some (parseParamS a1 a2) := by
    intro h h'
    rw [parseParamS, if_neg h, if_neg h']
    simp only [lv, on_I_B]
    refine ite_ok (fun c => by rw [if_pos c]) (fun c => ?_)
    rw [if_neg c, arr_ok (by omega), gd_ok (by omega), gd_ok (by omega)]
  have REST : ¬ (2 < a1.length ∧ a1.take 2 = [42, 42]) → ∀ J : Option (Param × Bool), (¬ (1 < a1.length ∧ a1.headD 0 = 42) → J = some (parseParamS a1 a2)) → (ln' (parseParamS a1 a2) a1.length fun v => if 1 < v then bt a1 0 fun b => if b = 42 then gd (0 ≤ (1 : Int) ∧ 1 ≤ a1.length) (lv (a1.drop 1) fun z => some ((⟨z, 2, false, 0⟩ : Param), true)) else J else J) = some (parseParamS a1 a2) := by
    intro h J hJ
    refine ln_ok fun hB => ite_ok (fun c => ?_) (fun c => hJ (by omega))
    rw [bt_ok (by omega)]
    have e : ((a1.getD (Int.toNat 0) 0).toNat : Int) = 42 ↔ a1.headD 0 = 42 := by
      cases a1 with
      | nil => exact ⟨fun h => absurd h (by decide), fun h => absurd h (by decide)⟩
      | cons b r =>
        show ((b.toNat : Int) = 42) ↔ b = 42
        exact ⟨fun h => u8 (by show b.toNat = 42; omega), fun h => by subst h; rfl⟩
    refine ite_ok (fun d => ?_) (fun d => hJ fun c => d (e.2 c.2))
    rw [gd_ok (by omega), parseParamS, if_neg h, if_pos ⟨by omega, e.1 d⟩]; rfl
  refine spec_parseParam.w hm hz hG ?_
  simp only [spec_parseParam.f]
  refine ln_ok fun hB => ite_ok (fun h1 => ?_) (fun h1 => ?_)
  · rw [gd_ok (by omega), lv]
    refine ite_ok (fun h2 => ?_) (fun h2 => ?_)
    · rw [gd_ok (by omega), parseParamS, if_pos ⟨by omega, h2⟩]; rfl
    · exact REST (fun c => h2 c.2) _ fun c => IDX (fun c => h2 c.2) c
  · exact REST (by omega) _ fun c => IDX (by omega) c
end
def parFinS (t : Str) (o : Option (List Param × Int)) : Sig × Bool :=
  match o with
  | none => (⟨[]⟩, false)
  | some s => (⟨s.1⟩, validParams s.1 && decide (sigText s.1 = t))
theorem slash_step {l : List Param} {k : Int} {y : Param} (h0 : 0 ≤ k) (hy : l[k.toNat]? = some y) : (l.set k.toNat (slash1 y)).take (k + 1).toNat ++ ((l.set k.toNat (slash1 y)).drop (k + 1).toNat).map slash1 = l.take k.toNat ++ (l.drop k.toNat).map slash1 := by
  obtain ⟨hlt, e⟩ := List.getElem?_eq_some_iff.1 hy
  rw [show (k + 1).toNat = k.toNat + 1 by omega, List.drop_set_of_lt (by omega), List.drop_eq_getElem_cons hlt, e, take_snoc (x := slash1 y) (by rw [List.getElem?_set_self hlt]), List.take_set_of_le (by omega)]
  simp
def on_Param_B {R : Type} (v : Param × Bool) (f : Str → Int → Bool → Int → Bool → Option R) : Option R := f (v.1.name) (v.1.kind) (v.1.hasDefault) (v.1.dflt) (v.2)
section
variable {A : Bx} {P : Program} {G : Glob} {rg : Option Nat} {own : Nat} {o : Nat → EObj} {g : FuncId} {vs : List C} {sh : Bool} {K : C → List (Nat × EObj) → Prop} {R : Type} {r : R} {V : Vx} {v : Param × Bool} {f : Str → Int → Bool → Int → Bool → Option R}
theorem s_cParam_B (hV : IsV V) (hA : IsBx true rg P G A) (H : on_Param_B v f = some r) (hok : FnOK P G g vs [] (.tup [.agg [.str ⟨⟨(v.1.name)⟩⟩, .int .i64 (v.1.kind), .bool (v.1.hasDefault), .int .i64 (v.1.dflt)], .bool (v.2)]) [] sh) (hc : vs.all closedArg = true) (h : ∀ c0 c1 c2 c3 c4, f c0 c1 c2 c3 c4 = some r → K (.tup [.agg [.str ⟨⟨c0⟩⟩, .int .i64 c1, .bool c2, .int .i64 c3], .bool c4]) []) : A.call own o g vs K := by
  refine callT_plain hA hok hc ?_
  have := h (v.1.name) (v.1.kind) (v.1.hasDefault) (v.1.dflt) (v.2) H
  exact this
variable {U : List C → List EObj → (C → List (Nat × EObj) → Prop) → Prop} {bs : List C} {ext : List EObj}
end
noncomputable def spec_parseSignature.b1 (a1 : Str) (x450 : Int) (x451 : Int) (h0 : (Int × Int × (List Param)) → Option (Sig × Bool)) (h1 : (Int × (List Param)) → Option (Sig × Bool)) (z_ : Sig × Bool) (x760 : Int) (x761 : List Param) : Option (Sig × Bool) := (ln' z_ (x761.length) fun v787 => (if x760 < v787 then (ia x761.length x760 fun j799 => (rnParam x761 j799 fun v800 v801 v802 v803 => (if v801 = 1 then (ia x761.length x760 fun j804 => (rnParam x761 j804 fun v805 v806 v807 v808 => (lv (x761.set j804 ⟨v805, 0, v807, v808⟩) fun v809 => (arr .i64 (x760 + 1) fun v810 => (h1 (v810, v809)))))) else (arr .i64 (x760 + 1) fun v811 => (h1 (v811, x761)))))) else (arr .i64 (x450 + 1) fun v812 => (h0 (v812, x451, x761)))))
noncomputable def spec_parseSignature.b0 (a1 : Str) (v2 : List Str) (h0 : (Int × Int × (List Param)) → Option (Sig × Bool)) (h1 : Int → Int → (Int × (List Param)) → Option (Sig × Bool)) (z_ : Sig × Bool) (x450 : Int) (x451 : Int) (x452 : List Param) : Option (Sig × Bool) := (ln' z_ (v2.length) fun v641 => (if x450 < v641 then (ixS v2 x450 fun v734 => (if v734 = [47] then (h1 x450 x451 (0, x452)) else (if v734 = [42] then (arr .i64 (x450 + 1) fun v813 => (h0 (v813, 3, x452))) else (ixS v2 x450 fun v820 => (gd (v820.length ≤ 1048576) (on_Param_B (parseParamS v820 x451) fun v821 v822 v823 v824 v825 => (cn v825 (lj 0 (fun J0 => (if v822 = 2 then (J0 3) else (J0 x451))) (fun x826 => (gd ((x452.length + 1) * 40 ≤ 140737488355328) (lv (x452 ++ [⟨v821, v822, v823, v824⟩]) fun v827 => (arr .i64 (x450 + 1) fun v828 => (h0 (v828, x826, v827))))))) (some (⟨[]⟩, false))))))))) else (cn ((fun (s : Sig) => validParams s.params) (⟨x452⟩)) (gd (validParams x452 = true) (lv ((fun (s : Sig) => sigText s.params) (⟨x452⟩)) fun v830 => (if v830 = a1 then (some (⟨x452⟩, true)) else (some (⟨x452⟩, false))))) (some (⟨x452⟩, false)))))
noncomputable def spec_parseSignature.f (a1 : Str) (h0 : (List Str) → (Int × Int × (List Param)) → Option (Sig × Bool)) (z_ : Sig × Bool) : Option (Sig × Bool) := (gd (a1.length ≤ 1048576) (on_LS (splitList a1) fun v2 => (h0 v2 (0, 1, []))))
theorem pin_spec_parseSignature {e : ESt} {ns : List (Nat × Nat)} {ps : List (Nat × C)} {os : List (Nat × EObj)} (hs : pinPZ (pinZ e.o (os.map Prod.fst) ns) e.s ps := by first | (cbv <;> (repeat' (first | trivial | refine And.intro ?_ ?_)) <;> (first | rfl | assumption | omega | exact clS hV _ | exact clParam hV _ | with_unfolding_all exact hV.nS [] | with_unfolding_all exact (hV.nS []).symm | with_unfolding_all exact hV.nParam [] | with_unfolding_all exact (hV.nParam []).symm | with_unfolding_all exact hV.rS _ | with_unfolding_all exact hV.rParam _ | with_unfolding_all exact (hV.nS _).trans (Eq.trans (by simp only [hV.nS] at *; omega) (hV.nS _).symm) | with_unfolding_all exact (hV.nParam _).trans (Eq.trans (by simp only [hV.nParam] at *; omega) (hV.nParam _).symm) | simp [closedCell])) | fail) (ho : ∀ B : (Nat → EObj) → List (List C) → List (List C) → Prop, (∀ o rows rows', rowsZ (pinZ o (os.map Prod.fst) ns) rows rows' → B o rows rows') → pinOZ (pinZ e.o (os.map Prod.fst) ns) B e.o ns os := by intro B hB; first | (cbv <;> (repeat' (first | trivial | refine And.intro ?_ ?_ | refine pin_same hB ?_ | refine pin_nil hB ?_ | refine pin_dirty hB (by assumption) (by assumption) ?_ ?_ | exact pinL_n | refine pinL_c ?_ ?_ | exact pzr rfl rfl rfl (nrS hV _) (clS hV _) | exact pzr rfl rfl rfl (nrParam hV _) (clParam hV _) | (refine pz_go ?_; cbv) | (refine pinL_go ?_; cbv))) <;> (first | exact clS hV _ | exact clParam hV _ | with_unfolding_all exact hV.rS _ | with_unfolding_all exact hV.rParam _ | with_unfolding_all exact hV.nS [] | with_unfolding_all exact (hV.nS []).symm | with_unfolding_all exact hV.nParam [] | with_unfolding_all exact (hV.nParam []).symm | assumption | omega | rfl | with_unfolding_all exact (hV.nS _).trans (Eq.trans (by simp only [hV.nS] at *; omega) (hV.nS _).symm) | with_unfolding_all exact (hV.nParam _).trans (Eq.trans (by simp only [hV.nParam] at *; omega) (hV.nParam _).symm) | simp [closedCell])) | fail) : PinnedZ e ns ps os := ⟨hs, ho⟩
section
variable {G : Glob} (hm : pg.follows .mixedOrders = true) (hz : ∀ T, ∀ c ∈ (ttOf pg T).zero, Bd c) (hG : GF G)
include hm hz hG
set_option maxHeartbeats 8000000 in
theorem spec_parseSignature.w {a1 : Str} (inv0 : (List Str) → (Int × Int × (List Param)) → Prop) (mu0 : (List Str) → (Int × Int × (List Param)) → Nat) (res0 : (List Str) → (Int × Int × (List Param)) → Sig × Bool) (inv1 : Nat → (List Str) → Int → Int → (Int × (List Param)) → Prop) (mu1 : Nat → (List Str) → Int → Int → (Int × (List Param)) → Nat) (res1 : Nat → (List Str) → Int → Int → (Int × (List Param)) → Sig × Bool) (hb0 : ∀ (v2 : List Str), ∀ (s_ : Int × Int × (List Param)), inv0 v2 s_ → spec_parseSignature.b0 a1 v2 (LI (inv0 v2) (mu0 v2) (res0 v2) (mu0 v2 s_)) (fun x450 x451 => EI (inv1 (mu0 v2 s_) v2 x450 x451) (mu1 (mu0 v2 s_) v2 x450 x451) (res1 (mu0 v2 s_) v2 x450 x451)) (res0 v2 s_) s_.1 s_.2.1 s_.2.2 = some (res0 v2 s_)) (hb1 : ∀ (m0_ : Nat), ∀ (v2 : List Str), ∀ (x450 : Int), ∀ (x451 : Int), ∀ (s_ : Int × (List Param)), inv1 m0_ v2 x450 x451 s_ → spec_parseSignature.b1 a1 x450 x451 (LI (inv0 v2) (mu0 v2) (res0 v2) m0_) (LI (inv1 m0_ v2 x450 x451) (mu1 m0_ v2 x450 x451) (res1 m0_ v2 x450 x451) (mu1 m0_ v2 x450 x451 s_)) (res1 m0_ v2 x450 x451 s_) s_.1 s_.2 = some (res1 m0_ v2 x450 x451 s_)) {r : Sig × Bool} (H : spec_parseSignature.f a1 (fun v2 => EI (inv0 v2) (mu0 v2) (res0 v2)) r = some r) : FnOK pg G 90 [.str ⟨⟨a1⟩⟩] [] (.tup [.agg [.sl ((r.1.params).map eParam)], .bool (r.2)]) [] true := by
  obtain ⟨V, hV⟩ := exV
  have e0_S : V.rS [] = [] := hV.rS []
  have e1_S : ∀ x r, V.rS (x :: r) = eS x :: V.rS r := fun x r => by rw [hV.rS, hV.rS]; rfl
  have e0_Param : V.rParam [] = [] := hV.rParam []
  have e1_Param : ∀ x r, V.rParam (x :: r) = eParam x :: V.rParam r := fun x r => by rw [hV.rParam, hV.rParam]; rfl
  simp only [← hV.rS, ← hV.rParam]
  refine fn_okS (tt0 := tyG [ty3, ty4, ty9, ty46, ty48, ty71, ty99]) (fn := Tryz.f90) (body := bodyOf Tryz.f90) (ext := []) hm (tyG_sub ⟨tt3, tt4, tt9, tt46, tt48, tt71, tt99, trivial⟩) hz 0 [13] (by unfold pg; exact Tryz.func90) rfl rfl (by simp [Tryz.f90]) (by simp [EObj.toObj]) (by cbv) ?_
  intro A F hA hF
  unfold spec_parseSignature.f at H
  cbv
  repeat' (first
    | (with_reducible refine s_gd H (fun hg H => ?_))
    | (cases H; (try simp only [e0_S, e0_Param, e1_S, eS, e1_Param, eParam] at hF); with_reducible refine fin_close hF rfl (by simp [expIds, posCells, C.cells, idOf]) ?_; cbv)
    | (with_reducible refine s_lt H (fun H => ?_) (fun H => ?_) <;> cbv)
    | (with_reducible refine s_le H (fun H => ?_) (fun H => ?_) <;> cbv)
    | (with_reducible refine s_eq H (fun H => ?_) (fun H => ?_) <;> cbv)
    | (with_reducible refine s_ne H (fun H => ?_) (fun H => ?_) <;> cbv)
    | (with_reducible refine s_ln H lnOf (fun _ H => ?_); cbv)
    | (with_reducible refine s_ixS hV H (fun _ H => ?_); cbv)
    | (with_reducible refine s_rnParam hV H (fun _ _ _ _ H => ?_); cbv)
    | (with_reducible refine s_ia H lnOf (fun _ H => ?_); cbv)
    | (with_reducible refine s_ar H (fun _ H => ?_); cbv)
    | (with_reducible refine s_setS hV H (fun _ hs_ H => ?_); cbv)
    | (with_reducible refine s_apS hV H (fun _ H => ?_); cbv)
    | (with_reducible refine s_apL hV.rS hV.nS H (fun _ H => ?_); cbv)
    | (with_reducible refine s_setParam hV H (fun _ hs_ H => ?_); cbv)
    | (with_reducible refine s_apParam hV H (fun _ H => ?_); cbv)
    | (with_reducible refine s_apL hV.rParam hV.nParam H (fun _ H => ?_); cbv)
    | (with_reducible refine s_lv H (fun _ H => ?_); cbv)
    | (with_reducible refine s_loop hA H (fun s h => hb0 _ s h) [0, 2, 4, 5] [128] (fun e s => [(6, .int .i64 (s.2.1)), (7, .int .i64 (s.1))]) (fun e s => [ovO e 256 [(0, .ref 2752 0 4 0 (V.nParam (s.2.2)))], (2752, ⟨0, true, 4, .many (V.rParam (s.2.2))⟩)]) [(2752, 4)] pin_spec_parseSignature nbOf ?_; rintro ⟨x450, x451, x452⟩ H; unfold spec_parseSignature.b0 at H; (try dsimp only at H); cbv)
    | (with_reducible refine s_loop hA H (fun s h => hb1 _ _ _ _ s h) [0, 2, 4, 5, 6, 7] [128] (fun e s => [(8, .int .i64 (s.1))]) (fun e s => [ovO e 256 [(0, .ref 2752 0 4 0 (V.nParam (s.2)))], (2752, ⟨0, true, 4, .many (V.rParam (s.2))⟩)]) [] pin_spec_parseSignature nbOf ?_; rintro ⟨x760, x761⟩ H; unfold spec_parseSignature.b1 at H; (try dsimp only at H); cbv)
    | (with_reducible refine s_next H pin_spec_parseSignature nbOf)
    | (with_reducible refine s_joint 0 hA H [0, 2, 4, 5, 7, 9] [128, 256, 576, 2752] (fun e s => [(6, .int .i64 s)]) (fun e s => []) (fun J0 H => ?_) ?_; rotate_left; (rintro x826 H; (try dsimp only at H); cbv); rotate_left; cbv)
    | (with_reducible refine s_meet H [] pin_spec_parseSignature nbOf)
    | (with_reducible refine s_cLS hV hA H (by (try simp only [hV.rS, hV.rParam]); (first | (have hk_ := spec_splitList.ok hm hz hG hg; with_unfolding_all exact hk_) | (with_unfolding_all exact spec_splitList.ok hm hz hG (by first | assumption | omega)))) rfl (fun _ H => ?_); cbv)
    | (with_reducible refine s_cParam_B hV hA H (by (try simp only [hV.rS, hV.rParam]); (first | (have hk_ := spec_parseParam.ok hm hz hG hg; with_unfolding_all exact hk_) | (with_unfolding_all exact spec_parseParam.ok hm hz hG (by first | assumption | omega)))) rfl (fun _ _ _ _ _ H => ?_); cbv)
    | (with_reducible refine s_cb hA H (by (try simp only [hV.rS, hV.rParam]); with_unfolding_all exact spec_validSignature.ok hm hz hG) rfl (fun H => ?_) (fun H => ?_) <;> cbv)
    | (with_reducible refine s_rb (by assumption) H (by (try simp only [hV.rS, hV.rParam]); with_unfolding_all exact spec_validSignature.ok hm hz hG) (fun H => ?_) (fun H => ?_) <;> cbv)
    | (with_reducible refine s_cs hA H (by (try simp only [hV.rS, hV.rParam]); (first | (have hk_ := spec_signatureText.ok hm hz hG hg; with_unfolding_all exact hk_) | (with_unfolding_all exact spec_signatureText.ok hm hz hG (by first | assumption | omega)))) rfl (fun _ H => ?_); cbv)
    | (with_reducible refine s_rs (by assumption) H (by (try simp only [hV.rS, hV.rParam]); (first | (have hk_ := spec_signatureText.ok hm hz hG hg; with_unfolding_all exact hk_) | (with_unfolding_all exact spec_signatureText.ok hm hz hG (by first | assumption | omega)))) (fun _ H => ?_); cbv)
    | (with_reducible refine callT_cl hA (fun U hU => ?_); cbv)
    | (with_reducible refine indep_of hA ?_; cbv)
    | ((with_reducible refine side ?_); exact sideOf)
    | (with_reducible refine s_tkG hV.rS hV.nS ?_; cbv)
    | (with_reducible refine s_tkG hV.rParam hV.nParam ?_; cbv)
    | (with_reducible refine s_tk1 ?_; cbv)
    | (with_reducible refine And.intro ?_ ?_)
    | ((with_reducible refine s_cn H (fun hb H => ?_) (fun hb H => ?_)) <;> (revert H; subst hb; intro H; cbv))
    | (intro ys hys; subst hys; rfl)
    | rfl)
end
section
variable {G : Glob} (hm : pg.follows .mixedOrders = true) (hz : ∀ T, ∀ c ∈ (ttOf pg T).zero, Bd c) (hG : GF G)
include hm hz hG
theorem spec_parseSignature.ok {a1 : Str} (hp : a1.length ≤ 1048576) : FnOK pg G 90 [.str ⟨⟨a1⟩⟩] [] (.tup [.agg [.sl (((parseSigS a1).1.params).map eParam)], .bool ((parseSigS a1).2)]) [] true := by
  let inv0 : List Str → Int × Int × List Param → Prop := fun v s => 0 ≤ s.1 ∧ s.1 ≤ v.length ∧ s.2.2.length ≤ s.1.toNat ∧ v.length ≤ 1048577 ∧ ∀ t ∈ v, t.length ≤ 1048576
  let res0 : List Str → Int × Int × List Param → Sig × Bool := fun v s => parFinS a1 (foldP stepS (v.drop s.1.toNat) (s.2.2, s.2.1))
  refine @spec_parseSignature.w G hm hz hG a1 inv0 (fun v s => v.length - s.1.toNat) res0
    (fun m v i k s => 0 ≤ s.1 ∧ s.1 ≤ s.2.length ∧ inv0 v (i + 1, k, s.2) ∧ v.length - (i + 1).toNat < m ∧ 0 ≤ i) (fun _ _ _ _ s => s.2.length - s.1.toNat)
    (fun _ v i k s => res0 v (i + 1, k, s.2.take s.1.toNat ++ (s.2.drop s.1.toNat).map slash1)) ?_ ?_ _ ?_
  · rintro v ⟨i, k, acc⟩ ⟨h0, h1, h2, h3, h4⟩
    simp only at h0 h1 h2
    simp only [spec_parseSignature.b0, lj, lv, cn_ite, eta_Param]
    refine ln_ok fun hB => ite_ok (fun h => ?_) (fun h => ?_)
    · have hlt : i.toNat < v.length := by omega
      have hx := List.getElem?_eq_getElem hlt
      have hxl := h4 _ (List.getElem_mem hlt)
      have er : res0 v (i, k, acc) = parFinS a1 (foldP stepS (v[i.toNat] :: v.drop (i.toNat + 1)) (acc, k)) := by
        show parFinS a1 (foldP stepS (v.drop i.toNat) (acc, k)) = _
        rw [List.drop_eq_getElem_cons hlt]
      generalize v[i.toNat] = x at hx hxl er
      have en : ∀ k' acc', res0 v (i + 1, k', acc') = parFinS a1 (foldP stepS (v.drop (i.toNat + 1)) (acc', k')) := fun k' acc' => by
        show parFinS a1 (foldP stepS (v.drop (i + 1).toNat) (acc', k')) = _
        rw [show (i + 1).toNat = i.toNat + 1 by omega]
      rw [ixS_ok h0 hx, er, foldP, stepS]
      refine ite_ok (fun c => ?_) (fun c => ?_)
      · rw [if_pos c, EI_ok ⟨Int.le_refl 0, by simp, ⟨by simp only; omega, by simp only; omega, by simp only; omega, h3, h4⟩, by omega, h0⟩]
        simp only [Int.toNat_zero, List.take_zero, List.nil_append, List.drop_zero, en]
      rw [if_neg c]
      refine ite_ok (fun c2 => ?_) (fun c2 => ?_)
      · rw [if_pos c2, arr_ok (by omega), LI_ok ⟨⟨by simp only; omega, by simp only; omega, by simp only; omega, h3, h4⟩, by simp only; omega⟩, en]
      rw [if_neg c2, ixS_ok h0 hx, gd_ok (by omega), on_Param_B]
      refine ite_ok (fun c3 => ?_) (fun c3 => ?_)
      · rw [if_pos c3]
        have hl : ∀ p : Param, (acc ++ [p]).length ≤ (i + 1).toNat := fun p => by simp; omega
        refine ite_ok (fun c4 => ?_) (fun c4 => ?_)
        · rw [if_pos c4, gd_ok (by omega), arr_ok (by omega), LI_ok ⟨⟨by simp only; omega, by simp only; omega, hl _, h3, h4⟩, by simp only; omega⟩, en]
        · rw [if_neg c4, gd_ok (by omega), arr_ok (by omega), LI_ok ⟨⟨by simp only; omega, by simp only; omega, hl _, h3, h4⟩, by simp only; omega⟩, en]
      · rw [if_neg c3]; rfl
    · have hd : v.drop i.toNat = [] := List.drop_eq_nil_of_le (by omega)
      have er : res0 v (i, k, acc) = (⟨acc⟩, validParams acc && decide (sigText acc = a1)) := by
        show parFinS a1 (foldP stepS (v.drop i.toNat) (acc, k)) = _
        rw [hd]; rfl
      rw [er]
      refine ite_ok (fun hv => ?_) (fun hv => ?_)
      · rw [gd_ok hv, hv]
        refine ite_ok (fun c => by rw [decide_eq_true c]; rfl) (fun c => by rw [decide_eq_false c]; rfl)
      · rw [Bool.eq_false_iff.2 hv]; rfl
  · rintro m v i k ⟨j, acc⟩ ⟨h0, h1, hI, hm', hi⟩
    simp only at h0 h1 hI
    simp only [spec_parseSignature.b1, lj, lv]
    refine ln_ok fun hB => ite_ok (fun h => ?_) (fun h => ?_)
    · have hlt : j.toNat < acc.length := by omega
      have hy := List.getElem?_eq_getElem hlt
      generalize acc[j.toNat] = y at hy
      have hs := slash_step h0 hy
      rw [ia_ok (by omega), rnParam_ok hy]
      have go : ∀ acc' : List Param, acc' = acc.set j.toNat (slash1 y) → (arr .i64 (j + 1) fun u => LI (fun s => 0 ≤ s.1 ∧ s.1 ≤ s.2.length ∧ inv0 v (i + 1, k, s.2) ∧ v.length - (i + 1).toNat < m ∧ 0 ≤ i) (fun s : Int × List Param => s.2.length - s.1.toNat) (fun s => res0 v (i + 1, k, s.2.take s.1.toNat ++ (s.2.drop s.1.toNat).map slash1)) (acc.length - j.toNat) (u, acc')) = some (res0 v (i + 1, k, acc.take j.toNat ++ (acc.drop j.toNat).map slash1)) := by
        rintro acc' rfl
        have hl : (acc.set j.toNat (slash1 y)).length = acc.length := List.length_set
        rw [arr_ok (by omega), LI_ok ⟨⟨by simp only; omega, by simp only [hl]; omega, ⟨hI.1, hI.2.1, by simp only [hl]; exact hI.2.2.1, hI.2.2.2⟩, hm', hi⟩, by simp only [hl]; omega⟩, hs]
      refine ite_ok (fun c => ?_) (fun c => ?_)
      · rw [ia_ok (by omega), rnParam_ok hy]
        exact go _ (by rw [slash1, if_pos c]; rfl)
      · refine go _ ?_
        rw [slash1, if_neg c]
        obtain ⟨hl2, e2⟩ := List.getElem?_eq_some_iff.1 hy
        rw [← e2]
        exact (List.set_getElem_self hl2).symm
    · rw [arr_ok (by have := hI.2.1; simp only at this; have := hI.2.2.2.1; omega), LI_ok ⟨hI, hm'⟩, List.take_of_length_le (by omega), List.drop_eq_nil_of_le (by omega), List.map_nil, List.append_nil]
  · have hc := @splitList_count a1
    simp only [spec_parseSignature.f, on_LS]
    rw [gd_ok (by omega), EI_ok ⟨by simp, by simp, by simp, by omega, fun t ht => by have := splitList_len t ht; omega⟩]
    simp only [res0, Int.toNat_zero, List.drop_zero, parseSigS]
    cases foldP stepS (splitList a1) ([], 1) <;> rfl
end
def on_Sig_B {R : Type} (v : Sig × Bool) (f : (List Param) → Bool → Option R) : Option R := f (v.1.params) (v.2)
section
variable {A : Bx} {P : Program} {G : Glob} {rg : Option Nat} {own : Nat} {o : Nat → EObj} {g : FuncId} {vs : List C} {sh : Bool} {K : C → List (Nat × EObj) → Prop} {R : Type} {r : R} {V : Vx} {v : Sig × Bool} {f : (List Param) → Bool → Option R}
theorem s_cSig_B (hV : IsV V) (hA : IsBx true rg P G A) (H : on_Sig_B v f = some r) (hok : FnOK P G g vs [] (.tup [.agg [.sl ((v.1.params).map eParam)], .bool (v.2)]) [] sh) (hc : vs.all closedArg = true) (h : ∀ c0 c1, f c0 c1 = some r → K (.tup [.agg [.sl (V.rParam c0)], .bool c1]) []) : A.call own o g vs K := by
  refine callT_plain hA hok hc ?_
  have := h (v.1.params) (v.2) H
  simp only [hV.rParam] at this
  exact this
variable {U : List C → List Nat → (C → List (Nat × EObj) → Prop) → Prop} {bs : List C} {tops : List Nat}
end
noncomputable def spec_ParseSignature.f (a1 : Str)  (z_ : Sig × Bool) : Option (Sig × Bool) := (gd (a1.length ≤ 1048576) (on_Sig_B (parseSigS a1) fun v4 v5 => (cn v5 (some (⟨v4⟩, true)) (some (⟨[]⟩, false)))))
section
variable {G : Glob} (hm : pg.follows .mixedOrders = true) (hz : ∀ T, ∀ c ∈ (ttOf pg T).zero, Bd c) (hG : GF G)
include hm hz hG
theorem spec_ParseSignature.w {a1 : Str}  {r : Sig × Bool} (H : spec_ParseSignature.f a1  r = some r) : FnOK pg G 33 [.str ⟨⟨a1⟩⟩] [] (.tup [.agg [.sl ((r.1.params).map eParam)], .bool (r.2)]) [] true := by
  obtain ⟨V, hV⟩ := exV
  have e0_Param : V.rParam [] = [] := hV.rParam []
  have e1_Param : ∀ x r, V.rParam (x :: r) = eParam x :: V.rParam r := fun x r => by rw [hV.rParam, hV.rParam]; rfl
  simp only [← hV.rParam]
  refine fn_okS (tt0 := tyG [ty3, ty4, ty9, ty46, ty48, ty99]) (fn := Tryz.f33) (body := bodyOf Tryz.f33) (ext := []) hm (tyG_sub ⟨tt3, tt4, tt9, tt46, tt48, tt99, trivial⟩) hz 0 [] (by unfold pg; exact Tryz.func33) rfl rfl (by simp [Tryz.f33]) (by simp [EObj.toObj]) (by cbv) ?_
  intro A F hA hF
  unfold spec_ParseSignature.f at H
  cbv
  repeat' (first
    | (with_reducible refine s_gd H (fun hg H => ?_))
    | (cases H; (try simp only [e0_Param, e1_Param, eParam] at hF); with_reducible refine fin_close hF rfl (by simp [expIds, posCells, C.cells, idOf]) ?_; cbv)
    | (with_reducible refine s_lv H (fun _ H => ?_); cbv)
    | (with_reducible refine s_cSig_B hV hA H (by (try simp only [hV.rParam]); (first | (have hk_ := spec_parseSignature.ok hm hz hG hg; with_unfolding_all exact hk_) | (with_unfolding_all exact spec_parseSignature.ok hm hz hG (by first | assumption | omega)))) rfl (fun _ _ H => ?_); cbv)
    | (with_reducible refine indep_of hA ?_; cbv)
    | ((with_reducible refine side ?_); exact sideOf)
    | (with_reducible refine s_tkG hV.rParam hV.nParam ?_; cbv)
    | (with_reducible refine s_tk1 ?_; cbv)
    | (with_reducible refine And.intro ?_ ?_)
    | ((with_reducible refine s_cn H (fun hb H => ?_) (fun hb H => ?_)) <;> (revert H; subst hb; intro H; cbv))
    | (intro ys hys; subst hys; rfl)
    | rfl)
end
section
variable {G : Glob} (hm : pg.follows .mixedOrders = true) (hz : ∀ T, ∀ c ∈ (ttOf pg T).zero, Bd c) (hG : GF G)
include hm hz hG
theorem spec_ParseSignature.ok {a1 : Str} (hp : a1.length ≤ 1048576) : FnOK pg G 33 [.str ⟨⟨a1⟩⟩] [] (.tup [.agg [.sl (((ParseSigS a1).1.params).map eParam)], .bool ((ParseSigS a1).2)]) [] true := by
  refine spec_ParseSignature.w hm hz hG ?_
  simp only [spec_ParseSignature.f, on_Sig_B, ParseSigS, cn_ite]
  rw [gd_ok hp]
  refine ite_ok (fun h => ?_) (fun h => ?_)
  · rw [if_pos h]
  · rw [if_neg h]
end
end Go.Proofs.YtoofegkjdjlpkaaGreatDoor.M
