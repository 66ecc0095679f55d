/- Signatures: texts. -/
import Derived.Test.YtoofegkjdjlpkaaGreatDoorV1
set_option linter.unusedVariables false
set_option linter.unusedSimpArgs false
set_option linter.unusedSectionVars false
namespace Go.Proofs.YtoofegkjdjlpkaaGreatDoor.M
open Go Go.Proofs
set_option maxRecDepth 100000
def paramText (p : Param) : Str :=
  if p.kind = 2 then 42 :: p.name else if p.kind = 4 then 42 :: 42 :: p.name
  else if p.hasDefault = true then p.name ++ 61 :: number p.dflt else p.name
def next0 : List Param → Bool
  | [] => false
  | q :: _ => decide (q.kind = 0)
def is3 (p : Param) : Bool := decide (p.kind = 3)
def last3 (l : List Param) : Bool := match l.getLast? with | some q => is3 q | none => false
def starOf (hr prev : Bool) (p : Param) : List Str := if is3 p && !hr && !prev then [[42]] else []
def slashOf (p : Param) (r : List Param) : List Str := if decide (p.kind = 0) && !next0 r then [[47]] else []
def sigParts (hr prev : Bool) : List Param → List Str
  | [] => []
  | p :: r => starOf hr prev p ++ paramText p :: slashOf p r ++ sigParts hr (is3 p) r
def sigText (l : List Param) : Str := joinW (sigParts (hasK 2 l) false l) [44, 32]
/- Kinds never fall. -/
theorem paramText_2 {p : Param} (h : p.kind = 2) : paramText p = 42 :: p.name := by rw [paramText, if_pos h]
theorem paramText_4 {p : Param} (h : p.kind = 4) : paramText p = 42 :: 42 :: p.name := by rw [paramText, if_neg (by omega), if_pos h]
theorem paramText_s {p : Param} (h : p.kind = 0 ∨ p.kind = 1 ∨ p.kind = 3) : paramText p = p.name ++ (if p.hasDefault = true then 61 :: number p.dflt else []) := by
  rw [paramText, if_neg (by omega), if_neg (by omega)]; split <;> simp
theorem paramText_chars {p : Param} (h : validParam p = true) : paramText p ≠ [] ∧ ∀ b ∈ paramText p, b.toNat ≠ 44 ∧ b.toNat ≠ 10 ∧ b.toNat ≠ 40 ∧ b.toNat ≠ 41 := by
  have hn := name_chars (vp_name h)
  have hk := kind_rng h
  rcases (by omega : p.kind = 2 ∨ p.kind = 4 ∨ (p.kind = 0 ∨ p.kind = 1 ∨ p.kind = 3)) with k | k | k
  · rw [paramText_2 k]
    refine ⟨by simp, fun b hb => ?_⟩
    rcases List.mem_cons.1 hb with rfl | hb
    · decide
    · have := hn b hb; omega
  · rw [paramText_4 k]
    refine ⟨by simp, fun b hb => ?_⟩
    rcases List.mem_cons.1 hb with rfl | hb
    · decide
    · rcases List.mem_cons.1 hb with rfl | hb
      · decide
      · have := hn b hb; omega
  · rw [paramText_s k]
    refine ⟨by have := name_ne (vp_name h); simp [this], fun b hb => ?_⟩
    rcases List.mem_append.1 hb with hb | hb
    · have := hn b hb; omega
    · split at hb
      · rcases List.mem_cons.1 hb with rfl | hb
        · decide
        · have := number_chars _ b hb; omega
      · cases hb
theorem sigParts_chars : ∀ {r : List Param} {hr pv : Bool}, (∀ p ∈ r, validParam p = true) → ∀ q ∈ sigParts hr pv r, q ≠ [] ∧ ∀ b ∈ q, b.toNat ≠ 44 ∧ b.toNat ≠ 10 ∧ b.toNat ≠ 40 ∧ b.toNat ≠ 41
  | [], _, _, _, q, hq => by cases hq
  | p :: r, hr, pv, h, q, hq => by
    rw [sigParts] at hq
    rcases List.mem_append.1 hq with hq | hq
    · rcases List.mem_append.1 hq with hq | hq
      · unfold starOf at hq; split at hq
        · rw [List.mem_singleton] at hq; subst hq; decide
        · cases hq
      · rcases List.mem_cons.1 hq with rfl | hq
        · exact paramText_chars (h p (by simp))
        · unfold slashOf at hq; split at hq
          · rw [List.mem_singleton] at hq; subst hq; decide
          · cases hq
    · exact sigParts_chars (fun x hx => h x (by simp [hx])) q hq
theorem sigParts_ne {p : Param} {r : List Param} {hr pv : Bool} : sigParts hr pv (p :: r) ≠ [] := by simp [sigParts]
theorem sigText_nil {l : List Param} (h : validParams l = true) (e : sigText l = []) : l = [] := by
  cases l with
  | nil => rfl
  | cons p r =>
    exfalso
    have hc := sigParts_chars (hr := hasK 2 (p :: r)) (pv := false) (validParams_all h).1
    unfold sigText at e
    cases hp : sigParts (hasK 2 (p :: r)) false (p :: r) with
    | nil => exact sigParts_ne hp
    | cons a b =>
      rw [hp] at e hc
      exact joinW_ne (hc a (by simp)).1 e
theorem sigParts_len : ∀ {r : List Param} {hr pv : Bool}, (∀ p ∈ r, validParam p = true) → (sigParts hr pv r).length ≤ 3 * r.length ∧ ∀ q ∈ sigParts hr pv r, q.length ≤ 15
  | [], _, _, _ => by simp [sigParts]
  | p :: r, hr, pv, h => by
    obtain ⟨i1, i2⟩ := sigParts_len (r := r) (hr := hr) (pv := is3 p) fun x hx => h x (by simp [hx])
    have hv := h p (by simp)
    have hl := isName_len (vp_name hv)
    have hn := vnum_len (vp_val hv)
    have l1 : (starOf hr pv p).length ≤ 1 ∧ ∀ q ∈ starOf hr pv p, q.length ≤ 15 := by unfold starOf; split <;> simp
    have l2 : (slashOf p r).length ≤ 1 ∧ ∀ q ∈ slashOf p r, q.length ≤ 15 := by unfold slashOf; split <;> simp
    have l3 : (paramText p).length ≤ 15 := by
      unfold paramText
      split
      · simp; omega
      · split
        · simp; omega
        · split
          · simp; omega
          · omega
    refine ⟨by rw [sigParts]; simp; omega, fun q hq => ?_⟩
    rw [sigParts] at hq
    rcases List.mem_append.1 hq with hq | hq
    · rcases List.mem_append.1 hq with hq | hq
      · exact l1.2 q hq
      · rcases List.mem_cons.1 hq with rfl | hq
        · exact l3
        · exact l2.2 q hq
    · exact i2 q hq
theorem sigText_len {l : List Param} (h : validParams l = true) : (sigText l).length ≤ 1000 := by
  obtain ⟨h1, _, h3⟩ := validParams_all h
  obtain ⟨i1, i2⟩ := sigParts_len (hr := hasK 2 l) (pv := false) h1
  have := joinW_len (n := 15) (s := [44, 32]) (sigParts (hasK 2 l) false l) i2
  unfold sigText
  simp only [List.length_cons, List.length_nil] at this
  refine Nat.le_trans this ?_
  omega
def SigTextV (l : List Param) : Str := if validParams l = true then sigText l else []
theorem findI_first {α : Type} {p : α → Bool} {a r : List α} {x : α} (ha : ∀ b ∈ a, p b = false) (hx : p x = true) : findI p (a ++ x :: r) = a.length := by
  unfold findI
  have : (a ++ x :: r).findIdx? p = some a.length := by
    rw [List.findIdx?_eq_some_iff_getElem]
    refine ⟨by simp, by simpa using hx, fun j hj => ?_⟩
    rw [List.getElem_append_left hj]
    simpa using ha _ (List.getElem_mem hj)
  rw [this]; simp [idxOr]
theorem findI_lt {α : Type} {p : α → Bool} {a r : List α} {x : α} (hx : x ∈ a) (hp : p x = true) : findI p (a ++ r) < a.length := by
  unfold findI
  cases e : (a ++ r).findIdx? p with
  | none => simp only [idxOr]; omega
  | some k =>
    obtain ⟨hk, _, hlt⟩ := List.findIdx?_eq_some_iff_getElem.1 e
    obtain ⟨j, hj, rfl⟩ := List.getElem_of_mem hx
    have : k ≤ j := by
      apply Nat.le_of_not_lt
      intro h
      have := hlt j h
      rw [List.getElem_append_left hj] at this
      exact this hp
    simp only [idxOr]; omega
theorem kindAt_first {pre r : List Param} {p : Param} (hs : sortedK (pre ++ p :: r)) (hp : p.kind = 3) : (findI (fun q => decide (q.kind = 3)) (pre ++ p :: r) = pre.length) ↔ last3 pre = false := by
  have hpre : ∀ q ∈ pre, q.kind ≤ p.kind := fun q hq => (List.pairwise_append.1 hs).2.2 q hq p (by simp)
  have hs1 : sortedK pre := (List.pairwise_append.1 hs).1
  constructor
  · intro h
    cases hl : last3 pre with
    | false => rfl
    | true =>
      unfold last3 at hl
      split at hl
      · rename_i q hq
        have := findI_lt (r := p :: r) (p := fun q : Param => decide (q.kind = 3)) (List.mem_of_getLast? hq) hl
        omega
      · cases hl
  · intro h
    refine findI_first (fun b hb => ?_) (by simp [hp])
    rw [decide_eq_false_iff_not]
    intro hb3
    have hne : pre ≠ [] := fun e => by rw [e] at hb; cases hb
    obtain ⟨q, hq⟩ : ∃ q, pre.getLast? = some q := ⟨_, List.getLast?_eq_some_getLast hne⟩
    have hq3 : q.kind = 3 := by
      have h1 := hpre q (List.mem_of_getLast? hq)
      obtain ⟨ini, hini⟩ := List.getLast?_eq_some_iff.1 hq
      rw [hini] at hb hs1
      rcases List.mem_append.1 hb with h2 | h2
      · have := (List.pairwise_append.1 hs1).2.2 b h2 q (by simp); omega
      · rw [List.mem_singleton] at h2; subst h2; exact hb3
    simp [last3, hq, is3, hq3] at h
theorem findI_neg {α : Type} (p : α → Bool) (l : List α) : (findI p l < 0) ↔ l.any p = false := by
  unfold findI
  cases h : l.findIdx? p with
  | none => rw [List.findIdx?_eq_none_iff] at h; simp [idxOr]; exact h
  | some k =>
    obtain ⟨hk, hp, _⟩ := List.findIdx?_eq_some_iff_getElem.1 h
    simp only [idxOr]
    constructor
    · omega
    · intro h2; rw [List.any_eq_false] at h2; exact absurd hp (h2 _ (List.getElem_mem hk))
noncomputable def spec_paramText.f (a1 : Str) (a2 : Int) (a3 : Bool) (a4 : Int)  (z_ : Str) : Option (Str) := (if a2 = 2 then (gd (([42]).length + a1.length ≤ 9223372036854775807) (lv ([42] ++ a1) fun v5 => (some v5))) else (if a2 = 4 then (gd (([42, 42]).length + a1.length ≤ 9223372036854775807) (lv ([42, 42] ++ a1) fun v6 => (some v6))) else (cn a3 (gd (a1.length + ([61]).length ≤ 9223372036854775807) (lv (a1 ++ [61]) fun v7 => (gd (-1000000 ≤ a4 ∧ a4 ≤ 1000000) (lv (number a4) fun v8 => (gd (v7.length + v8.length ≤ 9223372036854775807) (lv (v7 ++ v8) fun v9 => (some v9))))))) (some a1))))
section
variable {G : Glob} (hm : pg.follows .mixedOrders = true) (hz : ∀ T, ∀ c ∈ (ttOf pg T).zero, Bd c) (hG : GF G)
include hm hz hG
theorem spec_paramText.w {a1 : Str} {a2 : Int} {a3 : Bool} {a4 : Int}  {r : Str} (H : spec_paramText.f a1 a2 a3 a4  r = some r) : FnOK pg G 168 [.agg [.str ⟨⟨a1⟩⟩, .int .i64 a2, .bool a3, .int .i64 a4]] [] (.str ⟨⟨r⟩⟩) [] false := by
  obtain ⟨V, hV⟩ := exV
  refine fn_ok (tt0 := tyG [ty3, ty4, ty9, ty99]) (fn := Tryz.f168) (body := bodyOf Tryz.f168) (ext := []) hm (tyG_sub ⟨tt3, tt4, tt9, tt99, trivial⟩) hz 0 true [] (by unfold pg; exact Tryz.func168) rfl rfl (by simp [Tryz.f168]) (by simp [EObj.toObj]) (by cbv) ?_
  intro A F hA hF
  unfold spec_paramText.f at H
  cbv
  repeat' (first
    | (with_reducible refine s_gd H (fun hg H => ?_))
    | (cases H; exact fin_plain hF rfl rfl rfl rfl)
    | (with_reducible refine s_lt H (fun H => ?_) (fun H => ?_) <;> cbv)
    | (with_reducible refine s_le H (fun H => ?_) (fun H => ?_) <;> cbv)
    | (with_reducible refine s_eq H (fun H => ?_) (fun H => ?_) <;> cbv)
    | (with_reducible refine s_ne H (fun H => ?_) (fun H => ?_) <;> cbv)
    | (with_reducible refine s_lv H (fun _ H => ?_); cbv)
    | (with_reducible refine s_cs hA H (by (first | (have hk_ := spec_number.ok hm hz hG hg; with_unfolding_all exact hk_) | (with_unfolding_all exact spec_number.ok hm hz hG (by first | assumption | omega)))) rfl (fun _ H => ?_); cbv)
    | (with_reducible refine indep_of hA ?_; cbv)
    | ((with_reducible refine side ?_); exact sideOf)
    | (with_reducible refine s_tk1 ?_; cbv)
    | (with_reducible refine And.intro ?_ ?_)
    | ((with_reducible refine s_cn H (fun hb H => ?_) (fun hb H => ?_)) <;> (revert H; subst hb; intro H; cbv))
    | (intro ys hys; subst hys; rfl)
    | rfl)
end
section
variable {G : Glob} (hm : pg.follows .mixedOrders = true) (hz : ∀ T, ∀ c ∈ (ttOf pg T).zero, Bd c) (hG : GF G)
include hm hz hG
theorem spec_paramText.ok {a1 : Str} {a2 : Int} {a3 : Bool} {a4 : Int} (hp : validParam ⟨a1, a2, a3, a4⟩ = true) : FnOK pg G 168 [.agg [.str ⟨⟨a1⟩⟩, .int .i64 a2, .bool a3, .int .i64 a4]] [] (.str ⟨⟨((paramText ⟨a1, a2, a3, a4⟩))⟩⟩) [] false := by
  have h1 := isName_len (vp_name hp)
  have h2 := isValue_rng (vp_val hp)
  have h3 := vnum_len (vp_val hp)
  simp only at h1 h2 h3
  refine spec_paramText.w hm hz hG ?_
  simp only [spec_paramText.f, paramText, cn_ite, lv]
  refine ite_ok (fun h => ?_) (fun h => ?_)
  · rw [if_pos h, gd_ok (by simp; omega)]; rfl
  rw [if_neg h]
  refine ite_ok (fun h => ?_) (fun h => ?_)
  · rw [if_pos h, gd_ok (by simp; omega)]; rfl
  rw [if_neg h]
  refine ite_ok (fun h => ?_) (fun h => ?_)
  · rw [if_pos h, gd_ok (by simp; omega), gd_ok (by omega), gd_ok (by simp; omega)]; simp
  · rw [if_neg h]
end
noncomputable def impl_Param_text.f (a1 : Str) (a2 : Int) (a3 : Bool) (a4 : Int)  (z_ : Str) : Option (Str) := (if a2 = 2 then (gd (([42]).length + a1.length ≤ 9223372036854775807) (lv ([42] ++ a1) fun v5 => (some v5))) else (if a2 = 4 then (gd (([42, 42]).length + a1.length ≤ 9223372036854775807) (lv ([42, 42] ++ a1) fun v6 => (some v6))) else (cn a3 (gd (a1.length + ([61]).length ≤ 9223372036854775807) (lv (a1 ++ [61]) fun v7 => (gd (-9223372036854775808 ≤ a4 ∧ a4 ≤ 9223372036854775807) (lv (number a4) fun v8 => (gd (v7.length + v8.length ≤ 9223372036854775807) (lv (v7 ++ v8) fun v9 => (some v9))))))) (some a1))))
section
variable {G : Glob} (hm : pg.follows .mixedOrders = true) (hz : ∀ T, ∀ c ∈ (ttOf pg T).zero, Bd c) (hG : GF G)
include hm hz hG
theorem impl_Param_text.w {a1 : Str} {a2 : Int} {a3 : Bool} {a4 : Int}  {r : Str} (H : impl_Param_text.f a1 a2 a3 a4  r = some r) : FnOK pg G 101 [.agg [.str ⟨⟨a1⟩⟩, .int .i64 a2, .bool a3, .int .i64 a4]] [] (.str ⟨⟨r⟩⟩) [] false := by
  obtain ⟨V, hV⟩ := exV
  refine fn_ok (tt0 := tyG [ty3, ty4, ty9, ty99]) (fn := Tryz.f101) (body := bodyOf Tryz.f101) (ext := []) hm (tyG_sub ⟨tt3, tt4, tt9, tt99, trivial⟩) hz 0 true [] (by unfold pg; exact Tryz.func101) rfl rfl (by simp [Tryz.f101]) (by simp [EObj.toObj]) (by cbv) ?_
  intro A F hA hF
  unfold impl_Param_text.f at H
  cbv
  repeat' (first
    | (with_reducible refine s_gd H (fun hg H => ?_))
    | (cases H; exact fin_plain hF rfl rfl rfl rfl)
    | (with_reducible refine s_lt H (fun H => ?_) (fun H => ?_) <;> cbv)
    | (with_reducible refine s_le H (fun H => ?_) (fun H => ?_) <;> cbv)
    | (with_reducible refine s_eq H (fun H => ?_) (fun H => ?_) <;> cbv)
    | (with_reducible refine s_ne H (fun H => ?_) (fun H => ?_) <;> cbv)
    | (with_reducible refine s_lv H (fun _ H => ?_); cbv)
    | (with_reducible refine s_cs hA H (by with_unfolding_all exact strconv_Itoa.ok hm hz hG (by first | assumption | omega)) rfl (fun _ H => ?_); cbv)
    | (with_reducible refine indep_of hA ?_; cbv)
    | ((with_reducible refine side ?_); exact sideOf)
    | (with_reducible refine s_tk1 ?_; cbv)
    | (with_reducible refine And.intro ?_ ?_)
    | ((with_reducible refine s_cn H (fun hb H => ?_) (fun hb H => ?_)) <;> (revert H; subst hb; intro H; cbv))
    | (intro ys hys; subst hys; rfl)
    | rfl)
end
section
variable {G : Glob} (hm : pg.follows .mixedOrders = true) (hz : ∀ T, ∀ c ∈ (ttOf pg T).zero, Bd c) (hG : GF G)
include hm hz hG
theorem impl_Param_text.ok {a1 : Str} {a2 : Int} {a3 : Bool} {a4 : Int} (hp : validParam ⟨a1, a2, a3, a4⟩ = true) : FnOK pg G 101 [.agg [.str ⟨⟨a1⟩⟩, .int .i64 a2, .bool a3, .int .i64 a4]] [] (.str ⟨⟨((paramText ⟨a1, a2, a3, a4⟩))⟩⟩) [] false := by
  have h1 := isName_len (vp_name hp)
  have h2 := isValue_rng (vp_val hp)
  have h3 := vnum_len (vp_val hp)
  simp only at h1 h2 h3
  refine impl_Param_text.w hm hz hG ?_
  simp only [impl_Param_text.f, paramText, cn_ite, lv]
  refine ite_ok (fun h => ?_) (fun h => ?_)
  · rw [if_pos h, gd_ok (by simp; omega)]; rfl
  rw [if_neg h]
  refine ite_ok (fun h => ?_) (fun h => ?_)
  · rw [if_pos h, gd_ok (by simp; omega)]; rfl
  rw [if_neg h]
  refine ite_ok (fun h => ?_) (fun h => ?_)
  · rw [if_pos h, gd_ok (by simp; omega), gd_ok (by omega), gd_ok (by simp; omega)]; simp
  · rw [if_neg h]
end
theorem last3_snoc (l : List Param) (p : Param) : last3 (l ++ [p]) = is3 p := by simp [last3]
theorem last3_take {l : List Param} {i : Int} {x : Param} (h0 : 0 ≤ i) (h : l[i.toNat]? = some x) : last3 (l.take (i + 1).toNat) = is3 x := by
  rw [show (i + 1).toNat = i.toNat + 1 by omega, take_snoc h, last3_snoc]
theorem next0_drop {l : List Param} {i : Int} (h0 : 0 ≤ i) : (i = l.length → next0 (l.drop i.toNat) = false) ∧ ∀ x, l[i.toNat]? = some x → next0 (l.drop i.toNat) = decide (x.kind = 0) := by
  refine ⟨fun h => by rw [List.drop_eq_nil_of_le (by omega)]; rfl, fun x hx => ?_⟩
  obtain ⟨hlt, rfl⟩ := List.getElem?_eq_some_iff.1 hx
  rw [List.drop_eq_getElem_cons hlt]; rfl
def sigInv (l : List Param) (i : Int) (out : List Str) : Prop := out ++ sigParts (hasK 2 l) (last3 (l.take i.toNat)) (l.drop i.toNat) = sigParts (hasK 2 l) false l
theorem sigInv_0 (l : List Param) : sigInv l 0 [] := rfl
theorem sigInv_len {l : List Param} {i : Int} {out : List Str} (hv : validParams l = true) (h : sigInv l i out) : out.length ≤ 24 := by
  obtain ⟨h1, _, h3⟩ := validParams_all hv
  have := (sigParts_len (hr := hasK 2 l) (pv := false) h1).1
  rw [← h] at this
  simp only [List.length_append] at this
  omega
theorem sigInv_end {l : List Param} {i : Int} {out : List Str} (h : sigInv l i out) (hi : i = l.length) : out = sigParts (hasK 2 l) false l := by
  unfold sigInv at h
  rw [List.drop_eq_nil_of_le (by omega)] at h
  simpa [sigParts] using h
theorem sigInv_next {l : List Param} {i : Int} {out : List Str} {x : Param} (h0 : 0 ≤ i) (hx : l[i.toNat]? = some x) (h : sigInv l i out) :
    sigInv l (i + 1) (out ++ starOf (hasK 2 l) (last3 (l.take i.toNat)) x ++ [paramText x] ++ slashOf x (l.drop (i + 1).toNat)) := by
  unfold sigInv at h ⊢
  obtain ⟨hlt, e⟩ := List.getElem?_eq_some_iff.1 hx
  rw [last3_take h0 hx, ← h, List.drop_eq_getElem_cons hlt, e, show (i + 1).toNat = i.toNat + 1 by omega, sigParts]
  simp
theorem star_iff {l : List Param} {i : Int} {x : Param} (hv : validParams l = true) (h0 : 0 ≤ i) (hx : l[i.toNat]? = some x) :
    starOf (hasK 2 l) (last3 (l.take i.toNat)) x = if x.kind = 3 ∧ kindAt l 2 < 0 ∧ kindAt l 3 = i then [[42]] else [] := by
  obtain ⟨hlt, e⟩ := List.getElem?_eq_some_iff.1 hx
  have hs := (validParams_all hv).2.1
  have hl : l = l.take i.toNat ++ x :: l.drop (i.toNat + 1) := by
    conv => lhs; rw [← List.take_append_drop i.toNat l, List.drop_eq_getElem_cons hlt, e]
  unfold starOf
  by_cases h3 : x.kind = 3
  · have i3 : is3 x = true := by simp [is3, h3]
    have hk := kindAt_first (hl ▸ hs) h3
    rw [← hl, List.length_take, Nat.min_eq_left (by omega)] at hk
    have h2 : kindAt l 2 < 0 ↔ hasK 2 l = false := findI_neg _ _
    have hk : kindAt l 3 = i ↔ last3 (l.take i.toNat) = false := by rw [← hk]; show kindAt l 3 = i ↔ kindAt l 3 = (i.toNat : Int); omega
    have this : (x.kind = 3 ∧ kindAt l 2 < 0 ∧ kindAt l 3 = i) ↔ (hasK 2 l = false ∧ last3 (l.take i.toNat) = false) := by rw [h2, hk]; exact ⟨fun c => c.2, fun c => ⟨h3, c⟩⟩
    rw [i3]
    by_cases hc : hasK 2 l = false ∧ last3 (l.take i.toNat) = false
    · rw [if_pos (this.2 hc), hc.1, hc.2]; rfl
    · rw [if_neg fun c => hc (this.1 c)]
      cases h4 : hasK 2 l <;> cases h5 : last3 (l.take i.toNat) <;> first | rfl | exact absurd ⟨h4, h5⟩ hc
  · have i3 : is3 x = false := by simp [is3, h3]
    rw [i3, show (if x.kind = 3 ∧ kindAt l 2 < 0 ∧ kindAt l 3 = i then ([[42]] : List Str) else []) = [] from if_neg fun h => h3 h.1]; rfl
theorem star_iff2 {l : List Param} {i : Int} {x : Param} (hr pv : Bool) : starOf hr pv x = if x.kind = 3 ∧ hr = false ∧ pv = false then [[42]] else [] := by
  unfold starOf is3
  by_cases h3 : x.kind = 3 <;> cases hr <;> cases pv <;> simp [h3]
noncomputable def spec_signatureText.b0 (a1 : List Param)  (h0 : (Int × (List Str)) → Option (Str)) (z_ : Str) (x248 : Int) (x249 : List Str) : Option (Str) := (ln' z_ (a1.length) fun v311 => (if x248 < v311 then (ixParam a1 x248 fun v344 v345 v346 v347 => (lj 0 (fun J0 => (if v345 = 3 then (lv (kindAt a1 2) fun v355 => (if v355 < 0 then (lv (kindAt a1 3) fun v356 => (if v356 = x248 then (gd ((x249.length + 1) * 16 ≤ 140737488355328) (lv (x249 ++ [[42]]) fun v357 => (J0 v357))) else (J0 x249))) else (J0 x249))) else (J0 x249))) (fun x354 => (gd (validParam ⟨v344, v345, v346, v347⟩ = true) (lv (paramText (⟨v344, v345, v346, v347⟩)) fun v360 => (gd ((x354.length + 1) * 16 ≤ 140737488355328) (lv (x354 ++ [v360]) fun v361 => (if v345 = 0 then (arr .i64 (x248 + 1) fun v362 => (ln' z_ (a1.length) fun v363 => (if v362 = v363 then (gd ((v361.length + 1) * 16 ≤ 140737488355328) (lv (v361 ++ [[47]]) fun v364 => (arr .i64 (x248 + 1) fun v365 => (h0 (v365, v364))))) else (arr .i64 (x248 + 1) fun v366 => (ixParam a1 v366 fun v367 v368 v369 v370 => (if v368 = 0 then (arr .i64 (x248 + 1) fun v371 => (h0 (v371, v361))) else (gd ((v361.length + 1) * 16 ≤ 140737488355328) (lv (v361 ++ [[47]]) fun v372 => (arr .i64 (x248 + 1) fun v373 => (h0 (v373, v372))))))))))) else (arr .i64 (x248 + 1) fun v374 => (h0 (v374, v361))))))))))) else (gd ((joinW x249 (([44, 32] : Str))).length ≤ 1000000000) (lv (joinW x249 ([44, 32])) fun v375 => (some v375)))))
noncomputable def spec_signatureText.f (a1 : List Param) (h0 : (Int × (List Str)) → Option (Str)) (z_ : Str) : Option (Str) := (h0 (0, []))
theorem pin_spec_signatureText {e : ESt} {ns : List (Nat × Nat)} {ps : List (Nat × C)} {os : List (Nat × EObj)} (hs : pinPZ (pinZ e.o (os.map Prod.fst) ns) e.s ps := by first | (cbv <;> (repeat' (first | trivial | refine And.intro ?_ ?_)) <;> (first | rfl | assumption | omega | exact clS hV _ | exact clParam hV _ | with_unfolding_all exact hV.nS [] | with_unfolding_all exact (hV.nS []).symm | with_unfolding_all exact hV.nParam [] | with_unfolding_all exact (hV.nParam []).symm | with_unfolding_all exact hV.rS _ | with_unfolding_all exact hV.rParam _ | with_unfolding_all exact (hV.nS _).trans (Eq.trans (by simp only [hV.nS] at *; omega) (hV.nS _).symm) | with_unfolding_all exact (hV.nParam _).trans (Eq.trans (by simp only [hV.nParam] at *; omega) (hV.nParam _).symm) | simp [closedCell])) | fail) (ho : ∀ B : (Nat → EObj) → List (List C) → List (List C) → Prop, (∀ o rows rows', rowsZ (pinZ o (os.map Prod.fst) ns) rows rows' → B o rows rows') → pinOZ (pinZ e.o (os.map Prod.fst) ns) B e.o ns os := by intro B hB; first | (cbv <;> (repeat' (first | trivial | refine And.intro ?_ ?_ | refine pin_same hB ?_ | refine pin_nil hB ?_ | refine pin_dirty hB (by assumption) (by assumption) ?_ ?_ | exact pinL_n | refine pinL_c ?_ ?_ | exact pzr rfl rfl rfl (nrS hV _) (clS hV _) | exact pzr rfl rfl rfl (nrParam hV _) (clParam hV _) | (refine pz_go ?_; cbv) | (refine pinL_go ?_; cbv))) <;> (first | exact clS hV _ | exact clParam hV _ | with_unfolding_all exact hV.rS _ | with_unfolding_all exact hV.rParam _ | with_unfolding_all exact hV.nS [] | with_unfolding_all exact (hV.nS []).symm | with_unfolding_all exact hV.nParam [] | with_unfolding_all exact (hV.nParam []).symm | assumption | omega | rfl | with_unfolding_all exact (hV.nS _).trans (Eq.trans (by simp only [hV.nS] at *; omega) (hV.nS _).symm) | with_unfolding_all exact (hV.nParam _).trans (Eq.trans (by simp only [hV.nParam] at *; omega) (hV.nParam _).symm) | simp [closedCell])) | fail) : PinnedZ e ns ps os := ⟨hs, ho⟩
section
variable {G : Glob} (hm : pg.follows .mixedOrders = true) (hz : ∀ T, ∀ c ∈ (ttOf pg T).zero, Bd c) (hG : GF G)
include hm hz hG
set_option maxHeartbeats 8000000 in
theorem spec_signatureText.w {a1 : List Param} (inv0 : (Int × (List Str)) → Prop) (mu0 : (Int × (List Str)) → Nat) (res0 : (Int × (List Str)) → Str) (hb0 : ∀ (s_ : Int × (List Str)), inv0  s_ → spec_signatureText.b0 a1  (LI (inv0 ) (mu0 ) (res0 ) (mu0  s_)) (res0  s_) s_.1 s_.2 = some (res0  s_)) {r : Str} (H : spec_signatureText.f a1 (EI (inv0 ) (mu0 ) (res0 )) r = some r) : FnOK pg G 98 [.agg [.sl (a1.map eParam)]] [] (.str ⟨⟨r⟩⟩) [] false := by
  obtain ⟨V, hV⟩ := exV
  simp only [← hV.rS, ← hV.rParam]
  refine fn_ok (tt0 := tyG [ty3, ty4, ty9, ty46, ty48, ty71, ty99]) (fn := Tryz.f98) (body := bodyOf Tryz.f98) (ext := []) hm (tyG_sub ⟨tt3, tt4, tt9, tt46, tt48, tt71, tt99, trivial⟩) hz 0 true [8] (by unfold pg; exact Tryz.func98) rfl rfl (by simp [Tryz.f98]) (by simp [EObj.toObj]) (by cbv) ?_
  intro A F hA hF
  unfold spec_signatureText.f at H
  cbv
  repeat' (first
    | (with_reducible refine s_gd H (fun hg H => ?_))
    | (cases H; exact fin_plain hF rfl rfl rfl rfl)
    | (with_reducible refine s_lt H (fun H => ?_) (fun H => ?_) <;> cbv)
    | (with_reducible refine s_le H (fun H => ?_) (fun H => ?_) <;> cbv)
    | (with_reducible refine s_eq H (fun H => ?_) (fun H => ?_) <;> cbv)
    | (with_reducible refine s_ne H (fun H => ?_) (fun H => ?_) <;> cbv)
    | (with_reducible refine s_ln H lnOf (fun _ H => ?_); cbv)
    | (with_reducible refine s_ixParam hV H (fun _ _ _ _ H => ?_); cbv)
    | (with_reducible refine s_ar H (fun _ H => ?_); cbv)
    | (with_reducible refine s_apS hV H (fun _ H => ?_); cbv)
    | (with_reducible refine s_apL hV.rS hV.nS H (fun _ H => ?_); cbv)
    | (with_reducible refine s_apParam hV H (fun _ H => ?_); cbv)
    | (with_reducible refine s_apL hV.rParam hV.nParam H (fun _ H => ?_); cbv)
    | (with_reducible refine s_lv H (fun _ H => ?_); cbv)
    | (with_reducible refine s_loop hA H (fun s h => hb0  s h) [1] [64] (fun e s => [(3, .ref 384 0 1 0 (V.nS (s.2))), (4, .int .i64 (s.1))]) (fun e s => [(384, ⟨0, true, 1, .many (V.rS (s.2))⟩)]) [] pin_spec_signatureText nbOf ?_; rintro ⟨x248, x249⟩ H; unfold spec_signatureText.b0 at H; (try dsimp only at H); cbv)
    | (with_reducible refine s_next H pin_spec_signatureText nbOf)
    | (with_reducible refine s_joint 0 hA H [1, 4, 5] [64, 320] (fun e s => [(3, .ref 384 0 1 0 (V.nS s))]) (fun e s => [(384, ⟨0, true, 1, .many (V.rS s)⟩)]) (fun J0 H => ?_) ?_; rotate_left; (rintro x354 H; (try dsimp only at H); cbv); rotate_left; cbv)
    | (with_reducible refine s_meet H [] pin_spec_signatureText nbOf)
    | (with_reducible refine s_ci hA H (by (try simp only [hV.rS, hV.rParam]); with_unfolding_all exact spec_kindAt.ok hm hz hG) rfl (fun _ H => ?_); cbv)
    | (with_reducible refine s_cs hA H (by (try simp only [hV.rS, hV.rParam]); (first | (have hk_ := spec_paramText.ok hm hz hG hg; with_unfolding_all exact hk_) | (with_unfolding_all exact spec_paramText.ok hm hz hG (by first | assumption | omega)))) rfl (fun _ H => ?_); cbv)
    | (with_reducible refine s_cs hA H (by (try simp only [hV.rS, hV.rParam]); (first | (have hk_ := spec_joinWith.ok hm hz hG hg; with_unfolding_all exact hk_) | (with_unfolding_all exact spec_joinWith.ok hm hz hG (by first | assumption | omega)))) rfl (fun _ H => ?_); cbv)
    | (with_reducible refine s_rs (by assumption) H (by (try simp only [hV.rS, hV.rParam]); (first | (have hk_ := spec_joinWith.ok hm hz hG hg; with_unfolding_all exact hk_) | (with_unfolding_all exact spec_joinWith.ok hm hz hG (by first | assumption | omega)))) (fun _ H => ?_); cbv)
    | (with_reducible refine callT_cl hA (fun U hU => ?_); cbv)
    | (with_reducible refine indep_of hA ?_; cbv)
    | ((with_reducible refine side ?_); exact sideOf)
    | (with_reducible refine s_tkG hV.rS hV.nS ?_; cbv)
    | (with_reducible refine s_tkG hV.rParam hV.nParam ?_; cbv)
    | (with_reducible refine s_tk1 ?_; cbv)
    | (with_reducible refine And.intro ?_ ?_)
    | (intro ys hys; subst hys; rfl)
    | rfl)
end
section
variable {G : Glob} (hm : pg.follows .mixedOrders = true) (hz : ∀ T, ∀ c ∈ (ttOf pg T).zero, Bd c) (hG : GF G)
include hm hz hG
theorem spec_signatureText.ok {a1 : List Param} (hp : validParams a1 = true) : FnOK pg G 98 [.agg [.sl (a1.map eParam)]] [] (.str ⟨⟨(((fun (s : Sig) => sigText s.params) ⟨a1⟩))⟩⟩) [] false := by
  obtain ⟨hv1, hv2, hv3⟩ := validParams_all hp
  have hT := sigText_len hp
  have A := @spec_signatureText.w G hm hz hG a1 (rgI (a1) (fun s : Int × List Str => s.1) (fun s : Int × List Str => sigInv a1 s.1 s.2)) (rgM (a1) (fun s : Int × List Str => s.1)) (rgR (a1) (fun s : Int × List Str => s.1) (fun r (s : Int × List Str) => sigText a1)) (rangeS (a1) (fun s : Int × List Str => s.1) (fun s : Int × List Str => sigInv a1 s.1 s.2) (fun r (s : Int × List Str) => sigText a1) (fun rec z s => spec_signatureText.b0 a1  rec z s.1 s.2) ?_ ?_)
  · exact A (EI_fin (rg0 (sigInv_0 a1) rfl) rfl)
  · rintro rec ⟨i, out⟩ hI h0 h1
    simp only at h0 h1 hI
    have e := sigInv_end hI h1
    simp only [spec_signatureText.b0, lv]
    refine ln_ok fun hB => ?_
    rw [if_neg (by omega), e, gd_ok (by show (sigText a1).length ≤ _; omega)]; rfl
  · rintro rec ⟨i, out⟩ x r hI h0 h1 hx hll hr
    simp only at h0 h1 hx hll hI
    have hxv := hv1 x (List.mem_of_getElem? hx)
    have hL := sigInv_len hp hI
    have hN := sigInv_next h0 hx hI
    have hL2 := sigInv_len hp hN
    simp only [List.length_append, List.length_cons, List.length_nil] at hL2
    rw [star_iff hp h0 hx] at hN hL2
    have hgo := fun o h => hr (i + 1, o) h rfl
    obtain ⟨n1, n2⟩ := next0_drop (l := a1) (i := i + 1) (by omega)
    have tail : ∀ o : List Str, o = (out ++ if x.kind = 3 ∧ kindAt a1 2 < 0 ∧ kindAt a1 3 = i then [[42]] else []) →
        (gd (validParam ⟨x.name, x.kind, x.hasDefault, x.dflt⟩ = true) (lv (paramText ⟨x.name, x.kind, x.hasDefault, x.dflt⟩) fun v => gd ((o.length + 1) * 16 ≤ 140737488355328) (lv (o ++ [v]) fun w => if x.kind = 0 then arr .i64 (i + 1) fun u => ln' (sigText a1) a1.length fun n => if u = n then gd ((w.length + 1) * 16 ≤ 140737488355328) (lv (w ++ [[47]]) fun z => arr .i64 (i + 1) fun y => rec (y, z)) else arr .i64 (i + 1) fun y => ixParam a1 y fun _ k _ _ => if k = 0 then arr .i64 (i + 1) fun y => rec (y, w) else gd ((w.length + 1) * 16 ≤ 140737488355328) (lv (w ++ [[47]]) fun z => arr .i64 (i + 1) fun y => rec (y, z)) else arr .i64 (i + 1) fun y => rec (y, w)))) = some (sigText a1) := by
      rintro o rfl
      simp only [eta_Param, lv]
      generalize (out ++ if x.kind = 3 ∧ kindAt a1 2 < 0 ∧ kindAt a1 3 = i then [[42]] else []) = o at hN hL2
      have hol : o.length ≤ 24 := by have := sigInv_len hp hN; simp at this; omega
      rw [gd_ok hxv, gd_ok (by omega)]
      refine ite_ok (fun h => ?_) (fun h => ?_)
      · rw [arr_ok (by omega)]
        refine ln_ok fun hB => ite_ok (fun h2 => ?_) (fun h2 => ?_)
        · have e : slashOf x (a1.drop (i + 1).toNat) = [[47]] := by rw [slashOf, n1 h2]; simp [h]
          rw [e] at hN
          rw [gd_ok (by simp; omega), arr_ok (by omega)]
          exact hgo _ hN
        · obtain ⟨y, hy⟩ : ∃ y, a1[(i + 1).toNat]? = some y := ⟨_, List.getElem?_eq_getElem (by omega)⟩
          rw [arr_ok (by omega), ixParam_ok (by omega) hy]
          refine ite_ok (fun h3 => ?_) (fun h3 => ?_)
          · have e : slashOf x (a1.drop (i + 1).toNat) = [] := by rw [slashOf, n2 y hy]; simp [h3]
            rw [e, List.append_nil] at hN
            rw [arr_ok (by omega)]
            exact hgo _ hN
          · have e : slashOf x (a1.drop (i + 1).toNat) = [[47]] := by rw [slashOf, n2 y hy]; simp [h, h3]
            rw [e] at hN
            rw [gd_ok (by simp; omega), arr_ok (by omega)]
            exact hgo _ hN
      · have e : slashOf x (a1.drop (i + 1).toNat) = [] := by rw [slashOf]; simp [h]
        rw [e, List.append_nil] at hN
        rw [arr_ok (by omega)]
        exact hgo _ hN
    simp only [spec_signatureText.b0, lj]
    refine ln_ok fun hB => ?_
    rw [if_pos (by omega), ixParam_ok h0 hx]
    refine ite_ok (fun h => ?_) (fun h => ?_)
    · rw [lv]
      refine ite_ok (fun h2 => ?_) (fun h2 => ?_)
      · rw [lv]
        refine ite_ok (fun h3 => ?_) (fun h3 => ?_)
        · rw [gd_ok (by omega)]
          exact tail _ (by rw [if_pos ⟨h, h2, h3⟩])
        · exact tail _ (by rw [if_neg (fun c => h3 c.2.2), List.append_nil])
      · exact tail _ (by rw [if_neg (fun c => h2 c.2.1), List.append_nil])
    · exact tail _ (by rw [if_neg (fun c => h c.1), List.append_nil])
end
theorem last3_at {l : List Param} {i : Int} {y : Param} (h0 : 0 < i) (hy : l[(i - 1).toNat]? = some y) : last3 (l.take i.toNat) = is3 y := by
  rw [show i.toNat = (i - 1).toNat + 1 by omega, take_snoc hy, last3_snoc]
noncomputable def impl_SignatureText.b0 (a1 : List Param) (v233 : Int) (h0 : ((List Str) × Int) → Option (Str)) (z_ : Str) (x310 : List Str) (x311 : Int) : Option (Str) := (if x311 < v233 then (ixParam a1 x311 fun v428 v429 v430 v431 => (lj 0 (fun J0 => (if v429 = 3 then (cn ((fun (s : Sig) (k : Int) => hasK k s.params) (⟨a1⟩) 2) (J0 x310) (if x311 = 0 then (gd ((x310.length + 1) * 16 ≤ 140737488355328) (lv (x310 ++ [[42]]) fun v447 => (J0 v447))) else (arr .i64 (x311 - 1) fun v448 => (ixParam a1 v448 fun v449 v450 v451 v452 => (if v450 = 3 then (J0 x310) else (gd ((x310.length + 1) * 16 ≤ 140737488355328) (lv (x310 ++ [[42]]) fun v453 => (J0 v453)))))))) else (J0 x310))) (fun x446 => (gd (validParam ⟨v428, v429, v430, v431⟩ = true) (lv (paramText (⟨v428, v429, v430, v431⟩)) fun v456 => (gd ((x446.length + 1) * 16 ≤ 140737488355328) (lv (x446 ++ [v456]) fun v457 => (if v429 = 0 then (ln' z_ (a1.length) fun v458 => (arr .i64 (v458 - 1) fun v459 => (if x311 = v459 then (gd ((v457.length + 1) * 16 ≤ 140737488355328) (lv (v457 ++ [[47]]) fun v460 => (arr .i64 (x311 + 1) fun v461 => (h0 (v460, v461))))) else (arr .i64 (x311 + 1) fun v462 => (ixParam a1 v462 fun v463 v464 v465 v466 => (if v464 = 0 then (arr .i64 (x311 + 1) fun v467 => (h0 (v457, v467))) else (gd ((v457.length + 1) * 16 ≤ 140737488355328) (lv (v457 ++ [[47]]) fun v468 => (arr .i64 (x311 + 1) fun v469 => (h0 (v468, v469))))))))))) else (arr .i64 (x311 + 1) fun v470 => (h0 (v457, v470))))))))))) else (gd ((joinW x310 (([44, 32] : Str))).length ≤ 140737488355328 ∧ x310.length ≤ 140737488355328) (lv (joinW x310 ([44, 32])) fun v471 => (some v471))))
noncomputable def impl_SignatureText.f (a1 : List Param) (h0 : Int → ((List Str) × Int) → Option (Str)) (z_ : Str) : Option (Str) := (cn ((fun (s : Sig) => validParams s.params) (⟨a1⟩)) (ln' z_ (a1.length) fun v233 => (h0 v233 ([], 0))) (some (([] : Str))))
section
variable {G : Glob} (hm : pg.follows .mixedOrders = true) (hz : ∀ T, ∀ c ∈ (ttOf pg T).zero, Bd c) (hG : GF G)
include hm hz hG
set_option maxHeartbeats 8000000 in
theorem impl_SignatureText.w {a1 : List Param} (inv0 : Int → ((List Str) × Int) → Prop) (mu0 : Int → ((List Str) × Int) → Nat) (res0 : Int → ((List Str) × Int) → Str) (hb0 : ∀ (v233 : Int), ∀ (s_ : (List Str) × Int), inv0 v233 s_ → impl_SignatureText.b0 a1 v233 (LI (inv0 v233) (mu0 v233) (res0 v233) (mu0 v233 s_)) (res0 v233 s_) s_.1 s_.2 = some (res0 v233 s_)) {r : Str} (H : impl_SignatureText.f a1 (fun v233 => EI (inv0 v233) (mu0 v233) (res0 v233)) r = some r) : FnOK pg G 40 [.agg [.sl (a1.map eParam)]] [] (.str ⟨⟨r⟩⟩) [] false := by
  obtain ⟨V, hV⟩ := exV
  simp only [← hV.rS, ← hV.rParam]
  refine fn_ok (tt0 := tyG [ty3, ty4, ty9, ty46, ty48, ty71, ty99]) (fn := Tryz.f40) (body := bodyOf Tryz.f40) (ext := []) hm (tyG_sub ⟨tt3, tt4, tt9, tt46, tt48, tt71, tt99, trivial⟩) hz 0 true [9] (by unfold pg; exact Tryz.func40) rfl rfl (by simp [Tryz.f40]) (by simp [EObj.toObj]) (by cbv) ?_
  intro A F hA hF
  unfold impl_SignatureText.f at H
  cbv
  repeat' (first
    | (with_reducible refine s_gd H (fun hg H => ?_))
    | (cases H; exact fin_plain hF rfl rfl rfl rfl)
    | (with_reducible refine s_lt H (fun H => ?_) (fun H => ?_) <;> cbv)
    | (with_reducible refine s_le H (fun H => ?_) (fun H => ?_) <;> cbv)
    | (with_reducible refine s_eq H (fun H => ?_) (fun H => ?_) <;> cbv)
    | (with_reducible refine s_ne H (fun H => ?_) (fun H => ?_) <;> cbv)
    | (with_reducible refine s_ln H lnOf (fun _ H => ?_); cbv)
    | (with_reducible refine s_ixParam hV H (fun _ _ _ _ H => ?_); cbv)
    | (with_reducible refine s_ar H (fun _ H => ?_); cbv)
    | (with_reducible refine s_apS hV H (fun _ H => ?_); cbv)
    | (with_reducible refine s_apL hV.rS hV.nS H (fun _ H => ?_); cbv)
    | (with_reducible refine s_apParam hV H (fun _ H => ?_); cbv)
    | (with_reducible refine s_apL hV.rParam hV.nParam H (fun _ H => ?_); cbv)
    | (with_reducible refine s_lv H (fun _ H => ?_); cbv)
    | (with_reducible refine s_loop hA H (fun s h => hb0 _ s h) [1, 10, 11] [64] (fun e s => [(3, .ref 2624 0 1 0 (V.nS (s.1))), (12, .int .i64 (s.2))]) (fun e s => [(2624, ⟨0, true, 1, .many (V.rS (s.1))⟩)]) [(2624, 1)] pin_spec_signatureText nbOf ?_; rintro ⟨x310, x311⟩ H; unfold impl_SignatureText.b0 at H; (try dsimp only at H); cbv)
    | (with_reducible refine s_next H pin_spec_signatureText nbOf)
    | (with_reducible refine s_joint 0 hA H [1, 4, 5, 10, 11, 12] [64, 320] (fun e s => [(3, .ref 2624 0 1 0 (V.nS s))]) (fun e s => [(2624, ⟨0, true, 1, .many (V.rS s)⟩)]) (fun J0 H => ?_) ?_; rotate_left; (rintro x446 H; (try dsimp only at H); cbv); rotate_left; cbv)
    | (with_reducible refine s_meet H [] pin_spec_signatureText nbOf)
    | (with_reducible refine s_cb hA H (by (try simp only [hV.rS, hV.rParam]); with_unfolding_all exact impl_ValidSignature.ok hm hz hG) rfl (fun H => ?_) (fun H => ?_) <;> cbv)
    | (with_reducible refine s_cb hA H (by (try simp only [hV.rS, hV.rParam]); with_unfolding_all exact impl_Signature_has.ok hm hz hG) rfl (fun H => ?_) (fun H => ?_) <;> cbv)
    | (with_reducible refine s_cs hA H (by (try simp only [hV.rS, hV.rParam]); (first | (have hk_ := impl_Param_text.ok hm hz hG hg; with_unfolding_all exact hk_) | (with_unfolding_all exact impl_Param_text.ok hm hz hG (by first | assumption | omega)))) rfl (fun _ H => ?_); cbv)
    | (with_reducible refine s_cs hA H (by (try simp only [hV.rS, hV.rParam]); with_unfolding_all exact strings_Join.ok hm hz hG (by first | assumption | omega)) rfl (fun _ H => ?_); cbv)
    | (with_reducible refine s_rs (by assumption) H (by (try simp only [hV.rS, hV.rParam]); with_unfolding_all exact strings_Join.ok hm hz hG (by first | assumption | omega)) (fun _ H => ?_); cbv)
    | (with_reducible refine callT_cl hA (fun U hU => ?_); cbv)
    | (with_reducible refine indep_of hA ?_; cbv)
    | ((with_reducible refine side ?_); exact sideOf)
    | (with_reducible refine s_tkG hV.rS hV.nS ?_; cbv)
    | (with_reducible refine s_tkG hV.rParam hV.nParam ?_; cbv)
    | (with_reducible refine s_tk1 ?_; cbv)
    | (with_reducible refine And.intro ?_ ?_)
    | ((with_reducible refine s_cn H (fun hb H => ?_) (fun hb H => ?_)) <;> (revert H; subst hb; intro H; cbv))
    | (intro ys hys; subst hys; rfl)
    | rfl)
end
section
variable {G : Glob} (hm : pg.follows .mixedOrders = true) (hz : ∀ T, ∀ c ∈ (ttOf pg T).zero, Bd c) (hG : GF G)
include hm hz hG
theorem impl_SignatureText.ok {a1 : List Param}  : FnOK pg G 40 [.agg [.sl (a1.map eParam)]] [] (.str ⟨⟨(((fun (s : Sig) => SigTextV s.params) ⟨a1⟩))⟩⟩) [] false := by
  have A := @impl_SignatureText.w G hm hz hG a1 (fun v => rgI (a1) (fun s : List Str × Int => s.2) (fun s : List Str × Int => v = a1.length ∧ validParams a1 = true ∧ sigInv a1 s.2 s.1)) (fun v => rgM (a1) (fun s : List Str × Int => s.2)) (fun v => rgR (a1) (fun s : List Str × Int => s.2) (fun r (s : List Str × Int) => SigTextV a1)) (fun v => rangeS (a1) (fun s : List Str × Int => s.2) (fun s : List Str × Int => v = a1.length ∧ validParams a1 = true ∧ sigInv a1 s.2 s.1) (fun r (s : List Str × Int) => SigTextV a1) (fun rec z s => impl_SignatureText.b0 a1 v rec z s.1 s.2) ?_ ?_)
  · refine A ?_
    simp only [impl_SignatureText.f, cn_ite]
    refine ite_ok (fun hv => ln_ok fun hB => EI_fin (rg0 ⟨rfl, hv, sigInv_0 a1⟩ rfl) rfl) fun hv => ?_
    rw [SigTextV, if_neg hv]
  · rintro rec ⟨out, i⟩ ⟨rfl, hp, hI⟩ h0 h1
    simp only at h0 h1 hI
    have hT := sigText_len hp
    have hL := sigInv_len hp hI
    have e := sigInv_end hI h1
    simp only [impl_SignatureText.b0, lv]
    rw [if_neg (by omega), e, gd_ok ⟨by show (sigText a1).length ≤ _; omega, by rw [← e]; omega⟩, SigTextV, if_pos hp]; rfl
  · rintro rec ⟨out, i⟩ x r ⟨rfl, hp, hI⟩ h0 h1 hx hll hr
    simp only at h0 h1 hx hll hI
    obtain ⟨hv1, hv2, hv3⟩ := validParams_all hp
    have hxv := hv1 x (List.mem_of_getElem? hx)
    have hL := sigInv_len hp hI
    have hN := sigInv_next h0 hx hI
    have hL2 := sigInv_len hp hN
    simp only [List.length_append, List.length_cons, List.length_nil] at hL2
    rw [star_iff2 (l := a1) (i := i)] at hN hL2
    have hgo := fun o h => hr (o, i + 1) ⟨rfl, hp, h⟩ rfl
    obtain ⟨n1, n2⟩ := next0_drop (l := a1) (i := i + 1) (by omega)
    have tail : ∀ o : List Str, o = (out ++ if x.kind = 3 ∧ hasK 2 a1 = false ∧ last3 (a1.take i.toNat) = false then [[42]] else []) →
        (gd (validParam ⟨x.name, x.kind, x.hasDefault, x.dflt⟩ = true) (lv (paramText ⟨x.name, x.kind, x.hasDefault, x.dflt⟩) fun v => gd ((o.length + 1) * 16 ≤ 140737488355328) (lv (o ++ [v]) fun w => if x.kind = 0 then ln' (SigTextV a1) a1.length fun n => arr .i64 (n - 1) fun m => if i = m then gd ((w.length + 1) * 16 ≤ 140737488355328) (lv (w ++ [[47]]) fun z => arr .i64 (i + 1) fun y => rec (z, y)) else arr .i64 (i + 1) fun y => ixParam a1 y fun _ k _ _ => if k = 0 then arr .i64 (i + 1) fun y => rec (w, y) else gd ((w.length + 1) * 16 ≤ 140737488355328) (lv (w ++ [[47]]) fun z => arr .i64 (i + 1) fun y => rec (z, y)) else arr .i64 (i + 1) fun y => rec (w, y)))) = some (SigTextV a1) := by
      rintro o rfl
      simp only [eta_Param, lv]
      generalize (out ++ if x.kind = 3 ∧ hasK 2 a1 = false ∧ last3 (a1.take i.toNat) = false then [[42]] else []) = o at hN hL2
      have hol : o.length ≤ 24 := by have := sigInv_len hp hN; simp at this; omega
      rw [gd_ok hxv, gd_ok (by omega)]
      refine ite_ok (fun h => ?_) (fun h => ?_)
      · refine ln_ok fun hB => ?_
        rw [arr_ok (by omega)]
        refine ite_ok (fun h2 => ?_) (fun h2 => ?_)
        · have e : slashOf x (a1.drop (i + 1).toNat) = [[47]] := by rw [slashOf, n1 (by omega)]; simp [h]
          rw [e] at hN
          rw [gd_ok (by simp; omega), arr_ok (by omega)]
          exact hgo _ hN
        · obtain ⟨y, hy⟩ : ∃ y, a1[(i + 1).toNat]? = some y := ⟨_, List.getElem?_eq_getElem (by omega)⟩
          rw [arr_ok (by omega), ixParam_ok (by omega) hy]
          refine ite_ok (fun h3 => ?_) (fun h3 => ?_)
          · have e : slashOf x (a1.drop (i + 1).toNat) = [] := by rw [slashOf, n2 y hy]; simp [h3]
            rw [e, List.append_nil] at hN
            rw [arr_ok (by omega)]
            exact hgo _ hN
          · have e : slashOf x (a1.drop (i + 1).toNat) = [[47]] := by rw [slashOf, n2 y hy]; simp [h, h3]
            rw [e] at hN
            rw [gd_ok (by simp; omega), arr_ok (by omega)]
            exact hgo _ hN
      · have e : slashOf x (a1.drop (i + 1).toNat) = [] := by rw [slashOf]; simp [h]
        rw [e, List.append_nil] at hN
        rw [arr_ok (by omega)]
        exact hgo _ hN
    simp only [impl_SignatureText.b0, lj, cn_ite]
    rw [if_pos (by omega), ixParam_ok h0 hx]
    refine ite_ok (fun h => ?_) (fun h => ?_)
    · refine ite_ok (fun h2 => ?_) (fun h2 => ?_)
      · exact tail _ (by rw [if_neg (fun c => by rw [h2] at c; exact absurd c.2.1 (by simp)), List.append_nil])
      · have h2 := Bool.eq_false_iff.2 h2
        refine ite_ok (fun h3 => ?_) (fun h3 => ?_)
        · subst h3
          rw [gd_ok (by omega)]
          exact tail _ (by rw [if_pos ⟨h, h2, rfl⟩])
        · obtain ⟨y, hy⟩ : ∃ y, a1[(i - 1).toNat]? = some y := ⟨_, List.getElem?_eq_getElem (by omega)⟩
          have hla := last3_at (by omega) hy
          rw [arr_ok (by omega), ixParam_ok (by omega) hy]
          refine ite_ok (fun h4 => ?_) (fun h4 => ?_)
          · have : is3 y = true := by simp [is3, h4]
            exact tail _ (by rw [if_neg (fun c => by rw [hla, this] at c; exact absurd c.2.2 (by simp)), List.append_nil])
          · have : is3 y = false := by simp [is3, h4]
            rw [gd_ok (by omega)]
            exact tail _ (by rw [if_pos ⟨h, h2, by rw [hla, this]⟩])
    · exact tail _ (by rw [if_neg (fun c => h c.1), List.append_nil])
end
end Go.Proofs.YtoofegkjdjlpkaaGreatDoor.M
