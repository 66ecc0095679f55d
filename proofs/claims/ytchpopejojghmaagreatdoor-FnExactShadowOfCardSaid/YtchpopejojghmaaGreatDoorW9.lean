/- Shapes and calls of them; texts joined, sorted and kept once; the names that are needed: the program. -/
import Derived.Test.YtchpopejojghmaaGreatDoorLT
import Derived.Test.YtchpopejojghmaaGreatDoorW8
set_option linter.unusedVariables false
set_option linter.unusedSimpArgs false
set_option linter.unusedSectionVars false
namespace Go.Proofs.YtchpopejojghmaaGreatDoor.M
open Go Go.Proofs
set_option maxRecDepth 100000
theorem pairAtV_neg {l : List Pair} {s : Str} : pairAtV l s < 0 ↔ s ∉ l.map (·.name) := by
 have := findI_nn (fun p : Pair => decide (p.name = s)) l
 have h2 : (l.any (fun p => decide (p.name = s)) = true) ↔ s ∈ l.map (·.name) := by
  rw [List.any_eq_true, List.mem_map]; simp
 rw [← h2, ← this]
 unfold pairAtV; omega
theorem distGo_iff : ∀ {l pre : List Pair}, distGo pre l = true ↔ (l.map (·.name)).Nodup ∧ ∀ p ∈ l, p.name ∉ pre.map (·.name)
 | [], pre => by simp [distGo]
 | p :: r, pre => by
  have ih := @distGo_iff r (pre ++ [p])
  unfold distGo
  rw [Bool.and_eq_true, decide_eq_true_eq, ih, pairAtV_neg, List.map_cons, List.nodup_cons]
  simp only [List.map_append, List.map_cons, List.map_nil, List.mem_append, List.mem_singleton, not_or, List.mem_cons]
  constructor
  ·rintro ⟨h1, h2, h3⟩
   refine ⟨⟨fun hm => ?_, h2⟩, fun q hq => ?_⟩
   ·obtain ⟨q, hq, e⟩ := List.mem_map.1 hm
    exact (h3 q hq).2.1 e
   ·rcases hq with rfl | hq
    ·exact h1
    ·exact (h3 q hq).1
  ·rintro ⟨⟨h1, h2⟩, h3⟩
   exact ⟨h3 p (.inl rfl), h2, fun q hq => ⟨h3 q (.inr hq), fun e => h1 (by rw [← e]; exact List.mem_map_of_mem hq), by simp⟩⟩
def ascGo : Option Str → List Str → Bool
 | _, [] => true
 | pv, s :: r => isName s && (match pv with | none => true | some q => Op.bytesLess q s) && ascGo (some s) r
def shapeB (x : Shape) : Bool := ascGo none x.names && inRange x.count 0 8 && decide ((x.names.length : Int) ≤ 8)
theorem ascGo_some : ∀ {l : List Str} {q : Str}, ascGo (some q) l = true ↔ (∀ x ∈ l, isName x = true) ∧ Asc (q :: l)
 | [], q => by simp [ascGo, Asc]
 | s :: r, q => by
  have ih := @ascGo_some r s
  unfold ascGo
  rw [Bool.and_eq_true, Bool.and_eq_true, ih, bl_lt]
  unfold Asc
  rw [List.pairwise_cons (a := q)]
  constructor
  ·rintro ⟨⟨h1, h2⟩, h3, h4⟩
   refine ⟨fun x hx => ?_, fun x hx => ?_, h4⟩
   ·rcases List.mem_cons.1 hx with rfl | hx
    ·exact h1
    ·exact h3 x hx
   ·rcases List.mem_cons.1 hx with rfl | hx
    ·exact h2
    ·exact bl_trans h2 ((List.pairwise_cons.1 h4).1 x hx)
  ·rintro ⟨h1, h2, h3⟩
   exact ⟨⟨h1 s (by simp), h2 s (by simp)⟩, fun x hx => h1 x (by simp [hx]), h3⟩
theorem ascGo_none {l : List Str} : ascGo none l = true ↔ (∀ x ∈ l, isName x = true) ∧ Asc l := by
 cases l with
 | nil => simp [ascGo, Asc]
 | cons s r =>
  unfold ascGo
  rw [Bool.and_eq_true, Bool.and_eq_true, ascGo_some]
  constructor
  ·rintro ⟨⟨h1, _⟩, h3, h4⟩
   refine ⟨fun x hx => ?_, h4⟩
   rcases List.mem_cons.1 hx with rfl | hx
   ·exact h1
   ·exact h3 x hx
  ·rintro ⟨h1, h2⟩
   exact ⟨⟨h1 s (by simp), rfl⟩, fun x hx => h1 x (by simp [hx]), h2⟩
theorem shapeB_iff {n : Int} {l : List Str} : shapeB ⟨n, l⟩ = true ↔ 0 ≤ n ∧ okShape n.toNat l := by
 unfold shapeB okShape
 simp only [Bool.and_eq_true, ascGo_none, inRange, decide_eq_true_eq]
 constructor
 ·rintro ⟨⟨⟨h1, h2⟩, h3, h4⟩, h5⟩; exact ⟨h3, by omega, by omega, h2, h1⟩
 ·rintro ⟨h1, h2, h3, h4, h5⟩; exact ⟨⟨⟨h5, h4⟩, h1, by omega⟩, by omega⟩
def prevT (l : List Str) (i : Int) : Option Str := if i ≤ 0 then none else l[(i - 1).toNat]?
noncomputable def impl_ValidShape.b0 (a1 : Int) (a2 : List Str) (v3 : Int) (h0 : (Int) → Option (Bool)) (z_ : Bool) (x9 : Int) : Option (Bool) := (if x9 < v3 then (ixS a2 x9 fun v15 => (cn (isName v15) (if 0 < x9 then (arr .i64 (x9 - 1) fun v16 => (ixS a2 v16 fun v17 => (if Op.bytesLess v17 v15 = true then (arr .i64 (x9 + 1) fun v18 => (h0 v18)) else (some false)))) else (arr .i64 (x9 + 1) fun v19 => (h0 v19))) (some false))) else (cn (inRange a1 0 8) (ln' z_ (a2.length) fun v20 => (if v20 ≤ 8 then (some true) else (some false))) (some false)))
noncomputable def impl_ValidShape.f (a1 : Int) (a2 : List Str) (h0 : Int → (Int) → Option (Bool)) (z_ : Bool) : Option (Bool) := (ln' z_ (a2.length) fun v3 => (h0 v3 0))
theorem pin_impl_ValidShape {e : ESt} {ns : List (Nat × Nat)} {ps : List (Nat × C)} {os : List (Nat × EObj)} (hs : pinPZ (pinZ e.o (os.map Prod.fst) ns) e.s ps := by first | (cbv <;> (repeat' (first | trivial | refine And.intro ?_ ?_)) <;> (first | rfl | assumption | omega | exact clS hV _ | with_unfolding_all exact hV.nS [] | with_unfolding_all exact (hV.nS []).symm | with_unfolding_all exact hV.rS _ | with_unfolding_all exact (hV.nS _).trans (Eq.trans (by simp only [hV.nS] at *; omega) (hV.nS _).symm) | simp [closedCell])) | fail) (ho : ∀ B : (Nat → EObj) → List (List C) → List (List C) → Prop, (∀ o rows rows', rowsZ (pinZ o (os.map Prod.fst) ns) rows rows' → B o rows rows') → pinOZ (pinZ e.o (os.map Prod.fst) ns) B e.o ns os := by intro B hB; first | (cbv <;> (repeat' (first | trivial | refine And.intro ?_ ?_ | refine pin_same hB ?_ | refine pin_nil hB ?_ | refine pin_dirty hB (by assumption) (by assumption) ?_ ?_ | exact pinL_n | refine pinL_c ?_ ?_ | exact pzr rfl rfl rfl (nrS hV _) (clS hV _) | (refine pz_go ?_; cbv) | (refine pinL_go ?_; cbv))) <;> (first | exact clS hV _ | with_unfolding_all exact hV.rS _ | with_unfolding_all exact hV.nS [] | with_unfolding_all exact (hV.nS []).symm | assumption | omega | rfl | with_unfolding_all exact (hV.nS _).trans (Eq.trans (by simp only [hV.nS] at *; omega) (hV.nS _).symm) | simp [closedCell])) | fail) : PinnedZ e ns ps os := ⟨hs, ho⟩
section
variable {G : Glob} (hm : Hm) (hz : Hz) (hG : GF G)
include hm hz hG
set_option maxHeartbeats 8000000 in
theorem impl_ValidShape.w {a1 : Int} {a2 : List Str} (inv0 : Int → (Int) → Prop) (mu0 : Int → (Int) → Nat) (res0 : Int → (Int) → Bool) (hb0 : ∀ (v3 : Int), ∀ (s_ : Int), inv0 v3 s_ → impl_ValidShape.b0 a1 a2 v3 (LI (inv0 v3) (mu0 v3) (res0 v3) (mu0 v3 s_)) (res0 v3 s_) s_ = some (res0 v3 s_)) {r : Bool} (H : impl_ValidShape.f a1 a2 (fun v3 => EI (inv0 v3) (mu0 v3) (res0 v3)) r = some r) : FnOK pg G 95 [.agg [.int .i64 a1, .sl (a2.map eS)]] [] (.bool r) [] false := by
 obtain ⟨V, hV⟩ := exV
 simp only [← hV.rS]
 refine fn_ok (tt0 := tyG [ty3, ty4, ty9, ty68, ty70]) (fn := Tryz.f95) (body := bodyOf Tryz.f95) (ext := []) hm (tyG_sub ⟨tt3, tt4, tt9, tt68, tt70, trivial⟩) hz 0 true [] (by unfold pg; exact Tryz.func95) rfl rfl (by simp [Tryz.f95]) (by simp [EObj.toObj]) (by cbv) ?_
 intro A F hA hF
 unfold impl_ValidShape.f at H
 cbv
 repeat' (first
  | (cases H; exact fin_plain hF rfl rfl rfl rfl)
  | ((with_reducible first | refine s_lt H ?_ ?_ | refine s_le H ?_ ?_ | refine s_eq H ?_ ?_ | refine s_ne H ?_ ?_) <;> intro H <;> cbv)
  | with_reducible first
   | (refine s_bl H (fun H => ?_) (fun H => ?_) <;> cbv)
   | (refine s_ble H (fun H => ?_) (fun H => ?_) <;> cbv)
   | (refine s_ln H lnOf (fun _ H => ?_); cbv)
   | (refine s_ixS hV H (fun _ H => ?_); cbv)
   | (refine s_ar H (fun _ H => ?_); cbv)
   | (refine s_lv H (fun _ H => ?_); cbv)
   | (refine s_loop hA H (fun s h => hb0 _ s h) [1, 6, 7] [64] (fun e s => [(8, .int .i64 s)]) (fun e s => []) [] pin_impl_ValidShape nbOf ?_; rintro x9 H; unfold impl_ValidShape.b0 at H; (try dsimp only at H); cbv)
  | (with_reducible refine s_next H pin_impl_ValidShape nbOf)
  | with_reducible first
   | (refine s_cb hA H (by (try simp only [hV.rS]); with_unfolding_all exact impl_isName.ok hm hz hG) rfl (fun H => ?_) (fun H => ?_) <;> cbv)
   | (refine s_cb hA H (by (try simp only [hV.rS]); with_unfolding_all exact impl_in.ok hm hz hG) rfl (fun H => ?_) (fun H => ?_) <;> cbv)
   | (refine indep_of hA ?_; cbv)
  | ((with_reducible refine side ?_); exact sideOf)
  | with_reducible first
   | (refine s_tkG hV.rS hV.nS ?_; cbv)
   | (refine s_tk1 ?_; cbv)
  | (with_reducible refine And.intro ?_ ?_)
  | ((with_reducible refine s_cn H (fun hb H => ?_) (fun hb H => ?_)) <;> (revert H; subst hb; intro H; cbv))
  | (intro ys hys; subst hys; rfl)
  | rfl)
theorem impl_ValidShape.ok {a1 : Int} {a2 : List Str}  : FnOK pg G 95 [.agg [.int .i64 a1, .sl (a2.map eS)]] [] (.bool ((shapeB ⟨a1, a2⟩))) [] false := by
 have A := @impl_ValidShape.w G hm hz hG a1 a2 (fun v => rgI (a2) (fun i => i) (fun _ => v = a2.length ∧ a2.length ≤ 9223372036854775807)) (fun v => rgM (a2) (fun i => i)) (fun v => rgR (a2) (fun i => i) (fun r i => ascGo (prevT a2 i) r && inRange a1 0 8 && decide ((a2.length : Int) ≤ 8))) (fun v => rangeS (a2) (fun i => i) (fun _ => v = a2.length ∧ a2.length ≤ 9223372036854775807) (fun r i => ascGo (prevT a2 i) r && inRange a1 0 8 && decide ((a2.length : Int) ≤ 8)) (fun rec z s => impl_ValidShape.b0 a1 a2 v rec z s) ?_ ?_)
 ·exact A (ln_ok fun hB => EI_fin (rg0 ⟨rfl, hB⟩ rfl) (by simp [rgR, prevT, shapeB]))
 ·rintro rec s ⟨rfl, hB⟩ h0 h1
  simp only [impl_ValidShape.b0, cn_ite]
  rw [if_neg (by omega)]
  simp only [ascGo, Bool.true_and]
  refine ite_ok (fun c => ?_) (fun c => by simp [c])
  refine ln_ok fun _ => ?_
  refine ite_ok (fun d => by simp [c, d]) (fun d => by simp [d])
 ·rintro rec s x r ⟨rfl, hB⟩ h0 h1 hx hl hr
  have hn : prevT a2 (s + 1) = some x := by unfold prevT; rw [if_neg (by omega), show s + 1 - 1 = s by omega, hx]
  have hr' := hr (s + 1) ⟨rfl, hB⟩ rfl
  rw [hn] at hr'
  simp only [impl_ValidShape.b0, cn_ite]
  rw [if_pos h1, ixS_ok h0 hx]
  refine ite_ok (fun c => ?_) (fun c => by simp [ascGo, c])
  refine ite_ok (fun d => ?_) (fun d => ?_)
  ·obtain ⟨y, hy⟩ : ∃ y, a2[(s - 1).toNat]? = some y := ⟨_, List.getElem?_eq_getElem (by omega)⟩
   have hp : prevT a2 s = some y := by unfold prevT; rw [if_neg (by omega), hy]
   rw [arr_ok (by omega), ixS_ok (by omega) hy, hp]
   refine ite_ok (fun e => ?_) (fun e => by simp [ascGo, e])
   rw [arr_ok (by omega), hr']
   simp [ascGo, c, e]
  ·have hp : prevT a2 s = none := by unfold prevT; rw [if_pos (by omega)]
   rw [arr_ok (by omega), hr', hp]
   simp [ascGo, c]
end
def flatOfB (x : Shape) : Flat := if shapeB x = true then flatV x.count x.names else ⟨[], []⟩
section
variable {A : Bx} {P : Program} {G : Glob} {rg : Option Nat} {own : Nat} {o : Nat → EObj} {g : FuncId} {vs : List C} {sh : Bool} {K : C → List (Nat × EObj) → Prop} {R : Type} {r : R} {V : Vx} {v : Flat} {f : (List Int) → (List Pair) → Option R}
theorem s_cFlat (hV : IsV V) (hA : IsBx true rg P G A) (H : on_Flat v f = some r) (hok : FnOK P G g vs [] (.agg [.sl ((v.places).map eI), .sl ((v.names).map ePair)]) [] sh) (hc : vs.all closedArg = true) (h : ∀ c0 c1, f c0 c1 = some r → K (.agg [.sl (V.rI c0), .sl (V.rPair c1)]) []) : A.call own o g vs K := by
 refine callT_plain hA hok hc ?_
 have := h (v.places) (v.names) H
 simp only [hV.rI, hV.rPair] at this
 exact this
theorem s_wFlat (hA : IsBx true rg P G A) (H : on_Flat v f = some r) (hids : callIds vs = []) (h : ∀ U, U = callS P G own o g → closeVs o [] vs fun bs => U bs (vs.flatMap topRefs) K) : A.call own o g vs K := callT_sh hA hids h
variable {U : List C → List Nat → (C → List (Nat × EObj) → Prop) → Prop} {bs : List C} {tops : List Nat}
theorem s_tFlat (hU : U = callS P G own o g) (hV : IsV V) (H : on_Flat v f = some r) (hok : FnOK P G g bs [] (.agg [.sl ((v.places).map eI), .sl ((v.names).map ePair)]) [] true) (hfr : topsF o [] tops) (h : ∀ c0 c1, f c0 c1 = some r → K (.agg [.sl (V.rI c0), .sl (V.rPair c1)]) (freezeE o tops ++ [])) : U bs tops K := by
 refine callS_of hU hok (fun i hi => (topsF_sound hfr i hi).2) ?_
 have := h (v.places) (v.names) H
 simp only [hV.rI, hV.rPair] at this
 exact this
end
noncomputable def impl_FlatOf.b0 (a1 : Int) (a2 : List Str) (v5 : List Int) (v25 : Int) (h0 : (Int × (List Pair)) → Option (Flat)) (z_ : Flat) (x31 : Int) (x32 : List Pair) : Option (Flat) := (if x31 < v25 then (ixS a2 x31 fun v40 => (gd ((x32.length + 1) * 24 ≤ 140737488355328) (lv (x32 ++ [⟨v40, 0⟩]) fun v41 => (arr .i64 (x31 + 1) fun v42 => (h0 (v42, v41)))))) else (gd (v5.length ≤ 1000 ∧ x32.length ≤ 1000) (on_Flat ((fun (f : Flat) => f) (⟨v5, x32⟩)) fun v45 v46 => (some ⟨v45, v46⟩))))
noncomputable def impl_FlatOf.f (a1 : Int) (a2 : List Str) (h0 : (List Int) → Int → (Int × (List Pair)) → Option (Flat)) (z_ : Flat) : Option (Flat) := (cn (shapeB (⟨a1, a2⟩)) (gd (0 ≤ a1 ∧ a1.toNat * 8 ≤ 140737488355328) (lv (List.replicate a1.toNat 0) fun v5 => (ln' z_ (a2.length) fun v25 => (h0 v5 v25 (0, []))))) (some ⟨[], []⟩))
theorem pin_impl_FlatOf {e : ESt} {ns : List (Nat × Nat)} {ps : List (Nat × C)} {os : List (Nat × EObj)} (hs : pinPZ (pinZ e.o (os.map Prod.fst) ns) e.s ps := by first | (cbv <;> (repeat' (first | trivial | refine And.intro ?_ ?_)) <;> (first | rfl | assumption | omega | exact clI hV _ | exact clS hV _ | exact clPair hV _ | with_unfolding_all exact hV.nI [] | with_unfolding_all exact (hV.nI []).symm | with_unfolding_all exact hV.nS [] | with_unfolding_all exact (hV.nS []).symm | with_unfolding_all exact hV.nPair [] | with_unfolding_all exact (hV.nPair []).symm | with_unfolding_all exact hV.rI _ | with_unfolding_all exact hV.rS _ | with_unfolding_all exact hV.rPair _ | with_unfolding_all exact (hV.nI _).trans (Eq.trans (by simp only [hV.nI] at *; omega) (hV.nI _).symm) | with_unfolding_all exact (hV.nS _).trans (Eq.trans (by simp only [hV.nS] at *; omega) (hV.nS _).symm) | with_unfolding_all exact (hV.nPair _).trans (Eq.trans (by simp only [hV.nPair] at *; omega) (hV.nPair _).symm) | simp [closedCell])) | fail) (ho : ∀ B : (Nat → EObj) → List (List C) → List (List C) → Prop, (∀ o rows rows', rowsZ (pinZ o (os.map Prod.fst) ns) rows rows' → B o rows rows') → pinOZ (pinZ e.o (os.map Prod.fst) ns) B e.o ns os := by intro B hB; first | (cbv <;> (repeat' (first | trivial | refine And.intro ?_ ?_ | refine pin_same hB ?_ | refine pin_nil hB ?_ | refine pin_dirty hB (by assumption) (by assumption) ?_ ?_ | exact pinL_n | refine pinL_c ?_ ?_ | exact pzr rfl rfl rfl (nrI hV _) (clI hV _) | exact pzr rfl rfl rfl (nrS hV _) (clS hV _) | exact pzr rfl rfl rfl (nrPair hV _) (clPair hV _) | (refine pz_go ?_; cbv) | (refine pinL_go ?_; cbv))) <;> (first | exact clI hV _ | exact clS hV _ | exact clPair hV _ | with_unfolding_all exact hV.rI _ | with_unfolding_all exact hV.rS _ | with_unfolding_all exact hV.rPair _ | with_unfolding_all exact hV.nI [] | with_unfolding_all exact (hV.nI []).symm | with_unfolding_all exact hV.nS [] | with_unfolding_all exact (hV.nS []).symm | with_unfolding_all exact hV.nPair [] | with_unfolding_all exact (hV.nPair []).symm | assumption | omega | rfl | with_unfolding_all exact (hV.nI _).trans (Eq.trans (by simp only [hV.nI] at *; omega) (hV.nI _).symm) | with_unfolding_all exact (hV.nS _).trans (Eq.trans (by simp only [hV.nS] at *; omega) (hV.nS _).symm) | with_unfolding_all exact (hV.nPair _).trans (Eq.trans (by simp only [hV.nPair] at *; omega) (hV.nPair _).symm) | simp [closedCell])) | fail) : PinnedZ e ns ps os := ⟨hs, ho⟩
section
variable {G : Glob} (hm : Hm) (hz : Hz) (hG : GF G)
include hm hz hG
set_option maxHeartbeats 8000000 in
theorem impl_FlatOf.w {a1 : Int} {a2 : List Str} (inv0 : (List Int) → Int → (Int × (List Pair)) → Prop) (mu0 : (List Int) → Int → (Int × (List Pair)) → Nat) (res0 : (List Int) → Int → (Int × (List Pair)) → Flat) (hb0 : ∀ (v5 : List Int), ∀ (v25 : Int), ∀ (s_ : Int × (List Pair)), inv0 v5 v25 s_ → impl_FlatOf.b0 a1 a2 v5 v25 (LI (inv0 v5 v25) (mu0 v5 v25) (res0 v5 v25) (mu0 v5 v25 s_)) (res0 v5 v25 s_) s_.1 s_.2 = some (res0 v5 v25 s_)) {r : Flat} (H : impl_FlatOf.f a1 a2 (fun v5 v25 => EI (inv0 v5 v25) (mu0 v5 v25) (res0 v5 v25)) r = some r) : FnOK pg G 97 [.agg [.int .i64 a1, .sl (a2.map eS)]] [] (.agg [.sl ((r.places).map eI), .sl ((r.names).map ePair)]) [] true := by
 obtain ⟨V, hV⟩ := exV
 have e0_I : V.rI [] = [] := hV.rI []
 have e1_I : ∀ x r, V.rI (x :: r) = eI x :: V.rI r := fun x r => by rw [hV.rI, hV.rI]; rfl
 have e0_S : V.rS [] = [] := hV.rS []
 have e1_S : ∀ x r, V.rS (x :: r) = eS x :: V.rS r := fun x r => by rw [hV.rS, hV.rS]; rfl
 have e0_Pair : V.rPair [] = [] := hV.rPair []
 have e1_Pair : ∀ x r, V.rPair (x :: r) = ePair x :: V.rPair r := fun x r => by rw [hV.rPair, hV.rPair]; rfl
 simp only [← hV.rI, ← hV.rS, ← hV.rPair]
 refine fn_okS (tt0 := tyG [ty3, ty4, ty9, ty39, ty45, ty47, ty68, ty70, ty136]) (fn := Tryz.f97) (body := bodyOf Tryz.f97) (ext := []) hm (tyG_sub ⟨tt3, tt4, tt9, tt39, tt45, tt47, tt68, tt70, tt136, trivial⟩) hz 0 [] (by unfold pg; exact Tryz.func97) rfl rfl (by simp [Tryz.f97]) (by simp [EObj.toObj]) (by cbv) ?_
 intro A F hA hF
 unfold impl_FlatOf.f at H
 cbv
 repeat' (first
  | (with_reducible refine s_gd H (fun hg H => ?_))
  | (cases H; (try simp only [e0_I, e0_S, e0_Pair, e1_I, eI, e1_S, eS, e1_Pair, ePair] at hF); with_reducible refine fin_close hF rfl (by simp [expIds, posCells, C.cells, idOf]) ?_; cbv)
  | ((with_reducible first | refine s_lt H ?_ ?_ | refine s_le H ?_ ?_ | refine s_eq H ?_ ?_ | refine s_ne H ?_ ?_) <;> intro H <;> cbv)
  | with_reducible first
   | (refine s_ln H lnOf (fun _ H => ?_); cbv)
   | (refine s_ixS hV H (fun _ H => ?_); cbv)
   | (refine s_ar H (fun _ H => ?_); cbv)
   | (refine s_apI hV H (fun _ H => ?_); cbv)
   | (refine s_apL hV.rI hV.nI H (fun _ H => ?_); cbv)
   | (refine s_mkL hV.rI hV.nI (by cbv) H (fun _ H => ?_); cbv)
   | (refine s_apS hV H (fun _ H => ?_); cbv)
   | (refine s_apL hV.rS hV.nS H (fun _ H => ?_); cbv)
   | (refine s_mkL hV.rS hV.nS (by cbv) H (fun _ H => ?_); cbv)
   | (refine s_apPair hV H (fun _ H => ?_); cbv)
   | (refine s_apL hV.rPair hV.nPair H (fun _ H => ?_); cbv)
   | (refine s_mkL hV.rPair hV.nPair (by cbv) H (fun _ H => ?_); cbv)
   | (refine s_lv H (fun _ H => ?_); cbv)
   | (refine s_loop hA H (fun s h => hb0 _ _ s h) [16, 2, 3, 15] [128, 768] (fun e s => [(17, .int .i64 (s.1))]) (fun e s => [ovO e 192 [(1, .ref 1664 0 2 0 (V.nPair (s.2)))], (1664, ⟨0, true, 2, .many (V.rPair (s.2))⟩)]) [(1664, 2)] pin_impl_FlatOf nbOf ?_; rintro ⟨x31, x32⟩ H; unfold impl_FlatOf.b0 at H; (try dsimp only at H); cbv)
  | (with_reducible refine s_next H pin_impl_FlatOf nbOf)
  | with_reducible first
   | (refine s_cb hA H (by (try simp only [hV.rI, hV.rS, hV.rPair]); with_unfolding_all exact impl_ValidShape.ok hm hz hG) rfl (fun H => ?_) (fun H => ?_) <;> cbv)
   | (refine s_cFlat hV hA H (by (try simp only [hV.rI, hV.rS, hV.rPair]); (first | (have hk_ := impl_Flat_copyOf.ok hm hz hG hg; with_unfolding_all exact hk_) | (with_unfolding_all exact impl_Flat_copyOf.ok hm hz hG (by first | assumption | omega)))) rfl (fun _ _ H => ?_); cbv)
   | (refine s_tFlat (by assumption) hV H (by (try simp only [hV.rI, hV.rS, hV.rPair]); (first | (have hk_ := impl_Flat_copyOf.ok hm hz hG hg; with_unfolding_all exact hk_) | (with_unfolding_all exact impl_Flat_copyOf.ok hm hz hG (by first | assumption | omega)))) (by first | (cbv <;> (repeat' (first | trivial | refine And.intro ?_ ?_)) <;> (first | rfl | exact clI hV _ | with_unfolding_all exact clS hV _ | with_unfolding_all exact clPair hV _ | simp [closedCell])) | fail) (fun _ _ H => ?_); cbv)
   | (refine s_wFlat (g := 142) hA H rfl (fun U hU => ?_); cbv)
   | (refine indep_of hA ?_; cbv)
  | ((with_reducible refine side ?_); exact sideOf)
  | with_reducible first
   | (refine s_tkG hV.rI hV.nI ?_; cbv)
   | (refine s_tkG hV.rS hV.nS ?_; cbv)
   | (refine s_tkG hV.rPair hV.nPair ?_; cbv)
   | (refine s_tk1 ?_; cbv)
  | (with_reducible refine And.intro ?_ ?_)
  | ((with_reducible refine s_cn H (fun hb H => ?_) (fun hb H => ?_)) <;> (revert H; subst hb; intro H; cbv))
  | (intro ys hys; subst hys; rfl)
  | rfl)
theorem impl_FlatOf.ok {a1 : Int} {a2 : List Str}  : FnOK pg G 97 [.agg [.int .i64 a1, .sl (a2.map eS)]] [] (.agg [.sl (((flatOfB ⟨a1, a2⟩).places).map eI), .sl (((flatOfB ⟨a1, a2⟩).names).map ePair)]) [] true := by
 refine @impl_FlatOf.w G hm hz hG a1 a2 (fun v w s => v = List.replicate a1.toNat 0 ∧ w = a2.length ∧ shapeB ⟨a1, a2⟩ = true ∧ 0 ≤ s.1 ∧ s.1 ≤ a2.length ∧ s.2 = (a2.take s.1.toNat).map fun x => ⟨x, 0⟩) (fun _ _ s => a2.length - s.1.toNat) (fun _ _ _ => flatOfB ⟨a1, a2⟩) ?_ _ ?_
 ·rintro v w ⟨i, out⟩ ⟨hv, hw, hb, h0, h1, h2⟩
  simp only at h0 h1 h2
  obtain ⟨b0, b1, b2, _, _⟩ := shapeB_iff.1 hb
  have hol : out.length ≤ a2.length := by rw [h2]; exact map_take_le
  simp only [impl_FlatOf.b0]
  refine ite_ok (fun h => ?_) (fun h => ?_)
  ·obtain ⟨x, hx⟩ : ∃ x, a2[i.toNat]? = some x := ⟨_, List.getElem?_eq_getElem (by omega)⟩
   rw [ixS_ok h0 hx, gd_ok (by omega)]
   simp only [lv]
   rw [arr_ok (by omega), LI_ok ⟨⟨hv, hw, hb, by simp only; omega, by simp only; omega, by simp only; rw [h2, map_take_snoc h0 hx]⟩, by simp only; omega⟩]
  ·rw [take_len (by omega)] at h2
   rw [gd_ok ⟨by rw [hv, List.length_replicate]; omega, by omega⟩]
   simp only [on_Flat]
   rw [hv, h2, flatOfB, if_pos hb]; rfl
 ·simp only [impl_FlatOf.f, lv, cn_ite]
  refine ite_ok (fun c => ?_) (fun c => by rw [flatOfB, if_neg c])
  obtain ⟨b0, b1, b2, _, _⟩ := shapeB_iff.1 c
  rw [gd_ok ⟨b0, by omega⟩]
  refine ln_ok fun _ => ?_
  rw [EI_ok ⟨by trivial, by trivial, c, Int.le_refl 0, by simp only; omega, by trivial⟩]
end
noncomputable def impl_fit.f (a1 : List Param) (a2 : List Int) (a3 : List Pair)  (z_ : Bool) : Option (Bool) := (cn ((fun (s : Sig) => validParams s.params) (⟨a1⟩)) (cn (validFlat (⟨a2, a3⟩)) (some true) (some false)) (some false))
section
variable {G : Glob} (hm : Hm) (hz : Hz) (hG : GF G)
include hm hz hG
theorem impl_fit.w {a1 : List Param} {a2 : List Int} {a3 : List Pair}  {r : Bool} (H : impl_fit.f a1 a2 a3  r = some r) : FnOK pg G 82 [.agg [.sl (a1.map eParam)], .agg [.sl (a2.map eI), .sl (a3.map ePair)]] [] (.bool r) [] false := by
 obtain ⟨V, hV⟩ := exV
 simp only [← hV.rI, ← hV.rPair, ← hV.rParam]
 refine fn_ok (tt0 := tyG [ty3, ty4, ty9, ty27, ty29, ty39, ty45, ty47, ty65, ty136]) (fn := Tryz.f82) (body := bodyOf Tryz.f82) (ext := []) hm (tyG_sub ⟨tt3, tt4, tt9, tt27, tt29, tt39, tt45, tt47, tt65, tt136, trivial⟩) hz 0 true [] (by unfold pg; exact Tryz.func82) rfl rfl (by simp [Tryz.f82]) (by simp [EObj.toObj]) (by cbv) ?_
 intro A F hA hF
 unfold impl_fit.f at H
 cbv
 repeat' (first
  | (cases H; exact fin_plain hF rfl rfl rfl rfl)
  | with_reducible first
   | (refine s_lv H (fun _ H => ?_); cbv)
   | (refine s_cb hA H (by (try simp only [hV.rI, hV.rPair, hV.rParam]); with_unfolding_all exact impl_ValidSignature.ok hm hz hG) rfl (fun H => ?_) (fun H => ?_) <;> cbv)
   | (refine s_cb hA H (by (try simp only [hV.rI, hV.rPair, hV.rParam]); with_unfolding_all exact impl_ValidFlat.ok hm hz hG) rfl (fun H => ?_) (fun H => ?_) <;> cbv)
   | (refine indep_of hA ?_; cbv)
  | ((with_reducible refine side ?_); exact sideOf)
  | with_reducible first
   | (refine s_tkG hV.rI hV.nI ?_; cbv)
   | (refine s_tkG hV.rPair hV.nPair ?_; cbv)
   | (refine s_tkG hV.rParam hV.nParam ?_; cbv)
   | (refine s_tk1 ?_; cbv)
  | (with_reducible refine And.intro ?_ ?_)
  | ((with_reducible refine s_cn H (fun hb H => ?_) (fun hb H => ?_)) <;> (revert H; subst hb; intro H; cbv))
  | (intro ys hys; subst hys; rfl)
  | rfl)
theorem impl_fit.ok {a1 : List Param} {a2 : List Int} {a3 : List Pair}  : FnOK pg G 82 [.agg [.sl (a1.map eParam)], .agg [.sl (a2.map eI), .sl (a3.map ePair)]] [] (.bool (((fun (s : Sig) (f : Flat) => validParams s.params && validFlat f) ⟨a1⟩ ⟨a2, a3⟩))) [] false := by
 refine impl_fit.w hm hz hG ?_
 simp only [impl_fit.f, cn_ite]
 repeat' split
 all_goals simp_all
end
def bindB (s : Sig) (f : Flat) : Bind × Bool := if (validParams s.params && validFlat f) = true ∧ wrongV s.params f = [] then (⟨boundV s.params f⟩, true) else (⟨[]⟩, false)
section
variable {A : Bx} {P : Program} {G : Glob} {rg : Option Nat} {own : Nat} {o : Nat → EObj} {g : FuncId} {vs : List C} {sh : Bool} {K : C → List (Nat × EObj) → Prop} {R : Type} {r : R} {V : Vx} {v : Bind × (List Prob)} {f : (List Slot) → (List Prob) → Option R}
theorem s_cBind_LProb (hV : IsV V) (hA : IsBx true rg P G A) (H : on_Bind_LProb v f = some r) (hok : FnOK P G g vs [] (.tup [.agg [.sl ((v.1.slots).map eSlot)], .sl ((v.2).map eProb)]) [] sh) (hc : vs.all closedArg = true) (h : ∀ c0 c1, f c0 c1 = some r → K (.tup [.agg [.sl (V.rSlot c0)], .sl (V.rProb c1)]) []) : A.call own o g vs K := by
 refine callT_plain hA hok hc ?_
 have := h (v.1.slots) (v.2) H
 simp only [hV.rProb, hV.rSlot] at this
 exact this
variable {U : List C → List Nat → (C → List (Nat × EObj) → Prop) → Prop} {bs : List C} {tops : List Nat}
end
noncomputable def impl_Bind.f (a1 : List Param) (a2 : List Int) (a3 : List Pair)  (z_ : Bind × Bool) : Option (Bind × Bool) := (cn ((fun (s : Sig) (f : Flat) => validParams s.params && validFlat f) (⟨a1⟩) (⟨a2, a3⟩)) (gd (a1.length ≤ 8 ∧ a2.length ≤ 8 ∧ a3.length ≤ 8) (on_Bind_LProb ((fun (s : Sig) (f : Flat) => ((⟨boundV s.params f⟩ : Bind), wrongV s.params f)) (⟨a1⟩) (⟨a2, a3⟩)) fun v6 v7 => (ln' z_ (v7.length) fun v9 => (if 0 < v9 then (some (⟨[]⟩, false)) else (some (⟨v6⟩, true)))))) (some (⟨[]⟩, false)))
section
variable {G : Glob} (hm : Hm) (hz : Hz) (hG : GF G)
include hm hz hG
theorem impl_Bind.w {a1 : List Param} {a2 : List Int} {a3 : List Pair}  {r : Bind × Bool} (H : impl_Bind.f a1 a2 a3  r = some r) : FnOK pg G 35 [.agg [.sl (a1.map eParam)], .agg [.sl (a2.map eI), .sl (a3.map ePair)]] [] (.tup [.agg [.sl ((r.1.slots).map eSlot)], .bool (r.2)]) [] true := by
 obtain ⟨V, hV⟩ := exV
 have e0_I : V.rI [] = [] := hV.rI []
 have e1_I : ∀ x r, V.rI (x :: r) = eI x :: V.rI r := fun x r => by rw [hV.rI, hV.rI]; rfl
 have e0_Pair : V.rPair [] = [] := hV.rPair []
 have e1_Pair : ∀ x r, V.rPair (x :: r) = ePair x :: V.rPair r := fun x r => by rw [hV.rPair, hV.rPair]; rfl
 have e0_Param : V.rParam [] = [] := hV.rParam []
 have e1_Param : ∀ x r, V.rParam (x :: r) = eParam x :: V.rParam r := fun x r => by rw [hV.rParam, hV.rParam]; rfl
 have e0_Prob : V.rProb [] = [] := hV.rProb []
 have e1_Prob : ∀ x r, V.rProb (x :: r) = eProb x :: V.rProb r := fun x r => by rw [hV.rProb, hV.rProb]; rfl
 have e0_Slot : V.rSlot [] = [] := hV.rSlot []
 simp only [← hV.rI, ← hV.rPair, ← hV.rParam, ← hV.rProb, ← hV.rSlot]
 refine fn_okS (tt0 := tyG [ty3, ty4, ty9, ty27, ty29, ty39, ty45, ty47, ty51, ty53, ty65, ty98, ty102, ty136, ty146]) (fn := Tryz.f35) (body := bodyOf Tryz.f35) (ext := []) hm (tyG_sub ⟨tt3, tt4, tt9, tt27, tt29, tt39, tt45, tt47, tt51, tt53, tt65, tt98, tt102, tt136, tt146, trivial⟩) hz 0 [] (by unfold pg; exact Tryz.func35) rfl rfl (by simp [Tryz.f35]) (by simp [EObj.toObj]) (by cbv) ?_
 intro A F hA hF
 unfold impl_Bind.f at H
 cbv
 repeat' (first
  | (with_reducible refine s_gd H (fun hg H => ?_))
  | (cases H; (try simp only [e0_I, e0_Pair, e0_Param, e0_Prob, e0_Slot, e1_I, eI, e1_Pair, ePair, e1_Param, eParam, e1_Prob, eProb] at hF); with_reducible refine fin_close hF rfl (by simp [expIds, posCells, C.cells, idOf]) ?_; cbv)
  | ((with_reducible first | refine s_lt H ?_ ?_ | refine s_le H ?_ ?_ | refine s_eq H ?_ ?_ | refine s_ne H ?_ ?_) <;> intro H <;> cbv)
  | with_reducible first
   | (refine s_ln H lnOf (fun _ H => ?_); cbv)
   | (refine s_lv H (fun _ H => ?_); cbv)
   | (refine s_cb hA H (by (try simp only [hV.rI, hV.rPair, hV.rParam, hV.rProb, hV.rSlot]); with_unfolding_all exact impl_fit.ok hm hz hG) rfl (fun H => ?_) (fun H => ?_) <;> cbv)
   | (refine s_cBind_LProb hV hA H (by (try simp only [hV.rI, hV.rPair, hV.rParam, hV.rProb, hV.rSlot]); (first | (have hk_ := impl_bind.ok hm hz hG hg; with_unfolding_all exact hk_) | (with_unfolding_all exact impl_bind.ok hm hz hG (by first | assumption | omega)))) rfl (fun _ _ H => ?_); cbv)
   | (refine indep_of hA ?_; cbv)
  | ((with_reducible refine side ?_); exact sideOf)
  | with_reducible first
   | (refine s_tkG hV.rI hV.nI ?_; cbv)
   | (refine s_tkG hV.rPair hV.nPair ?_; cbv)
   | (refine s_tkG hV.rParam hV.nParam ?_; cbv)
   | (refine s_tkG hV.rProb hV.nProb ?_; cbv)
   | (refine s_tkG hV.rSlot hV.nSlot ?_; cbv)
   | (refine s_tk1 ?_; cbv)
  | (with_reducible refine And.intro ?_ ?_)
  | ((with_reducible refine s_cn H (fun hb H => ?_) (fun hb H => ?_)) <;> (revert H; subst hb; intro H; cbv))
  | (intro ys hys; subst hys; rfl)
  | rfl)
theorem impl_Bind.ok {a1 : List Param} {a2 : List Int} {a3 : List Pair}  : FnOK pg G 35 [.agg [.sl (a1.map eParam)], .agg [.sl (a2.map eI), .sl (a3.map ePair)]] [] (.tup [.agg [.sl (((bindB ⟨a1⟩ ⟨a2, a3⟩).1.slots).map eSlot)], .bool ((bindB ⟨a1⟩ ⟨a2, a3⟩).2)]) [] true := by
 refine impl_Bind.w hm hz hG ?_
 simp only [impl_Bind.f, cn_ite]
 refine ite_ok (fun c => ?_) (fun c => by rw [bindB, if_neg fun h => c h.1])
 have c' := c
 simp only [Bool.and_eq_true] at c'
 obtain ⟨l1, l2, _, _, _⟩ := validFlat_len c'.2
 rw [gd_ok ⟨(validParams_VN c'.1).len, l1, l2⟩]
 simp only [on_Bind_LProb]
 refine ln_ok fun _ => ?_
 refine ite_ok (fun d => ?_) (fun d => ?_)
 ·rw [bindB, if_neg fun h => by rw [h.2] at d; simp at d]
 ·have e0 : wrongV a1 ⟨a2, a3⟩ = [] := by
   cases hw : wrongV a1 ⟨a2, a3⟩ with
   | nil => rfl
   | cons x r => exact absurd (by show (0 : Int) < ((wrongV a1 ⟨a2, a3⟩).length : Int); rw [hw, List.length_cons]; omega) d
  rw [bindB, if_pos ⟨c, e0⟩]
end
def on_Bind_B {R : Type} (v : Bind × Bool) (f : (List Slot) → Bool → Option R) : Option R := f (v.1.slots) (v.2)
section
variable {A : Bx} {P : Program} {G : Glob} {rg : Option Nat} {own : Nat} {o : Nat → EObj} {g : FuncId} {vs : List C} {sh : Bool} {K : C → List (Nat × EObj) → Prop} {R : Type} {r : R} {V : Vx} {v : Bind × Bool} {f : (List Slot) → Bool → Option R}
theorem s_cBind_B (hV : IsV V) (hA : IsBx true rg P G A) (H : on_Bind_B v f = some r) (hok : FnOK P G g vs [] (.tup [.agg [.sl ((v.1.slots).map eSlot)], .bool (v.2)]) [] sh) (hc : vs.all closedArg = true) (h : ∀ c0 c1, f c0 c1 = some r → K (.tup [.agg [.sl (V.rSlot c0)], .bool c1]) []) : A.call own o g vs K := by
 refine callT_plain hA hok hc ?_
 have := h (v.1.slots) (v.2) H
 simp only [hV.rSlot] at this
 exact this
variable {U : List C → List Nat → (C → List (Nat × EObj) → Prop) → Prop} {bs : List C} {tops : List Nat}
end
noncomputable def impl_Accepts.f (a1 : List Param) (a2 : List Int) (a3 : List Pair)  (z_ : Bool) : Option (Bool) := (on_Bind_B (bindB (⟨a1⟩) (⟨a2, a3⟩)) fun v6 v7 => (some v7))
section
variable {G : Glob} (hm : Hm) (hz : Hz) (hG : GF G)
include hm hz hG
theorem impl_Accepts.w {a1 : List Param} {a2 : List Int} {a3 : List Pair}  {r : Bool} (H : impl_Accepts.f a1 a2 a3  r = some r) : FnOK pg G 96 [.agg [.sl (a1.map eParam)], .agg [.sl (a2.map eI), .sl (a3.map ePair)]] [] (.bool r) [] false := by
 obtain ⟨V, hV⟩ := exV
 simp only [← hV.rI, ← hV.rPair, ← hV.rParam, ← hV.rSlot]
 refine fn_ok (tt0 := tyG [ty3, ty4, ty9, ty27, ty29, ty39, ty45, ty47, ty51, ty53, ty65, ty102, ty136]) (fn := Tryz.f96) (body := bodyOf Tryz.f96) (ext := []) hm (tyG_sub ⟨tt3, tt4, tt9, tt27, tt29, tt39, tt45, tt47, tt51, tt53, tt65, tt102, tt136, trivial⟩) hz 0 true [] (by unfold pg; exact Tryz.func96) rfl rfl (by simp [Tryz.f96]) (by simp [EObj.toObj]) (by cbv) ?_
 intro A F hA hF
 unfold impl_Accepts.f at H
 cbv
 repeat' (first
  | (cases H; exact fin_plain hF rfl rfl rfl rfl)
  | with_reducible first
   | (refine s_lv H (fun _ H => ?_); cbv)
   | (refine s_cBind_B hV hA H (by (try simp only [hV.rI, hV.rPair, hV.rParam, hV.rSlot]); with_unfolding_all exact impl_Bind.ok hm hz hG) rfl (fun _ _ H => ?_); cbv)
   | (refine indep_of hA ?_; cbv)
  | ((with_reducible refine side ?_); exact sideOf)
  | with_reducible first
   | (refine s_tkG hV.rI hV.nI ?_; cbv)
   | (refine s_tkG hV.rPair hV.nPair ?_; cbv)
   | (refine s_tkG hV.rParam hV.nParam ?_; cbv)
   | (refine s_tkG hV.rSlot hV.nSlot ?_; cbv)
   | (refine s_tk1 ?_; cbv)
  | (with_reducible refine And.intro ?_ ?_)
  | (intro ys hys; subst hys; rfl)
  | rfl)
theorem impl_Accepts.ok {a1 : List Param} {a2 : List Int} {a3 : List Pair}  : FnOK pg G 96 [.agg [.sl (a1.map eParam)], .agg [.sl (a2.map eI), .sl (a3.map ePair)]] [] (.bool (((fun (s : Sig) (f : Flat) => (bindB s f).2) ⟨a1⟩ ⟨a2, a3⟩))) [] false := by
 refine impl_Accepts.w hm hz hG ?_
 simp only [impl_Accepts.f, on_Bind_B]
end
def accSh (s : Sig) (x : Shape) : Bool := shapeB x && (bindB s (flatV x.count x.names)).2
noncomputable def impl_AcceptsShape.f (a1 : List Param) (a2 : Int) (a3 : List Str)  (z_ : Bool) : Option (Bool) := (cn (shapeB (⟨a2, a3⟩)) (on_Flat (flatOfB (⟨a2, a3⟩)) fun v4 v5 => (cn ((fun (s : Sig) (f : Flat) => (bindB s f).2) (⟨a1⟩) (⟨v4, v5⟩)) (some true) (some false))) (some false))
section
variable {G : Glob} (hm : Hm) (hz : Hz) (hG : GF G)
include hm hz hG
theorem impl_AcceptsShape.w {a1 : List Param} {a2 : Int} {a3 : List Str}  {r : Bool} (H : impl_AcceptsShape.f a1 a2 a3  r = some r) : FnOK pg G 45 [.agg [.sl (a1.map eParam)], .agg [.int .i64 a2, .sl (a3.map eS)]] [] (.bool r) [] false := by
 obtain ⟨V, hV⟩ := exV
 simp only [← hV.rI, ← hV.rS, ← hV.rPair, ← hV.rParam]
 refine fn_ok (tt0 := tyG [ty3, ty4, ty9, ty27, ty29, ty39, ty45, ty47, ty65, ty68, ty70, ty136]) (fn := Tryz.f45) (body := bodyOf Tryz.f45) (ext := []) hm (tyG_sub ⟨tt3, tt4, tt9, tt27, tt29, tt39, tt45, tt47, tt65, tt68, tt70, tt136, trivial⟩) hz 0 true [] (by unfold pg; exact Tryz.func45) rfl rfl (by simp [Tryz.f45]) (by simp [EObj.toObj]) (by cbv) ?_
 intro A F hA hF
 unfold impl_AcceptsShape.f at H
 cbv
 repeat' (first
  | (cases H; exact fin_plain hF rfl rfl rfl rfl)
  | with_reducible first
   | (refine s_lv H (fun _ H => ?_); cbv)
   | (refine s_cb hA H (by (try simp only [hV.rI, hV.rS, hV.rPair, hV.rParam]); with_unfolding_all exact impl_ValidShape.ok hm hz hG) rfl (fun H => ?_) (fun H => ?_) <;> cbv)
   | (refine s_cFlat hV hA H (by (try simp only [hV.rI, hV.rS, hV.rPair, hV.rParam]); with_unfolding_all exact impl_FlatOf.ok hm hz hG) rfl (fun _ _ H => ?_); cbv)
   | (refine s_cb hA H (by (try simp only [hV.rI, hV.rS, hV.rPair, hV.rParam]); with_unfolding_all exact impl_Accepts.ok hm hz hG) rfl (fun H => ?_) (fun H => ?_) <;> cbv)
   | (refine indep_of hA ?_; cbv)
  | ((with_reducible refine side ?_); exact sideOf)
  | with_reducible first
   | (refine s_tkG hV.rI hV.nI ?_; cbv)
   | (refine s_tkG hV.rS hV.nS ?_; cbv)
   | (refine s_tkG hV.rPair hV.nPair ?_; cbv)
   | (refine s_tkG hV.rParam hV.nParam ?_; cbv)
   | (refine s_tk1 ?_; cbv)
  | (with_reducible refine And.intro ?_ ?_)
  | ((with_reducible refine s_cn H (fun hb H => ?_) (fun hb H => ?_)) <;> (revert H; subst hb; intro H; cbv))
  | (intro ys hys; subst hys; rfl)
  | rfl)
theorem impl_AcceptsShape.ok {a1 : List Param} {a2 : Int} {a3 : List Str}  : FnOK pg G 45 [.agg [.sl (a1.map eParam)], .agg [.int .i64 a2, .sl (a3.map eS)]] [] (.bool ((accSh ⟨a1⟩ ⟨a2, a3⟩))) [] false := by
 refine impl_AcceptsShape.w hm hz hG ?_
 simp only [impl_AcceptsShape.f, cn_ite, on_Flat]
 refine ite_ok (fun c => ?_) (fun c => by simp [accSh, c])
 unfold flatOfB accSh
 rw [if_pos c]
 refine ite_ok (fun d => by simp [c]; exact d) (fun d => by simp [c]; simpa using d)
end
theorem validFlat_flatV {n : Int} {l : List Str} (h : shapeB ⟨n, l⟩ = true) : validFlat (flatV n l) = true := by
 obtain ⟨h0, h1, h2, h3, h4⟩ := shapeB_iff.1 h
 unfold validFlat
 simp only [Bool.and_eq_true, decide_eq_true_eq]
 refine ⟨⟨⟨⟨distGo_iff.2 ⟨by rw [flatV_names]; exact asc_nodup h3, fun p _ => by simp⟩, ?_⟩, ?_⟩, ?_⟩, ?_⟩
 ·unfold validPairs flatV
  rw [List.all_eq_true]
  intro p hp
  obtain ⟨x, hx, rfl⟩ := List.mem_map.1 hp
  simp [validPair, h4 x hx, isValue, inRange]
 ·unfold areValues flatV
  rw [List.all_eq_true]
  intro z hz
  rw [(List.mem_replicate.1 hz).2]; decide
 ·unfold flatV; simp; omega
 ·unfold flatV; simp; omega
theorem accSh_iff {A : List Param} (hv : validParams A = true) {n : Int} {l : List Str} : accSh ⟨A⟩ ⟨n, l⟩ = true ↔ (0 ≤ n ∧ okShape n.toNat l) ∧ accS A n.toNat l := by
 unfold accSh
 rw [Bool.and_eq_true, shapeB_iff]
 constructor
 ·rintro ⟨h1, h2⟩
  refine ⟨h1, ?_⟩
  unfold bindB at h2
  split at h2
  ·rename_i c
   exact (acc_flat (validParams_VN hv) (asc_nodup h1.2.2.2.1)).1 c.2
  ·cases h2
 ·rintro ⟨h1, h2⟩
  refine ⟨h1, ?_⟩
  unfold bindB
  rw [if_pos ⟨by rw [hv, validFlat_flatV (shapeB_iff.2 h1)]; rfl, (acc_flat (validParams_VN hv) (asc_nodup h1.2.2.2.1)).2 h2⟩]
noncomputable def slices_Clip_string.f (a1 : List Str)  (z_ : (List Str)) : Option ((List Str)) := (ln' z_ (a1.length) fun v2 => (ln' z_ (a1.length) fun v3 => (gd (v2.toNat = a1.length ∧ v3.toNat = a1.length ∧ 0 ≤ v2 ∧ 0 ≤ v3) (some a1))))
section
variable {G : Glob} (hm : Hm) (hz : Hz) (hG : GF G)
include hm hz hG
theorem slices_Clip_string.w {a1 : List Str}  {r : (List Str)} (H : slices_Clip_string.f a1  r = some r) : FnOK pg G 148 [.sl (a1.map eS)] [] (.sl (r.map eS)) [] true := by
 obtain ⟨V, hV⟩ := exV
 have e0_S : V.rS [] = [] := hV.rS []
 have e1_S : ∀ x r, V.rS (x :: r) = eS x :: V.rS r := fun x r => by rw [hV.rS, hV.rS]; rfl
 simp only [← hV.rS]
 refine fn_okS (tt0 := tyG [ty3, ty9, ty68]) (fn := Tryz.f148) (body := bodyOf Tryz.f148) (ext := []) hm (tyG_sub ⟨tt3, tt9, tt68, trivial⟩) hz 0 [] (by unfold pg; exact Tryz.func148) rfl rfl (by simp [Tryz.f148]) (by simp [EObj.toObj]) (by cbv) ?_
 intro A F hA hF
 unfold slices_Clip_string.f at H
 cbv
 repeat' (first
  | (with_reducible refine s_gd H (fun hg H => ?_))
  | (cases H; (try simp only [e0_S, e1_S, eS] at hF); with_reducible refine fin_close hF rfl (by simp [expIds, posCells, C.cells, idOf]) ?_; cbv)
  | with_reducible first
   | (refine s_ln H lnOf (fun _ H => ?_); cbv)
   | (refine s_lv H (fun _ H => ?_); cbv)
   | (refine indep_of hA ?_; cbv)
  | ((with_reducible refine side ?_); exact sideOf)
  | with_reducible first
   | (refine s_tkG hV.rS hV.nS ?_; cbv)
   | (refine s_tk1 ?_; cbv)
  | (with_reducible refine And.intro ?_ ?_)
  | (intro ys hys; subst hys; rfl)
  | rfl)
theorem slices_Clip_string.ok {a1 : List Str}  : FnOK pg G 148 [.sl (a1.map eS)] [] (.sl ((((fun (l : List Str) => l) a1)).map eS)) [] true := by
 refine slices_Clip_string.w hm hz hG ?_
 simp only [slices_Clip_string.f]
 refine ln_ok fun _ => ln_ok fun _ => ?_
 rw [gd_ok (by omega)]
end
noncomputable def slices_Index_string.b0 (a1 : List Str) (a2 : Str) (v3 : Int) (h0 : (Int) → Option (Int)) (z_ : Int) (x6 : Int) : Option (Int) := (if x6 < v3 then (ixS a1 x6 fun v9 => (if a2 = v9 then (some x6) else (arr .i64 (x6 + 1) fun v10 => (h0 v10)))) else (some ((-1))))
noncomputable def slices_Index_string.f (a1 : List Str) (a2 : Str) (h0 : Int → (Int) → Option (Int)) (z_ : Int) : Option (Int) := (ln' z_ (a1.length) fun v3 => (h0 v3 0))
section
variable {G : Glob} (hm : Hm) (hz : Hz) (hG : GF G)
include hm hz hG
set_option maxHeartbeats 8000000 in
theorem slices_Index_string.w {a1 : List Str} {a2 : Str} (inv0 : Int → (Int) → Prop) (mu0 : Int → (Int) → Nat) (res0 : Int → (Int) → Int) (hb0 : ∀ (v3 : Int), ∀ (s_ : Int), inv0 v3 s_ → slices_Index_string.b0 a1 a2 v3 (LI (inv0 v3) (mu0 v3) (res0 v3) (mu0 v3 s_)) (res0 v3 s_) s_ = some (res0 v3 s_)) {r : Int} (H : slices_Index_string.f a1 a2 (fun v3 => EI (inv0 v3) (mu0 v3) (res0 v3)) r = some r) : FnOK pg G 157 [.sl (a1.map eS), .str ⟨⟨a2⟩⟩] [] (.int .i64 r) [] false := by
 obtain ⟨V, hV⟩ := exV
 simp only [← hV.rS]
 refine fn_ok (tt0 := tyG [ty3, ty4, ty9, ty68]) (fn := Tryz.f157) (body := bodyOf Tryz.f157) (ext := []) hm (tyG_sub ⟨tt3, tt4, tt9, tt68, trivial⟩) hz 0 true [] (by unfold pg; exact Tryz.func157) rfl rfl (by simp [Tryz.f157]) (by simp [EObj.toObj]) (by cbv) ?_
 intro A F hA hF
 unfold slices_Index_string.f at H
 cbv
 repeat' (first
  | (cases H; exact fin_plain hF rfl rfl rfl rfl)
  | ((with_reducible first | refine s_lt H ?_ ?_ | refine s_le H ?_ ?_ | refine s_eq H ?_ ?_ | refine s_ne H ?_ ?_) <;> intro H <;> cbv)
  | with_reducible first
   | (refine s_ln H lnOf (fun _ H => ?_); cbv)
   | (refine s_ixS hV H (fun _ H => ?_); cbv)
   | (refine s_ar H (fun _ H => ?_); cbv)
   | (refine s_lv H (fun _ H => ?_); cbv)
   | (refine s_loop hA H (fun s h => hb0 _ s h) [0, 1, 7] [] (fun e s => [(8, .int .i64 s)]) (fun e s => []) [] pin_impl_ValidShape nbOf ?_; rintro x6 H; unfold slices_Index_string.b0 at H; (try dsimp only at H); cbv)
  | (with_reducible refine s_next H pin_impl_ValidShape nbOf)
  | (with_reducible refine indep_of hA ?_; cbv)
  | ((with_reducible refine side ?_); exact sideOf)
  | with_reducible first
   | (refine s_tkG hV.rS hV.nS ?_; cbv)
   | (refine s_tk1 ?_; cbv)
  | (with_reducible refine And.intro ?_ ?_)
  | (intro ys hys; subst hys; rfl)
  | rfl)
theorem slices_Index_string.ok {a1 : List Str} {a2 : Str}  : FnOK pg G 157 [.sl (a1.map eS), .str ⟨⟨a2⟩⟩] [] (.int .i64 (((fun (l : List Str) (s : Str) => findI (fun x => decide (s = x)) l) a1 a2))) [] false := by
 have A := @slices_Index_string.w G hm hz hG a1 a2 (fun v => rgI (a1) (fun i => i) (fun _ => v = a1.length ∧ a1.length ≤ 9223372036854775807)) (fun v => rgM (a1) (fun i => i)) (fun v => rgR (a1) (fun i => i) (fun r i => idxOr i (r.findIdx? (fun x => decide (a2 = x))))) (fun v => rangeS (a1) (fun i => i) (fun _ => v = a1.length ∧ a1.length ≤ 9223372036854775807) (fun r i => idxOr i (r.findIdx? (fun x => decide (a2 = x)))) (fun rec z s => slices_Index_string.b0 a1 a2 v rec z s) ?_ ?_)
 ·exact A (ln_ok fun hB => EI_fin (rg0 ⟨rfl, hB⟩ rfl) rfl)
 ·rintro rec s ⟨rfl, hB⟩ h0 h1
  simp only [slices_Index_string.b0]
  simp (disch := first | assumption | omega | (simp; done) | (simp; omega)) only [if_true, if_false, reduceIte, lv, lj, ln_at, cn_t, cn_f, cn_tf, cn_ft, cn_xx, gd_ok, arr_ok, arr_ok8, arr_ok32, arr_oku, ia_ok, bt_ok, EI_ok, LI_ok, h1, Int.lt_irrefl]
  rfl
 ·rintro rec s x r ⟨rfl, hB⟩ h0 h1 hx hl hr
  simp only [slices_Index_string.b0]
  simp (disch := first | assumption | omega | (simp; done) | (simp; omega)) only [if_true, if_false, reduceIte, lv, lj, ln_at, cn_t, cn_f, cn_tf, cn_ft, cn_xx, gd_ok, arr_ok, arr_ok8, arr_ok32, arr_oku, ia_ok, bt_ok, EI_ok, LI_ok, h1, ixS, hx, h0, idxOr_cons, hr _ ⟨rfl, hB⟩ rfl]
  by_cases h : a2 = x <;> simp [h]
end
noncomputable def slices_Contains_string.f (a1 : List Str) (a2 : Str)  (z_ : Bool) : Option (Bool) := (lv ((fun (l : List Str) (s : Str) => findI (fun x => decide (s = x)) l) a1 a2) fun v3 => (if 0 ≤ v3 then (some true) else (some false)))
section
variable {G : Glob} (hm : Hm) (hz : Hz) (hG : GF G)
include hm hz hG
theorem slices_Contains_string.w {a1 : List Str} {a2 : Str}  {r : Bool} (H : slices_Contains_string.f a1 a2  r = some r) : FnOK pg G 113 [.sl (a1.map eS), .str ⟨⟨a2⟩⟩] [] (.bool r) [] false := by
 obtain ⟨V, hV⟩ := exV
 simp only [← hV.rS]
 refine fn_ok (tt0 := tyG [ty3, ty4, ty9, ty68]) (fn := Tryz.f113) (body := bodyOf Tryz.f113) (ext := []) hm (tyG_sub ⟨tt3, tt4, tt9, tt68, trivial⟩) hz 0 true [] (by unfold pg; exact Tryz.func113) rfl rfl (by simp [Tryz.f113]) (by simp [EObj.toObj]) (by cbv) ?_
 intro A F hA hF
 unfold slices_Contains_string.f at H
 cbv
 repeat' (first
  | (cases H; exact fin_plain hF rfl rfl rfl rfl)
  | ((with_reducible first | refine s_lt H ?_ ?_ | refine s_le H ?_ ?_ | refine s_eq H ?_ ?_ | refine s_ne H ?_ ?_) <;> intro H <;> cbv)
  | with_reducible first
   | (refine s_lv H (fun _ H => ?_); cbv)
   | (refine s_ci hA H (by (try simp only [hV.rS]); with_unfolding_all exact slices_Index_string.ok hm hz hG) rfl (fun _ H => ?_); cbv)
   | (refine indep_of hA ?_; cbv)
  | ((with_reducible refine side ?_); exact sideOf)
  | with_reducible first
   | (refine s_tkG hV.rS hV.nS ?_; cbv)
   | (refine s_tk1 ?_; cbv)
  | (with_reducible refine And.intro ?_ ?_)
  | (intro ys hys; subst hys; rfl)
  | rfl)
theorem slices_Contains_string.ok {a1 : List Str} {a2 : Str}  : FnOK pg G 113 [.sl (a1.map eS), .str ⟨⟨a2⟩⟩] [] (.bool (((fun (l : List Str) (s : Str) => l.contains s) a1 a2))) [] false := by
 refine slices_Contains_string.w hm hz hG ?_
 simp only [slices_Contains_string.f, lv]
 have e : (0 ≤ findI (fun x => decide (a2 = x)) a1) = (a1.contains a2 = true) := by
  rw [findI_nn]
  rw [List.any_eq_true, List.contains_iff_mem]; simp
 exact ite_ok (fun c => by rw [e] at c; rw [c]) (fun c => by rw [e] at c; rw [Bool.eq_false_iff.2 c])
end
noncomputable def slices_Concat_string.b1 (a1 : List Txs) (v36 : Int) (h1 : (Int × (List Str)) → Option ((List Str))) (z_ : (List Str)) (x42 : Int) (x43 : List Str) : Option ((List Str)) := (if x42 < v36 then (ixTxs a1 x42 fun v51 => (gd ((x43.length + v51.length) * 16 ≤ 140737488355328) (lv (x43 ++ v51) fun v52 => (arr .i64 (x42 + 1) fun v53 => (h1 (v53, v52)))))) else (some x43))
noncomputable def slices_Concat_string.b0 (a1 : List Txs) (v2 : Int) (h0 : (Int × Int) → Option ((List Str))) (h1 : Int → (Int × (List Str)) → Option ((List Str))) (z_ : (List Str)) (x7 : Int) (x8 : Int) : Option ((List Str)) := (if x8 < v2 then (ixTxs a1 x8 fun v13 => (ln' z_ (v13.length) fun v14 => (arr .i64 (x7 + v14) fun v15 => (if v15 < 0 then none else (arr .i64 (x8 + 1) fun v16 => (h0 (v15, v16))))))) else (gd (0 ≤ x7 ∧ x7 ≤ 1000000000) (lv ([] : List Str) fun v17 => (ln' z_ (a1.length) fun v36 => (h1 v36 (0, v17))))))
noncomputable def slices_Concat_string.f (a1 : List Txs) (h0 : Int → (Int × Int) → Option ((List Str))) (z_ : (List Str)) : Option ((List Str)) := (ln' z_ (a1.length) fun v2 => (h0 v2 (0, 0)))
theorem pin_slices_Concat_string {e : ESt} {ns : List (Nat × Nat)} {ps : List (Nat × C)} {os : List (Nat × EObj)} (hs : pinPZ (pinZ e.o (os.map Prod.fst) ns) e.s ps := by first | (cbv <;> (repeat' (first | trivial | refine And.intro ?_ ?_)) <;> (first | rfl | assumption | omega | exact clS hV _ | exact clTxs hV _ | with_unfolding_all exact hV.nS [] | with_unfolding_all exact (hV.nS []).symm | with_unfolding_all exact hV.nTxs [] | with_unfolding_all exact (hV.nTxs []).symm | with_unfolding_all exact hV.rS _ | with_unfolding_all exact hV.rTxs _ | with_unfolding_all exact (hV.nS _).trans (Eq.trans (by simp only [hV.nS] at *; omega) (hV.nS _).symm) | with_unfolding_all exact (hV.nTxs _).trans (Eq.trans (by simp only [hV.nTxs] at *; omega) (hV.nTxs _).symm) | simp [closedCell])) | fail) (ho : ∀ B : (Nat → EObj) → List (List C) → List (List C) → Prop, (∀ o rows rows', rowsZ (pinZ o (os.map Prod.fst) ns) rows rows' → B o rows rows') → pinOZ (pinZ e.o (os.map Prod.fst) ns) B e.o ns os := by intro B hB; first | (cbv <;> (repeat' (first | trivial | refine And.intro ?_ ?_ | refine pin_same hB ?_ | refine pin_nil hB ?_ | refine pin_dirty hB (by assumption) (by assumption) ?_ ?_ | exact pinL_n | refine pinL_c ?_ ?_ | exact pzr rfl rfl rfl (nrS hV _) (clS hV _) | exact pzr rfl rfl rfl (nrTxs hV _) (clTxs hV _) | (refine pz_go ?_; cbv) | (refine pinL_go ?_; cbv))) <;> (first | exact clS hV _ | exact clTxs hV _ | with_unfolding_all exact hV.rS _ | with_unfolding_all exact hV.rTxs _ | with_unfolding_all exact hV.nS [] | with_unfolding_all exact (hV.nS []).symm | with_unfolding_all exact hV.nTxs [] | with_unfolding_all exact (hV.nTxs []).symm | assumption | omega | rfl | with_unfolding_all exact (hV.nS _).trans (Eq.trans (by simp only [hV.nS] at *; omega) (hV.nS _).symm) | with_unfolding_all exact (hV.nTxs _).trans (Eq.trans (by simp only [hV.nTxs] at *; omega) (hV.nTxs _).symm) | simp [closedCell])) | fail) : PinnedZ e ns ps os := ⟨hs, ho⟩
section
variable {G : Glob} (hm : Hm) (hz : Hz) (hG : GF G)
include hm hz hG
set_option maxHeartbeats 8000000 in
theorem slices_Concat_string.w {a1 : List Txs} (inv0 : Int → (Int × Int) → Prop) (mu0 : Int → (Int × Int) → Nat) (res0 : Int → (Int × Int) → (List Str)) (inv1 : Int → (Int × (List Str)) → Prop) (mu1 : Int → (Int × (List Str)) → Nat) (res1 : Int → (Int × (List Str)) → (List Str)) (hb0 : ∀ (v2 : Int), ∀ (s_ : Int × Int), inv0 v2 s_ → slices_Concat_string.b0 a1 v2 (LI (inv0 v2) (mu0 v2) (res0 v2) (mu0 v2 s_)) (fun v36 => EI (inv1 v36) (mu1 v36) (res1 v36)) (res0 v2 s_) s_.1 s_.2 = some (res0 v2 s_)) (hb1 : ∀ (v36 : Int), ∀ (s_ : Int × (List Str)), inv1 v36 s_ → slices_Concat_string.b1 a1 v36 (LI (inv1 v36) (mu1 v36) (res1 v36) (mu1 v36 s_)) (res1 v36 s_) s_.1 s_.2 = some (res1 v36 s_)) {r : (List Str)} (H : slices_Concat_string.f a1 (fun v2 => EI (inv0 v2) (mu0 v2) (res0 v2)) r = some r) : FnOK pg G 146 [.sl (a1.map eTxs)] [] (.fr 1 (r.map eS)) [] false := by
 obtain ⟨V, hV⟩ := exV
 have e0_S : V.rS [] = [] := hV.rS []
 have e1_S : ∀ x r, V.rS (x :: r) = eS x :: V.rS r := fun x r => by rw [hV.rS, hV.rS]; rfl
 have e0_Txs : V.rTxs [] = [] := hV.rTxs []
 simp only [← hV.rS, ← hV.rTxs]
 refine fn_ok (tt0 := tyG [ty3, ty4, ty9, ty68, ty181]) (fn := Tryz.f146) (body := bodyOf Tryz.f146) (ext := []) hm (tyG_sub ⟨tt3, tt4, tt9, tt68, tt181, trivial⟩) hz 0 true [] (by unfold pg; exact Tryz.func146) rfl rfl (by simp [Tryz.f146]) (by simp [EObj.toObj]) (by cbv) ?_
 intro A F hA hF
 unfold slices_Concat_string.f at H
 cbv
 repeat' (first
  | with_reducible first
   | (refine s_inlSort hA hV (by with_unfolding_all rfl) (by first | (with_unfolding_all exact hV.nS _) | (with_unfolding_all exact (Eq.symm (by assumption)).trans (hV.nS _))) (by assumption) H (fun _ hs_ H => ?_); cbv)
   | (refine s_inlCompact hA hV (by with_unfolding_all rfl) (by first | (with_unfolding_all exact hV.nS _) | (with_unfolding_all exact (Eq.symm (by assumption)).trans (hV.nS _))) (by assumption) H (fun _ _ hc_ H => ?_); cbv)
   | (refine s_inlGrowS hA hV (by assumption) H (fun _ H => ?_); cbv)
   | (refine s_inlGrowParam hA hV (by assumption) H (fun _ H => ?_); cbv)
   | (refine s_tkH hV.rS hV.nS (by assumption) ?_; cbv)
   | (refine s_tkC hV.rS hV.nS (by assumption) ?_; cbv)
  | ((with_reducible refine side ?_); with_unfolding_all first | exact s_cle hV.rS hV.nS (by assumption) | exact s_cle0 hV.rS hV.nS (by assumption))
  | with_reducible first
   | (refine s_tkH hV.rTxs hV.nTxs (by assumption) ?_; cbv)
   | (refine s_tkC hV.rTxs hV.nTxs (by assumption) ?_; cbv)
  | ((with_reducible refine side ?_); with_unfolding_all first | exact s_cle hV.rTxs hV.nTxs (by assumption) | exact s_cle0 hV.rTxs hV.nTxs (by assumption))
  | (with_reducible refine s_gd H (fun hg H => ?_))
  | (cases H; (try simp only [e0_S, e0_Txs, e1_S, eS] at hF); with_reducible refine fin_ref hF rfl (by simp [expIds, posCells, C.cells, idOf]) ?_; cbv)
  | (cases H; done)
  | ((with_reducible first | refine s_lt H ?_ ?_ | refine s_le H ?_ ?_ | refine s_eq H ?_ ?_ | refine s_ne H ?_ ?_) <;> intro H <;> cbv)
  | with_reducible first
   | (refine s_ln H lnOf (fun _ H => ?_); cbv)
   | (refine s_ixTxs hV H (fun _ H => ?_); cbv)
   | (refine s_ar H (fun _ H => ?_); cbv)
   | (refine s_apS hV H (fun _ H => ?_); cbv)
   | (refine s_apL hV.rS hV.nS H (fun _ H => ?_); cbv)
   | (refine s_bnS hV H (fun _ H => ?_); cbv)
   | (refine s_ap0 hV.rS hV.nS (by first | exact (hV.rS _).symm | (simp [eS]; rfl) | (simp [eS]; done)) H (fun _ H => ?_); cbv)
   | (refine s_apTxs hV H (fun _ H => ?_); cbv)
   | (refine s_apL hV.rTxs hV.nTxs H (fun _ H => ?_); cbv)
   | (refine s_apZTxs hV H (fun _ _ H hk_ zs_ hd_ => ?_); cbv)
   | (refine s_bnZTxs hV H (fun _ _ H hk_ zs_ hd_ => ?_); cbv)
   | (refine s_a0ZTxs hV H (fun _ _ H hk_ zs_ hd_ => ?_); cbv)
   | (refine s_bnTxs hV H (fun _ H => ?_); cbv)
   | (refine s_ap0 hV.rTxs hV.nTxs (by first | exact (hV.rTxs _).symm | (simp [eTxs]; rfl) | (simp [eTxs]; done)) H (fun _ H => ?_); cbv)
   | (refine s_lv H (fun _ H => ?_); cbv)
   | (refine s_loop hA H (fun s h => hb0 _ s h) [0, 9, 10] [] (fun e s => [(3, .int .i64 (s.1)), (11, .int .i64 (s.2))]) (fun e s => []) [] pin_slices_Concat_string nbOf ?_; rintro ⟨x7, x8⟩ H; unfold slices_Concat_string.b0 at H; (try dsimp only at H); cbv)
   | (refine s_loop hA H (fun s h => hb1 _ s h) [25, 26] [] (fun e s => [(27, .int .i64 (s.1)), (6, .ref 1536 0 1 0 (V.nS (s.2)))]) (fun e s => [(1536, ⟨0, true, 1, .many (V.rS (s.2))⟩)]) [] pin_slices_Concat_string nbOf ?_; rintro ⟨x42, x43⟩ H; unfold slices_Concat_string.b1 at H; (try dsimp only at H); cbv)
  | (with_reducible refine s_next H pin_slices_Concat_string nbOf)
  | (with_reducible refine indep_of hA ?_; cbv)
  | ((with_reducible refine side ?_); exact sideOf)
  | with_reducible first
   | (refine s_tkG hV.rS hV.nS ?_; cbv)
   | (refine s_tkG hV.rTxs hV.nTxs ?_; cbv)
   | (refine s_tk1 ?_; cbv)
  | (with_reducible refine And.intro ?_ ?_)
  | (intro ys hys; subst hys; rfl)
  | rfl
  | (intro h_; cases h_; done)
  | (with_reducible refine s_pl ?_; with_unfolding_all simp [plainV, plainA, plainC, plRS hV])
  | (intro ys hys; subst hys))
theorem slices_Concat_string.ok {a1 : List Txs} (hp : a1.length ≤ 10 ∧ ∀ t ∈ a1, t.list.length ≤ 1000) : FnOK pg G 146 [.sl (a1.map eTxs)] [] (.fr 1 ((((fun (l : List Txs) => l.flatMap (·.list)) a1)).map eS)) [] false := by
 obtain ⟨p1, p2⟩ := hp
 have bnd : ∀ l : List Txs, (∀ t ∈ l, t.list.length ≤ 1000) → (l.flatMap (·.list)).length ≤ 1000 * l.length := by
  intro l
  induction l with
  | nil => intro _; simp
  | cons t r ih =>
   intro h
   have h1 := h t (by simp)
   have h2 := ih fun x hx => h x (by simp [hx])
   rw [List.flatMap_cons, List.length_append, List.length_cons]; omega
 have bt : ∀ k : Nat, ((a1.take k).flatMap (·.list)).length ≤ 10000 := fun k => by
  have := bnd (a1.take k) fun t ht => p2 t (List.mem_of_mem_take ht)
  have h2 : (a1.take k).length ≤ 10 := by rw [List.length_take]; omega
  omega
 refine @slices_Concat_string.w G hm hz hG a1 (fun v s => v = a1.length ∧ 0 ≤ s.2 ∧ s.2 ≤ a1.length ∧ s.1 = ((a1.take s.2.toNat).flatMap (·.list)).length) (fun _ s => a1.length - s.2.toNat) (fun _ _ => a1.flatMap (·.list))
  (fun v s => v = a1.length ∧ 0 ≤ s.1 ∧ s.1 ≤ a1.length ∧ s.2 = (a1.take s.1.toNat).flatMap (·.list)) (fun _ s => a1.length - s.1.toNat) (fun _ _ => a1.flatMap (·.list)) ?_ ?_ _ ?_
 ·rintro v ⟨n, i⟩ ⟨hv, h0, h1, hn⟩
  simp only at h0 h1 hn
  simp only [slices_Concat_string.b0]
  have hb := bt i.toNat
  refine ite_ok (fun h => ?_) (fun h => ?_)
  ·obtain ⟨t, ht⟩ : ∃ t, a1[i.toNat]? = some t := ⟨_, List.getElem?_eq_getElem (by omega)⟩
   have h2 := p2 t (List.mem_of_getElem? ht)
   rw [ixTxs_ok h0 ht]
   refine ln_ok fun _ => ?_
   have en : n + (t.list.length : Int) = (((a1.take (i + 1).toNat).flatMap (·.list)).length : Int) := by
    rw [show (i + 1).toNat = i.toNat + 1 by omega, take_snoc ht, List.flatMap_append, List.length_append, hn]; simp
   rw [arr_ok (by omega), if_neg (by omega), arr_ok (by omega), LI_ok ⟨⟨hv, by simp only; omega, by simp only; omega, en⟩, by simp only; omega⟩]
  ·rw [gd_ok (by omega)]
   simp only [lv]
   refine ln_ok fun _ => ?_
   rw [EI_ok ⟨rfl, Int.le_refl 0, by simp only; omega, by simp⟩]
 ·rintro v ⟨i, out⟩ ⟨hv, h0, h1, ho⟩
  simp only at h0 h1 ho
  simp only [slices_Concat_string.b1]
  have hb := bt i.toNat
  refine ite_ok (fun h => ?_) (fun h => ?_)
  ·obtain ⟨t, ht⟩ : ∃ t, a1[i.toNat]? = some t := ⟨_, List.getElem?_eq_getElem (by omega)⟩
   have h2 := p2 t (List.mem_of_getElem? ht)
   rw [ixTxs_ok h0 ht, gd_ok (by rw [ho]; omega)]
   simp only [lv]
   have en : out ++ t.list = (a1.take (i + 1).toNat).flatMap (·.list) := by
    rw [show (i + 1).toNat = i.toNat + 1 by omega, take_snoc ht, List.flatMap_append, ho]; simp
   rw [arr_ok (by omega), LI_ok ⟨⟨hv, by simp only; omega, by simp only; omega, en⟩, by simp only; omega⟩]
  ·rw [take_len (by omega)] at ho
   rw [ho]
 ·simp only [slices_Concat_string.f]
  refine ln_ok fun _ => ?_
  rw [EI_ok ⟨rfl, Int.le_refl 0, by simp only; omega, by simp⟩]
end
def okU (l : List Str) : Prop := l.length ≤ 1000 ∧ ∀ s ∈ l, s.length ≤ 1000
theorem okU_app {a b : List Str} (ha : okU a) (hb : okU b) : okTexts (a ++ b) := by
 refine ⟨by rw [List.length_append]; have := ha.1; have := hb.1; omega, fun s hs => ?_⟩
 rcases List.mem_append.1 hs with h | h
 ·have := ha.2 s h; omega
 ·have := hb.2 s h; omega
theorem okT_sort {l : List Str} (h : okTexts l) : okTexts (sortL l) := ⟨by rw [sortL_len]; exact h.1, fun s hs => h.2 s (mem_sortL.1 hs)⟩
section
variable {A : Bx} {P : Program} {G : Glob} {rg : Option Nat} {own : Nat} {o : Nat → EObj} {g : FuncId} {vs : List C} {sh : Bool} {K : C → List (Nat × EObj) → Prop} {R : Type} {r : R} {V : Vx} {v : (List Str)} {f : (List Str) → Option R}
theorem s_cLS (hV : IsV V) (hA : IsBx true rg P G A) (H : on_LS v f = some r) (hok : FnOK P G g vs [] (.sl (v.map eS)) [] sh) (hc : vs.all closedArg = true) (h : ∀ c0, f c0 = some r → K (.sl (V.rS c0)) []) : A.call own o g vs K := by
 refine callT_plain hA hok hc ?_
 have := h (v) H
 simp only [hV.rS] at this
 exact this
theorem s_wLS (hA : IsBx true rg P G A) (H : on_LS v f = some r) (hids : callIds vs = []) (h : ∀ U, U = callS P G own o g → closeVs o [] vs fun bs => U bs (vs.flatMap topRefs) K) : A.call own o g vs K := callT_sh hA hids h
variable {U : List C → List Nat → (C → List (Nat × EObj) → Prop) → Prop} {bs : List C} {tops : List Nat}
theorem s_tLS (hU : U = callS P G own o g) (hV : IsV V) (H : on_LS v f = some r) (hok : FnOK P G g bs [] (.sl (v.map eS)) [] true) (hfr : topsF o [] tops) (h : ∀ c0, f c0 = some r → K (.sl (V.rS c0)) (freezeE o tops ++ [])) : U bs tops K := by
 refine callS_of hU hok (fun i hi => (topsF_sound hfr i hi).2) ?_
 have := h (v) H
 simp only [hV.rS] at this
 exact this
end
noncomputable def impl_union.f (a1 : List Str) (a2 : List Str)  (z_ : (List Str)) : Option ((List Str)) := (gd ((([⟨a1⟩, ⟨a2⟩] : List Txs)).length ≤ 10 ∧ ∀ t ∈ (([⟨a1⟩, ⟨a2⟩] : List Txs)), t.list.length ≤ 1000) (on_LS ((fun (l : List Txs) => l.flatMap (·.list)) ([⟨a1⟩, ⟨a2⟩])) fun v3 => (gd (okTexts v3) (lv (sortL v3) fun v4 => (gd (okTexts v4) (lv (Lib.compact v4) fun v5 => (on_LS ((fun (l : List Str) => l) v5) fun v6 => (some v6))))))))
section
variable {G : Glob} (hm : Hm) (hz : Hz) (hG : GF G)
include hm hz hG
theorem impl_union.w {a1 : List Str} {a2 : List Str}  {r : (List Str)} (H : impl_union.f a1 a2  r = some r) : FnOK pg G 103 [.sl (a1.map eS), .sl (a2.map eS)] [] (.sl (r.map eS)) [] true := by
 obtain ⟨V, hV⟩ := exV
 have e0_S : V.rS [] = [] := hV.rS []
 have e1_S : ∀ x r, V.rS (x :: r) = eS x :: V.rS r := fun x r => by rw [hV.rS, hV.rS]; rfl
 have e0_Txs : V.rTxs [] = [] := hV.rTxs []
 simp only [← hV.rS, ← hV.rTxs]
 refine fn_okS (tt0 := tyG [ty9, ty68, ty181]) (fn := Tryz.f103) (body := bodyOf Tryz.f103) (ext := []) hm (tyG_sub ⟨tt9, tt68, tt181, trivial⟩) hz 0 [] (by unfold pg; exact Tryz.func103) rfl rfl (by simp [Tryz.f103]) (by simp [EObj.toObj]) (by cbv) ?_
 intro A F hA hF
 unfold impl_union.f at H
 cbv
 repeat' (first
  | with_reducible first
   | (refine s_inlSort hA hV (by with_unfolding_all rfl) (by first | (with_unfolding_all exact hV.nS _) | (with_unfolding_all exact (Eq.symm (by assumption)).trans (hV.nS _))) (by assumption) H (fun _ hs_ H => ?_); cbv)
   | (refine s_inlCompact hA hV (by with_unfolding_all rfl) (by first | (with_unfolding_all exact hV.nS _) | (with_unfolding_all exact (Eq.symm (by assumption)).trans (hV.nS _))) (by assumption) H (fun _ _ hc_ H => ?_); cbv)
   | (refine s_inlGrowS hA hV (by assumption) H (fun _ H => ?_); cbv)
   | (refine s_inlGrowParam hA hV (by assumption) H (fun _ H => ?_); cbv)
   | (refine s_tkH hV.rS hV.nS (by assumption) ?_; cbv)
   | (refine s_tkC hV.rS hV.nS (by assumption) ?_; cbv)
  | ((with_reducible refine side ?_); with_unfolding_all first | exact s_cle hV.rS hV.nS (by assumption) | exact s_cle0 hV.rS hV.nS (by assumption))
  | with_reducible first
   | (refine s_tkH hV.rTxs hV.nTxs (by assumption) ?_; cbv)
   | (refine s_tkC hV.rTxs hV.nTxs (by assumption) ?_; cbv)
  | ((with_reducible refine side ?_); with_unfolding_all first | exact s_cle hV.rTxs hV.nTxs (by assumption) | exact s_cle0 hV.rTxs hV.nTxs (by assumption))
  | (with_reducible refine s_gd H (fun hg H => ?_))
  | (cases H; (try simp only [e0_S, e0_Txs, e1_S, eS] at hF); with_reducible refine fin_close hF rfl (by simp [expIds, posCells, C.cells, idOf]) ?_; cbv)
  | with_reducible first
   | (refine s_apZTxs hV H (fun _ _ H hk_ zs_ hd_ => ?_); cbv)
   | (refine s_bnZTxs hV H (fun _ _ H hk_ zs_ hd_ => ?_); cbv)
   | (refine s_a0ZTxs hV H (fun _ _ H hk_ zs_ hd_ => ?_); cbv)
   | (refine s_lv H (fun _ H => ?_); cbv)
   | (refine s_cFLS hV hA H (by (try simp only [hV.rS, hV.rTxs]); (first | (have hk_ := slices_Concat_string.ok hm hz hG hg; with_unfolding_all exact hk_) | (with_unfolding_all exact slices_Concat_string.ok hm hz hG (by first | assumption | omega)))) rfl (fun _ H => ?_); cbv)
   | (refine s_rFLS (by assumption) hV H (by (try simp only [hV.rS, hV.rTxs]); (first | (have hk_ := slices_Concat_string.ok hm hz hG hg; with_unfolding_all exact hk_) | (with_unfolding_all exact slices_Concat_string.ok hm hz hG (by first | assumption | omega)))) (fun _ H => ?_); cbv)
   | (refine callT_cl (g := 146) hA (fun U hU => ?_); cbv)
   | (refine s_cLS hV hA H (by (try simp only [hV.rS, hV.rTxs]); with_unfolding_all exact slices_Clip_string.ok hm hz hG) rfl (fun _ H => ?_); cbv)
   | (refine s_tLS (by assumption) hV H (by (try simp only [hV.rS, hV.rTxs]); with_unfolding_all exact slices_Clip_string.ok hm hz hG) (by first | (cbv <;> (repeat' (first | trivial | refine And.intro ?_ ?_)) <;> (first | rfl | exact clS hV _ | with_unfolding_all exact clTxs hV _ | simp [closedCell])) | fail) (fun _ H => ?_); cbv)
   | (refine s_wLS (g := 148) hA H rfl (fun U hU => ?_); cbv)
   | (refine indep_of hA ?_; cbv)
  | ((with_reducible refine side ?_); exact sideOf)
  | with_reducible first
   | (refine s_tkG hV.rS hV.nS ?_; cbv)
   | (refine s_tkG hV.rTxs hV.nTxs ?_; cbv)
   | (refine s_tk1 ?_; cbv)
   | (refine s_eqL ?_; cbv)
  | (with_reducible refine And.intro ?_ ?_)
  | (intro ys hys; subst hys; rfl)
  | rfl)
theorem impl_union.ok {a1 : List Str} {a2 : List Str} (hp : okU a1 ∧ okU a2) : FnOK pg G 103 [.sl (a1.map eS), .sl (a2.map eS)] [] (.sl ((((fun (a b : List Str) => sortT (a ++ b)) a1 a2)).map eS)) [] true := by
 obtain ⟨p1, p2⟩ := hp
 refine impl_union.w hm hz hG ?_
 simp only [impl_union.f]
 rw [gd_ok ⟨by simp, fun t ht => by
  simp only [List.mem_cons, List.not_mem_nil, or_false] at ht
  rcases ht with rfl | rfl
  ·exact p1.1
  ·exact p2.1⟩]
 simp only [on_LS, lv, List.flatMap_cons, List.flatMap_nil, List.append_nil]
 have h1 := okU_app p1 p2
 rw [gd_ok h1, gd_ok (okT_sort h1), compact_T]
end
def placedNames (l : List Param) : List Str := (l.filter placedP).map (·.name)
theorem placedNames_snoc {l : List Param} {i : Int} {p : Param} (h0 : 0 ≤ i) (hp : l[i.toNat]? = some p) : placedNames (l.take (i + 1).toNat) = placedNames (l.take i.toNat) ++ if placedP p = true then [p.name] else [] := by
 unfold placedNames
 rw [show (i + 1).toNat = i.toNat + 1 by omega, take_snoc hp, List.filter_append, List.map_append]
 congr 1
 by_cases c : placedP p = true <;> simp [c]
theorem placedNames_len (l : List Param) : (placedNames l).length ≤ l.length := by
 unfold placedNames; rw [List.length_map]; exact List.length_filter_le _ _
noncomputable def impl_Signature_namesOf_at_impl_Param_placed.b0 (a1 : List Param) (v65 : Int) (h0 : ((List Str) × Int) → Option ((List Str))) (z_ : (List Str)) (x86 : List Str) (x87 : Int) : Option ((List Str)) := (if x87 < v65 then (ixParam a1 x87 fun v121 v122 v123 v124 => (cn (placedP (⟨v121, v122, v123, v124⟩)) (gd ((x86.length + 1) * 16 ≤ 140737488355328) (lv (x86 ++ [v121]) fun v125 => (arr .i64 (x87 + 1) fun v126 => (h0 (v125, v126))))) (arr .i64 (x87 + 1) fun v127 => (h0 (x86, v127))))) else (on_LS ((fun (l : List Str) => l) x86) fun v128 => (some v128)))
noncomputable def impl_Signature_namesOf_at_impl_Param_placed.f (a1 : List Param) (h0 : Int → ((List Str) × Int) → Option ((List Str))) (z_ : (List Str)) : Option ((List Str)) := (ln' z_ (a1.length) fun v65 => (h0 v65 ([], 0)))
theorem pin_impl_Signature_namesOf_at_impl_Param_placed {e : ESt} {ns : List (Nat × Nat)} {ps : List (Nat × C)} {os : List (Nat × EObj)} (hs : pinPZ (pinZ e.o (os.map Prod.fst) ns) e.s ps := by first | (cbv <;> (repeat' (first | trivial | refine And.intro ?_ ?_)) <;> (first | rfl | assumption | omega | exact clS hV _ | exact clParam hV _ | with_unfolding_all exact hV.nS [] | with_unfolding_all exact (hV.nS []).symm | with_unfolding_all exact hV.nParam [] | with_unfolding_all exact (hV.nParam []).symm | with_unfolding_all exact hV.rS _ | with_unfolding_all exact hV.rParam _ | with_unfolding_all exact (hV.nS _).trans (Eq.trans (by simp only [hV.nS] at *; omega) (hV.nS _).symm) | with_unfolding_all exact (hV.nParam _).trans (Eq.trans (by simp only [hV.nParam] at *; omega) (hV.nParam _).symm) | simp [closedCell])) | fail) (ho : ∀ B : (Nat → EObj) → List (List C) → List (List C) → Prop, (∀ o rows rows', rowsZ (pinZ o (os.map Prod.fst) ns) rows rows' → B o rows rows') → pinOZ (pinZ e.o (os.map Prod.fst) ns) B e.o ns os := by intro B hB; first | (cbv <;> (repeat' (first | trivial | refine And.intro ?_ ?_ | refine pin_same hB ?_ | refine pin_nil hB ?_ | refine pin_dirty hB (by assumption) (by assumption) ?_ ?_ | exact pinL_n | refine pinL_c ?_ ?_ | exact pzr rfl rfl rfl (nrS hV _) (clS hV _) | exact pzr rfl rfl rfl (nrParam hV _) (clParam hV _) | (refine pz_go ?_; cbv) | (refine pinL_go ?_; cbv))) <;> (first | exact clS hV _ | exact clParam hV _ | with_unfolding_all exact hV.rS _ | with_unfolding_all exact hV.rParam _ | with_unfolding_all exact hV.nS [] | with_unfolding_all exact (hV.nS []).symm | with_unfolding_all exact hV.nParam [] | with_unfolding_all exact (hV.nParam []).symm | assumption | omega | rfl | with_unfolding_all exact (hV.nS _).trans (Eq.trans (by simp only [hV.nS] at *; omega) (hV.nS _).symm) | with_unfolding_all exact (hV.nParam _).trans (Eq.trans (by simp only [hV.nParam] at *; omega) (hV.nParam _).symm) | simp [closedCell])) | fail) : PinnedZ e ns ps os := ⟨hs, ho⟩
section
variable {G : Glob} (hm : Hm) (hz : Hz) (hG : GF G)
include hm hz hG
set_option maxHeartbeats 8000000 in
theorem impl_Signature_namesOf_at_impl_Param_placed.w {a1 : List Param} (inv0 : Int → ((List Str) × Int) → Prop) (mu0 : Int → ((List Str) × Int) → Nat) (res0 : Int → ((List Str) × Int) → (List Str)) (hb0 : ∀ (v65 : Int), ∀ (s_ : (List Str) × Int), inv0 v65 s_ → impl_Signature_namesOf_at_impl_Param_placed.b0 a1 v65 (LI (inv0 v65) (mu0 v65) (res0 v65) (mu0 v65 s_)) (res0 v65 s_) s_.1 s_.2 = some (res0 v65 s_)) {r : (List Str)} (H : impl_Signature_namesOf_at_impl_Param_placed.f a1 (fun v65 => EI (inv0 v65) (mu0 v65) (res0 v65)) r = some r) : FnOK pg G 187 [.agg [.sl (a1.map eParam)], .fn 89 []] [] (.sl (r.map eS)) [] true := by
 obtain ⟨V, hV⟩ := exV
 have e0_S : V.rS [] = [] := hV.rS []
 have e1_S : ∀ x r, V.rS (x :: r) = eS x :: V.rS r := fun x r => by rw [hV.rS, hV.rS]; rfl
 have e0_Param : V.rParam [] = [] := hV.rParam []
 have e1_Param : ∀ x r, V.rParam (x :: r) = eParam x :: V.rParam r := fun x r => by rw [hV.rParam, hV.rParam]; rfl
 simp only [← hV.rS, ← hV.rParam]
 refine fn_okS (tt0 := tyG [ty3, ty4, ty9, ty27, ty29, ty65, ty68]) (fn := Tryz.f187) (body := bodyOf Tryz.f187) (ext := []) hm (tyG_sub ⟨tt3, tt4, tt9, tt27, tt29, tt65, tt68, trivial⟩) hz 0 [] (by unfold pg; exact Tryz.func187) rfl rfl (by simp [Tryz.f187]) (by simp [EObj.toObj]) (by cbv) ?_
 intro A F hA hF
 unfold impl_Signature_namesOf_at_impl_Param_placed.f at H
 cbv
 repeat' (first
  | (with_reducible refine s_gd H (fun hg H => ?_))
  | (cases H; (try simp only [e0_S, e0_Param, e1_S, eS, e1_Param, eParam] at hF); with_reducible refine fin_close hF rfl (by simp [expIds, posCells, C.cells, idOf]) ?_; cbv)
  | ((with_reducible first | refine s_lt H ?_ ?_ | refine s_le H ?_ ?_ | refine s_eq H ?_ ?_ | refine s_ne H ?_ ?_) <;> intro H <;> cbv)
  | with_reducible first
   | (refine s_ln H lnOf (fun _ H => ?_); cbv)
   | (refine s_ixParam hV H (fun _ _ _ _ H => ?_); cbv)
   | (refine s_ar H (fun _ H => ?_); cbv)
   | (refine s_apS hV H (fun _ H => ?_); cbv)
   | (refine s_apL hV.rS hV.nS H (fun _ H => ?_); cbv)
   | (refine s_apParam hV H (fun _ H => ?_); cbv)
   | (refine s_apL hV.rParam hV.nParam H (fun _ H => ?_); cbv)
   | (refine s_lv H (fun _ H => ?_); cbv)
   | (refine s_loop hA H (fun s h => hb0 _ s h) [1, 9, 10] [] (fun e s => [(5, .ref 1408 0 1 0 (V.nS (s.1))), (11, .int .i64 (s.2))]) (fun e s => [(1408, ⟨0, true, 1, .many (V.rS (s.1))⟩)]) [(1408, 1)] pin_impl_Signature_namesOf_at_impl_Param_placed nbOf ?_; rintro ⟨x86, x87⟩ H; unfold impl_Signature_namesOf_at_impl_Param_placed.b0 at H; (try dsimp only at H); cbv)
  | (with_reducible refine s_next H pin_impl_Signature_namesOf_at_impl_Param_placed nbOf)
  | with_reducible first
   | (refine s_cb hA H (by (try simp only [hV.rS, hV.rParam]); with_unfolding_all exact impl_Param_placed.ok hm hz hG) rfl (fun H => ?_) (fun H => ?_) <;> cbv)
   | (refine s_cLS hV hA H (by (try simp only [hV.rS, hV.rParam]); with_unfolding_all exact slices_Clip_string.ok hm hz hG) rfl (fun _ H => ?_); cbv)
   | (refine s_tLS (by assumption) hV H (by (try simp only [hV.rS, hV.rParam]); with_unfolding_all exact slices_Clip_string.ok hm hz hG) (by first | (cbv <;> (repeat' (first | trivial | refine And.intro ?_ ?_)) <;> (first | rfl | exact clS hV _ | with_unfolding_all exact clParam hV _ | simp [closedCell])) | fail) (fun _ H => ?_); cbv)
   | (refine s_wLS (g := 148) hA H rfl (fun U hU => ?_); cbv)
   | (refine indep_of hA ?_; cbv)
  | ((with_reducible refine side ?_); exact sideOf)
  | with_reducible first
   | (refine s_tkG hV.rS hV.nS ?_; cbv)
   | (refine s_tkG hV.rParam hV.nParam ?_; cbv)
   | (refine s_tk1 ?_; cbv)
  | (with_reducible refine And.intro ?_ ?_)
  | ((with_reducible refine s_cn H (fun hb H => ?_) (fun hb H => ?_)) <;> (revert H; subst hb; intro H; cbv))
  | (intro ys hys; subst hys; rfl)
  | rfl)
theorem impl_Signature_namesOf_at_impl_Param_placed.ok {a1 : List Param} (hp : a1.length ≤ 1000) : FnOK pg G 187 [.agg [.sl (a1.map eParam)], .fn 89 []] [] (.sl ((((fun (s : Sig) => placedNames s.params) ⟨a1⟩)).map eS)) [] true := by
 refine @impl_Signature_namesOf_at_impl_Param_placed.w G hm hz hG a1 (fun v s => v = a1.length ∧ 0 ≤ s.2 ∧ s.2 ≤ a1.length ∧ s.1 = placedNames (a1.take s.2.toNat)) (fun _ s => a1.length - s.2.toNat) (fun _ _ => placedNames a1) ?_ _ ?_
 ·rintro v ⟨out, i⟩ ⟨hv, h0, h1, ho⟩
  simp only at h0 h1 ho
  have hol : out.length ≤ a1.length := by
   rw [ho]; refine Nat.le_trans (placedNames_len _) ?_; rw [List.length_take]; omega
  simp only [impl_Signature_namesOf_at_impl_Param_placed.b0, cn_ite]
  refine ite_ok (fun h => ?_) (fun h => ?_)
  ·obtain ⟨p, hp⟩ : ∃ p, a1[i.toNat]? = some p := ⟨_, List.getElem?_eq_getElem (by omega)⟩
   have e := placedNames_snoc h0 hp
   rw [← ho] at e
   rw [ixParam_ok h0 hp]
   simp only [eta_Param]
   refine ite_ok (fun c => ?_) (fun c => ?_)
   ·rw [gd_ok (by omega)]
    simp only [lv]
    rw [if_pos c] at e
    rw [arr_ok (by omega), LI_ok ⟨⟨hv, by simp only; omega, by simp only; omega, e.symm⟩, by simp only; omega⟩]
   ·rw [if_neg c, List.append_nil] at e
    rw [arr_ok (by omega), LI_ok ⟨⟨hv, by simp only; omega, by simp only; omega, e.symm⟩, by simp only; omega⟩]
  ·rw [take_len (by omega)] at ho
   simp only [on_LS]
   rw [ho]
 ·simp only [impl_Signature_namesOf_at_impl_Param_placed.f]
  refine ln_ok fun _ => ?_
  rw [EI_ok ⟨rfl, Int.le_refl 0, by simp only; omega, by simp [placedNames]⟩]
end
noncomputable def impl_Signature_places.f (a1 : List Param)  (z_ : Int) : Option (Int) := (gd (a1.length ≤ 1000) (on_LS ((fun (s : Sig) => placedNames s.params) (⟨a1⟩)) fun v2 => (ln' z_ (v2.length) fun v3 => (some v3))))
section
variable {G : Glob} (hm : Hm) (hz : Hz) (hG : GF G)
include hm hz hG
theorem impl_Signature_places.w {a1 : List Param}  {r : Int} (H : impl_Signature_places.f a1  r = some r) : FnOK pg G 153 [.agg [.sl (a1.map eParam)]] [] (.int .i64 r) [] false := by
 obtain ⟨V, hV⟩ := exV
 simp only [← hV.rS, ← hV.rParam]
 refine fn_ok (tt0 := tyG [ty3, ty4, ty9, ty27, ty29, ty65, ty68]) (fn := Tryz.f153) (body := bodyOf Tryz.f153) (ext := []) hm (tyG_sub ⟨tt3, tt4, tt9, tt27, tt29, tt65, tt68, trivial⟩) hz 0 true [] (by unfold pg; exact Tryz.func153) rfl rfl (by simp [Tryz.f153]) (by simp [EObj.toObj]) (by cbv) ?_
 intro A F hA hF
 unfold impl_Signature_places.f at H
 cbv
 repeat' (first
  | (with_reducible refine s_gd H (fun hg H => ?_))
  | (cases H; exact fin_plain hF rfl rfl rfl rfl)
  | with_reducible first
   | (refine s_ln H lnOf (fun _ H => ?_); cbv)
   | (refine s_lv H (fun _ H => ?_); cbv)
   | (refine s_cLS hV hA H (by (try simp only [hV.rS, hV.rParam]); (first | (have hk_ := impl_Signature_namesOf_at_impl_Param_placed.ok hm hz hG hg; with_unfolding_all exact hk_) | (with_unfolding_all exact impl_Signature_namesOf_at_impl_Param_placed.ok hm hz hG (by first | assumption | omega)))) rfl (fun _ H => ?_); cbv)
   | (refine indep_of hA ?_; cbv)
  | ((with_reducible refine side ?_); exact sideOf)
  | with_reducible first
   | (refine s_tkG hV.rS hV.nS ?_; cbv)
   | (refine s_tkG hV.rParam hV.nParam ?_; cbv)
   | (refine s_tk1 ?_; cbv)
  | (with_reducible refine And.intro ?_ ?_)
  | (intro ys hys; subst hys; rfl)
  | rfl)
theorem impl_Signature_places.ok {a1 : List Param} (hp : a1.length ≤ 1000) : FnOK pg G 153 [.agg [.sl (a1.map eParam)]] [] (.int .i64 (((fun (s : Sig) => placesN s.params) ⟨a1⟩))) [] false := by
 refine impl_Signature_places.w hm hz hG ?_
 simp only [impl_Signature_places.f]
 rw [gd_ok hp]
 simp only [on_LS]
 refine ln_ok fun _ => ?_
 unfold placedNames placesN
 rw [List.length_map, List.countP_eq_length_filter]
end
theorem needL_nodup {A : List Param} (h : VP A) (n : Nat) : (needL A n).Nodup := by
 have hn : (A.map (·.name)).Nodup := by
  unfold List.Nodup
  rw [List.pairwise_map, List.pairwise_iff_getElem]
  intro i j hi hj hij e
  have := h.dist i j _ _ (List.getElem?_eq_getElem hi) (List.getElem?_eq_getElem hj) e
  omega
 have e : A.zipIdx.map (fun x => x.1.name) = A.map (·.name) := by
  rw [show (fun x : Param × Nat => x.1.name) = (fun p : Param => p.name) ∘ Prod.fst from rfl, ← List.map_map, List.zipIdx_map_fst]
 rw [needL_eq]
 refine List.Nodup.sublist (List.Sublist.map _ List.filter_sublist) ?_
 rw [e]; exact hn
def needsI (A : List Param) (n : Int) : List Str × Bool := if (0 ≤ n ∧ n ≤ 8) ∧ takesCountB A n.toNat = true then (needsT A n.toNat, true) else ([], false)
theorem kind_of {A : List Param} (h : VN A) {i : Nat} {p : Param} (hp : A[i]? = some p) : 0 ≤ p.kind ∧ p.kind ≤ 4 := ⟨h.nn p (List.mem_of_getElem? hp), h.le p (List.mem_of_getElem? hp)⟩
theorem tc_false {A : List Param} {n : Nat} {i : Nat} {p : Param} (hp : A[i]? = some p) (hi : n ≤ i) (hk : p.kind = 0) (hd : p.hasDefault = false) : takesCountB A n = false := by
 unfold takesCountB
 rw [Bool.and_eq_false_iff]; right
 rw [List.all_eq_false]
 refine ⟨p, List.mem_of_getElem? (i := i - n) (by rw [List.getElem?_drop, show n + (i - n) = i by omega]; exact hp), by simp [hk, hd]⟩
noncomputable def impl_Signature_needs.b0 (a1 : List Param) (a2 : Int) (v96 : Int) (h0 : (Int × Int × (List Str)) → Option ((List Str) × Bool)) (z_ : (List Str) × Bool) (x126 : Int) (x127 : Int) (x128 : List Str) : Option ((List Str) × Bool) := (if x127 < v96 then (ixParam a1 x127 fun v174 v175 v176 v177 => (lj 1 (fun J1 => (cn (placedP (⟨v174, v175, v176, v177⟩)) (arr .i64 (x126 + 1) fun v180 => (J1 v180)) (J1 x126))) (fun x179 => (cn (singleP (⟨v174, v175, v176, v177⟩)) (cn v176 (arr .i64 (x127 + 1) fun v181 => (h0 (x179, v181, x128))) (cn (placedP (⟨v174, v175, false, v177⟩)) (if x179 ≤ a2 then (arr .i64 (x127 + 1) fun v182 => (h0 (x179, v182, x128))) else (if v175 = 0 then (some ([], false)) else (gd ((x128.length + 1) * 16 ≤ 140737488355328) (lv (x128 ++ [v174]) fun v183 => (arr .i64 (x127 + 1) fun v184 => (h0 (x179, v184, v183))))))) (if v175 = 0 then (some ([], false)) else (gd ((x128.length + 1) * 16 ≤ 140737488355328) (lv (x128 ++ [v174]) fun v185 => (arr .i64 (x127 + 1) fun v186 => (h0 (x179, v186, v185)))))))) (arr .i64 (x127 + 1) fun v187 => (h0 (x179, v187, x128))))))) else (gd (okTexts x128) (lv (sortL x128) fun v188 => (on_LS ((fun (l : List Str) => l) v188) fun v189 => (some (v189, true))))))
noncomputable def impl_Signature_needs.f (a1 : List Param) (a2 : Int) (h0 : Int → (Int × Int × (List Str)) → Option ((List Str) × Bool)) (z_ : (List Str) × Bool) : Option ((List Str) × Bool) := (lj 0 (fun J0 => (cn (inRange a2 0 8) (gd (a1.length ≤ 1000) (lv ((fun (s : Sig) => placesN s.params) (⟨a1⟩)) fun v4 => (if v4 < a2 then (cn ((fun (s : Sig) (k : Int) => hasK k s.params) (⟨a1⟩) 2) (J0 ()) (some ([], false))) else (J0 ())))) (some ([], false)))) (fun () => (ln' z_ (a1.length) fun v96 => (h0 v96 (0, 0, [])))))
section
variable {G : Glob} (hm : Hm) (hz : Hz) (hG : GF G)
include hm hz hG
set_option maxHeartbeats 8000000 in
theorem impl_Signature_needs.w {a1 : List Param} {a2 : Int} (inv0 : Int → (Int × Int × (List Str)) → Prop) (mu0 : Int → (Int × Int × (List Str)) → Nat) (res0 : Int → (Int × Int × (List Str)) → (List Str) × Bool) (hb0 : ∀ (v96 : Int), ∀ (s_ : Int × Int × (List Str)), inv0 v96 s_ → impl_Signature_needs.b0 a1 a2 v96 (LI (inv0 v96) (mu0 v96) (res0 v96) (mu0 v96 s_)) (res0 v96 s_) s_.1 s_.2.1 s_.2.2 = some (res0 v96 s_)) {r : (List Str) × Bool} (H : impl_Signature_needs.f a1 a2 (fun v96 => EI (inv0 v96) (mu0 v96) (res0 v96)) r = some r) : FnOK pg G 111 [.agg [.sl (a1.map eParam)], .int .i64 a2] [] (.tup [.sl ((r.1).map eS), .bool (r.2)]) [] true := by
 obtain ⟨V, hV⟩ := exV
 have e0_S : V.rS [] = [] := hV.rS []
 have e1_S : ∀ x r, V.rS (x :: r) = eS x :: V.rS r := fun x r => by rw [hV.rS, hV.rS]; rfl
 have e0_Param : V.rParam [] = [] := hV.rParam []
 have e1_Param : ∀ x r, V.rParam (x :: r) = eParam x :: V.rParam r := fun x r => by rw [hV.rParam, hV.rParam]; rfl
 simp only [← hV.rS, ← hV.rParam]
 refine fn_okS (tt0 := tyG [ty3, ty4, ty9, ty27, ty29, ty65, ty68]) (fn := Tryz.f111) (body := bodyOf Tryz.f111) (ext := []) hm (tyG_sub ⟨tt3, tt4, tt9, tt27, tt29, tt65, tt68, trivial⟩) hz 0 [3, 10] (by unfold pg; exact Tryz.func111) rfl rfl (by simp [Tryz.f111]) (by simp [EObj.toObj]) (by cbv) ?_
 intro A F hA hF
 unfold impl_Signature_needs.f at H
 cbv
 repeat' (first
  | with_reducible first
   | (refine s_inlSort hA hV (by with_unfolding_all rfl) (by first | (with_unfolding_all exact hV.nS _) | (with_unfolding_all exact (Eq.symm (by assumption)).trans (hV.nS _))) (by assumption) H (fun _ hs_ H => ?_); cbv)
   | (refine s_inlCompact hA hV (by with_unfolding_all rfl) (by first | (with_unfolding_all exact hV.nS _) | (with_unfolding_all exact (Eq.symm (by assumption)).trans (hV.nS _))) (by assumption) H (fun _ _ hc_ H => ?_); cbv)
   | (refine s_inlGrowS hA hV (by assumption) H (fun _ H => ?_); cbv)
   | (refine s_inlGrowParam hA hV (by assumption) H (fun _ H => ?_); cbv)
   | (refine s_tkH hV.rS hV.nS (by assumption) ?_; cbv)
   | (refine s_tkC hV.rS hV.nS (by assumption) ?_; cbv)
  | ((with_reducible refine side ?_); with_unfolding_all first | exact s_cle hV.rS hV.nS (by assumption) | exact s_cle0 hV.rS hV.nS (by assumption))
  | with_reducible first
   | (refine s_tkH hV.rParam hV.nParam (by assumption) ?_; cbv)
   | (refine s_tkC hV.rParam hV.nParam (by assumption) ?_; cbv)
  | ((with_reducible refine side ?_); with_unfolding_all first | exact s_cle hV.rParam hV.nParam (by assumption) | exact s_cle0 hV.rParam hV.nParam (by assumption))
  | (with_reducible refine s_gd H (fun hg H => ?_))
  | (cases H; (try simp only [e0_S, e0_Param, e1_S, eS, e1_Param, eParam] at hF); with_reducible refine fin_close hF rfl (by simp [expIds, posCells, C.cells, idOf]) ?_; cbv)
  | ((with_reducible first | refine s_lt H ?_ ?_ | refine s_le H ?_ ?_ | refine s_eq H ?_ ?_ | refine s_ne H ?_ ?_) <;> intro H <;> cbv)
  | with_reducible first
   | (refine s_ln H lnOf (fun _ H => ?_); cbv)
   | (refine s_ixParam hV H (fun _ _ _ _ H => ?_); cbv)
   | (refine s_ar H (fun _ H => ?_); cbv)
   | (refine s_apS hV H (fun _ H => ?_); cbv)
   | (refine s_apL hV.rS hV.nS H (fun _ H => ?_); cbv)
   | (refine s_apParam hV H (fun _ H => ?_); cbv)
   | (refine s_apL hV.rParam hV.nParam H (fun _ H => ?_); cbv)
   | (refine s_lv H (fun _ H => ?_); cbv)
   | (refine s_loop hA H (fun s h => hb0 _ s h) [1, 25, 26] [] (fun e s => [(6, .ref 3712 0 1 0 (V.nS (s.2.2))), (7, .int .i64 (s.1)), (27, .int .i64 (s.2.1))]) (fun e s => [(3712, ⟨0, true, 1, .many (V.rS (s.2.2))⟩)]) [(3712, 1)] pin_impl_Signature_namesOf_at_impl_Param_placed nbOf ?_; rintro ⟨x126, x127, x128⟩ H; unfold impl_Signature_needs.b0 at H; (try dsimp only at H); cbv)
  | (with_reducible refine s_next H pin_impl_Signature_namesOf_at_impl_Param_placed nbOf)
  | (with_reducible refine s_joint 0 hA H [1, 2] [128] (fun e s => []) (fun e s => []) (fun J0 H => ?_) ?_; rotate_left; (rintro ⟨⟩ H; (try dsimp only at H); cbv); rotate_left; cbv)
  | (with_reducible refine s_meet H [] pin_impl_Signature_namesOf_at_impl_Param_placed nbOf)
  | (with_reducible refine s_joint 1 hA H [1, 6, 9, 25, 26, 27] [3712, 576] (fun e s => [(7, .int .i64 s)]) (fun e s => []) (fun J1 H => ?_) ?_; rotate_left; (rintro x179 H; (try dsimp only at H); cbv); rotate_left; cbv)
  | (with_reducible refine s_meet H [] pin_impl_Signature_namesOf_at_impl_Param_placed nbOf)
  | with_reducible first
   | (refine s_cb hA H (by (try simp only [hV.rS, hV.rParam]); with_unfolding_all exact impl_in.ok hm hz hG) rfl (fun H => ?_) (fun H => ?_) <;> cbv)
   | (refine s_ci hA H (by (try simp only [hV.rS, hV.rParam]); (first | (have hk_ := impl_Signature_places.ok hm hz hG hg; with_unfolding_all exact hk_) | (with_unfolding_all exact impl_Signature_places.ok hm hz hG (by first | assumption | omega)))) rfl (fun _ H => ?_); cbv)
   | (refine s_cb hA H (by (try simp only [hV.rS, hV.rParam]); with_unfolding_all exact impl_Signature_has.ok hm hz hG) rfl (fun H => ?_) (fun H => ?_) <;> cbv)
   | (refine s_cb hA H (by (try simp only [hV.rS, hV.rParam]); with_unfolding_all exact impl_Param_placed.ok hm hz hG) rfl (fun H => ?_) (fun H => ?_) <;> cbv)
   | (refine s_cb hA H (by (try simp only [hV.rS, hV.rParam]); with_unfolding_all exact impl_Param_single.ok hm hz hG) rfl (fun H => ?_) (fun H => ?_) <;> cbv)
   | (refine s_cLS hV hA H (by (try simp only [hV.rS, hV.rParam]); with_unfolding_all exact slices_Clip_string.ok hm hz hG) rfl (fun _ H => ?_); cbv)
   | (refine s_tLS (by assumption) hV H (by (try simp only [hV.rS, hV.rParam]); with_unfolding_all exact slices_Clip_string.ok hm hz hG) (by first | (cbv <;> (repeat' (first | trivial | refine And.intro ?_ ?_)) <;> (first | rfl | exact clS hV _ | with_unfolding_all exact clParam hV _ | simp [closedCell])) | fail) (fun _ H => ?_); cbv)
   | (refine s_wLS (g := 148) hA H rfl (fun U hU => ?_); cbv)
   | (refine indep_of hA ?_; cbv)
  | ((with_reducible refine side ?_); exact sideOf)
  | with_reducible first
   | (refine s_tkG hV.rS hV.nS ?_; cbv)
   | (refine s_tkG hV.rParam hV.nParam ?_; cbv)
   | (refine s_tk1 ?_; cbv)
  | (with_reducible refine And.intro ?_ ?_)
  | ((with_reducible refine s_cn H (fun hb H => ?_) (fun hb H => ?_)) <;> (revert H; subst hb; intro H; cbv))
  | (intro ys hys; subst hys; rfl)
  | rfl)
theorem impl_Signature_needs.ok {a1 : List Param} {a2 : Int} (hp : VN a1) : FnOK pg G 111 [.agg [.sl (a1.map eParam)], .int .i64 a2] [] (.tup [.sl ((((fun (s : Sig) (n : Int) => needsI s.params n) ⟨a1⟩ a2).1).map eS), .bool (((fun (s : Sig) (n : Int) => needsI s.params n) ⟨a1⟩ a2).2)]) [] true := by
 have hl := hp.len
 have hnp := nPlaces_le a1
 refine @impl_Signature_needs.w G hm hz hG a1 a2 (fun v s => v = a1.length ∧ 0 ≤ a2 ∧ a2 ≤ 8 ∧ (a2.toNat ≤ nPlaces a1 ∨ (a1.any fun p => decide (p.kind = 2)) = true) ∧ 0 ≤ s.2.1 ∧ s.2.1 ≤ a1.length ∧ s.1 = min s.2.1 (nPlaces a1 : Int) ∧ s.2.2 = needTk a1 a2.toNat s.2.1.toNat ∧ ∀ (j : Nat) (p : Param), (j : Int) < s.2.1 → a2.toNat ≤ j → a1[j]? = some p → ¬ (p.kind = 0 ∧ p.hasDefault = false)) (fun _ s => a1.length - s.2.1.toNat) (fun _ _ => needsI a1 a2) ?_ _ ?_
 ·rintro v ⟨place, i, out⟩ ⟨hv, n0, n8, htc, h0, h1, hpl, ho, hok⟩
  simp only at h0 h1 hpl ho hok
  have hol : out.length ≤ a1.length := by rw [ho]; exact needTk_len _ _ _
  simp only [impl_Signature_needs.b0, cn_ite]
  refine ite_ok (fun h => ?_) (fun h => ?_)
  ·obtain ⟨p, hpp⟩ : ∃ p, a1[i.toNat]? = some p := ⟨_, List.getElem?_eq_getElem (by omega)⟩
   have e := @needTk_step a1 a2.toNat i p h0 hpp
   rw [← ho] at e
   have hpi := placed_iff hp.nn hp.s2 i.toNat p hpp
   obtain ⟨k0, k4⟩ := kind_of hp hpp
   have fin : ∀ out', out' = needTk a1 a2.toNat (i + 1).toNat → (i < a2 ∨ ¬ (p.kind = 0 ∧ p.hasDefault = false)) → (arr .i64 (i + 1) fun u => LI (fun s : Int × Int × List Str => v = a1.length ∧ 0 ≤ a2 ∧ a2 ≤ 8 ∧ (a2.toNat ≤ nPlaces a1 ∨ (a1.any fun p => decide (p.kind = 2)) = true) ∧ 0 ≤ s.2.1 ∧ s.2.1 ≤ a1.length ∧ s.1 = min s.2.1 (nPlaces a1 : Int) ∧ s.2.2 = needTk a1 a2.toNat s.2.1.toNat ∧ ∀ (j : Nat) (p : Param), (j : Int) < s.2.1 → a2.toNat ≤ j → a1[j]? = some p → ¬ (p.kind = 0 ∧ p.hasDefault = false)) (fun s => a1.length - s.2.1.toNat) (fun _ => needsI a1 a2) (a1.length - i.toNat) (if placedP p = true then place + 1 else place, u, out')) = some (needsI a1 a2) := by
    intro out' ho' hgood
    have g1 : (if placedP p = true then place + 1 else place) = min (i + 1) (nPlaces a1 : Int) := by
     by_cases c : placedP p = true
     ·have := hpi.1 c; rw [if_pos c, hpl, Int.min_def, Int.min_def]; split <;> split <;> omega
     ·have : ¬ i.toNat < nPlaces a1 := fun h => c (hpi.2 h); rw [if_neg c, hpl, Int.min_def, Int.min_def]; split <;> split <;> omega
    have g2 : ∀ (j : Nat) (p : Param), (j : Int) < i + 1 → a2.toNat ≤ j → a1[j]? = some p → ¬ (p.kind = 0 ∧ p.hasDefault = false) := by
     intro j q hj hn hq
     by_cases ej : j = i.toNat
     ·subst ej
      rw [hpp] at hq; cases hq
      exact hgood.resolve_left (by omega)
     ·exact hok j q (by omega) hn hq
    rw [arr_ok (by omega), LI_ok ⟨⟨hv, n0, n8, htc, by simp only; omega, by simp only; omega, g1, ho', g2⟩, by simp only; omega⟩]
   rw [ixParam_ok h0 hpp]
   simp only [eta_Param]
   refine lj_ok (fun q => q = if placedP p = true then place + 1 else place) (fun J hJ => ?_) (fun q hq => ?_)
   ·refine ite_ok (fun c => ?_) (fun c => ?_)
    ·rw [arr_ok (by omega)]; exact hJ _ (by rw [if_pos c])
    ·exact hJ _ (by rw [if_neg c])
   ·subst hq
    have skip : openP p i.toNat a2.toNat = false ∨ p.hasDefault = true → needTk a1 a2.toNat (i + 1).toNat = out := by
     intro h; rw [e, if_neg (by rintro ⟨h1, h2⟩; rcases h with h | h <;> simp_all), List.append_nil]
    refine ite_ok (fun c1 => ?_) (fun c1 => ?_)
    ·refine ite_ok (fun c2 => ?_) (fun c2 => ?_)
     ·exact fin _ (skip (.inr c2)).symm (.inr (by rw [c2]; simp))
     ·have hd : p.hasDefault = false := Bool.eq_false_iff.2 c2
      have eP : (⟨p.name, p.kind, false, p.dflt⟩ : Param) = p := by rw [← hd]
      have bad : a2 ≤ i → p.kind = 0 → some (([] : List Str), false) = some (needsI a1 a2) := by
       intro hle hk
       rw [needsI, if_neg]
       rintro ⟨_, h⟩
       rw [tc_false hpp (by omega) hk hd] at h; cases h
      have add : a2 ≤ i ∨ p.kind = 3 → ¬ p.kind = 0 → needTk a1 a2.toNat (i + 1).toNat = out ++ [p.name] := by
       intro hle hk
       have ho1 : openP p i.toNat a2.toNat = true := by
        simp only [singleP, placedP, namedP, Bool.or_eq_true, decide_eq_true_eq] at c1
        simp only [openP, Bool.or_eq_true, Bool.and_eq_true, decide_eq_true_eq]
        omega
       rw [e, if_pos ⟨ho1, hd⟩]
      rw [eP]
      refine ite_ok (fun c3 => ?_) (fun c3 => ?_)
      ·have hlt := hpi.1 c3
       rw [if_pos c3]
       refine ite_ok (fun c4 => ?_) (fun c4 => ?_)
       ·have ho0 : openP p i.toNat a2.toNat = false := by
         simp only [placedP, Bool.or_eq_true, decide_eq_true_eq] at c3
         rw [Bool.eq_false_iff]; simp only [openP, ne_eq, Bool.or_eq_true, Bool.and_eq_true, decide_eq_true_eq]; omega
        have := fin out (skip (.inl ho0)).symm (.inl (by omega))
        rw [if_pos c3] at this; exact this
       ·refine ite_ok (fun c5 => bad (by omega) c5) (fun c5 => ?_)
        rw [gd_ok (by omega)]
        have := fin _ (add (.inl (by omega)) c5).symm (.inr fun h => c5 h.1)
        rw [if_pos c3] at this; exact this
      ·have hk3 : p.kind = 3 := by
        simp only [singleP, placedP, namedP, Bool.or_eq_true, decide_eq_true_eq] at c1 c3; omega
       rw [if_neg c3]
       refine ite_ok (fun c5 => by omega) (fun c5 => ?_)
       rw [gd_ok (by omega)]
       have := fin _ (add (.inr hk3) c5).symm (.inr fun h => c5 h.1)
       rw [if_neg c3] at this; exact this
    ·have ho0 : openP p i.toNat a2.toNat = false := by
      simp only [singleP, placedP, namedP, Bool.or_eq_true, decide_eq_true_eq] at c1
      rw [Bool.eq_false_iff]; simp only [openP, ne_eq, Bool.or_eq_true, Bool.and_eq_true, decide_eq_true_eq]; omega
     refine fin _ (skip (.inl ho0)).symm (.inr fun h => c1 ?_)
     simp [singleP, placedP, h.1]
  ·have hi : i = a1.length := by omega
   have eo : out = needL a1 a2.toNat := by
    rw [ho, needL_eq]; unfold needTk
    rw [List.take_of_length_le (by rw [List.length_zipIdx]; omega)]
   have htc2 : takesCountB a1 a2.toNat = true := by
    unfold takesCountB
    rw [Bool.and_eq_true, Bool.or_eq_true, decide_eq_true_eq]
    refine ⟨htc, ?_⟩
    rw [List.all_eq_true]
    intro p hpm
    obtain ⟨j, hj⟩ := List.getElem?_of_mem hpm
    rw [List.getElem?_drop] at hj
    have := hok (a2.toNat + j) p (by have := (List.getElem?_eq_some_iff.1 hj).1; omega) (by omega) hj
    simp only [Bool.not_eq_true', Bool.and_eq_false_iff, decide_eq_false_iff_not, Bool.not_eq_false']
    by_cases k : p.kind = 0
    ·right
     cases hd : p.hasDefault with
     | true => rfl
     | false => exact absurd ⟨k, hd⟩ this
    ·exact .inl k
   have hT : okTexts out := by
    refine ⟨by omega, fun s hs => ?_⟩
    rw [eo] at hs
    obtain ⟨j, q, hq, _, _, rfl⟩ := mem_needL.1 hs
    have := name_l (hp.nm q (List.mem_of_getElem? hq))
    omega
   rw [gd_ok hT]
   simp only [lv, on_LS]
   rw [eo, sortL_T (needL_nodup hp.toVP _), needsI, if_pos ⟨⟨n0, n8⟩, htc2⟩] <;> rfl
 ·simp only [impl_Signature_needs.f, cn_ite, lv]
  refine lj_ok (fun _ => 0 ≤ a2 ∧ a2 ≤ 8 ∧ (a2.toNat ≤ nPlaces a1 ∨ (a1.any fun p => decide (p.kind = 2)) = true)) (fun J hJ => ?_) (fun s hs => ?_)
  ·refine ite_ok (fun c => ?_) (fun c => ?_)
   ·simp only [inRange, decide_eq_true_eq] at c
    rw [gd_ok (by omega)]
    refine ite_ok (fun d => ?_) (fun d => ?_)
    ·refine ite_ok (fun e => hJ _ ⟨c.1, c.2, .inr e⟩) (fun e => ?_)
     rw [needsI, if_neg]
     rintro ⟨_, h⟩
     unfold takesCountB at h
     simp only [Bool.and_eq_true, Bool.or_eq_true, decide_eq_true_eq] at h
     rcases h.1 with h1 | h1
     ·rw [placesN_eq] at d; omega
     ·exact e h1
    ·exact hJ _ ⟨c.1, c.2, .inl (by rw [placesN_eq] at d; omega)⟩
   ·rw [needsI, if_neg]
    rintro ⟨h, _⟩
    exact c (by simp only [inRange, decide_eq_true_eq]; exact h)
  ·obtain ⟨n0, n8, htc⟩ := hs
   refine ln_ok fun _ => ?_
   rw [EI_ok ⟨by trivial, n0, n8, htc, Int.le_refl 0, by simp only; omega, by simp only; omega, by simp [needTk], fun j p h => by simp only at h; omega⟩]
end
end Go.Proofs.YtchpopejojghmaaGreatDoor.M
