/- The rule of a function that writes what is handed on to it (by pointer, or a slice's elements). -/
import Derived.Test.YtoofegkjdjlpkaaGreatDoorE11
set_option linter.unusedVariables false
set_option linter.unusedSimpArgs false
namespace Go.Proofs.YtoofegkjdjlpkaaGreatDoor.M
open Go
section
variable {P : Program} {G : Glob} {tt0 : Nat → TyI}
structure FinWOK (tops : Bool) (ext ext' : List Obj) (res : C) (o : Nat → Obj) (v : C) : Prop where
  shape : shapeV v = true
  nodup : (expIds v).Nodup
  eq : softV (expV o (if tops then expIds v else []) v) = res
  ids : ∀ p c, (p, c) ∈ posCells v → ∀ id, idOf c = some id → ext.length ≤ id ∧ ∀ r ∈ (o id).rows, r.all closedCell = true
  len : ext'.length = ext.length
  back : ∀ id, id < ext.length → o id = extO ext' id ∧ (extO ext' id).gen = 0 ∧ (extO ext' id).rw = true ∧ (extO ext' id).es = (extO ext id).es ∧ (extO ext' id).rows.length = (extO ext id).rows.length ∧
    ∀ r ∈ (extO ext' id).rows, r.all closedCell = true
def finW (tops : Bool) (ext ext' : List EObj) (res : C) (o : Nat → EObj) (v : C) : Prop := FinWOK tops (ext.map EObj.toObj) (ext'.map EObj.toObj) res (toO o) v
theorem fn_okW {f : FuncId} {fn : Func} {body : Code} {args : List C} {ext ext' : List EObj} {res : C} (hm : P.follows .mixedOrders = true) (hsub : ∀ T, tt0 T = noTy ∨ ttOf P T = tt0 T) (hz : ∀ T, ∀ c ∈ (ttOf P T).zero, Bd c)
    (off : Nat) (tops : Bool) (cs : List Nat) (hf : P.funcs[f]? = some fn) (hb : fn.body = some body) (hname : (fn.name == "runtime.NumGoroutine") = false) (hnt : args.length ≤ fn.ntmps) (hrw : ∀ x ∈ ext, x.rw = true ∧ x.gen = 0) (hc : codeOK fn.ntmps body = true)
    (h : ∀ A F, IsBx true (some ext.length) P G A → F = finW tops ext ext' res → wpF A true tt0 off cs body (RetF F tt0 fn.results.toList) (startE args (extE ext))) : FnOK P G f args (ext.map EObj.toObj) res (ext'.map EObj.toObj) true := by
  have hst : (startE args (extE ext)).toSt = start args (extO (ext.map EObj.toObj)) := by
    unfold startE ESt.toSt start
    congr 1
    funext i
    simp only [toO, extE, extO, List.getD_eq_getElem?_getD, List.getElem?_map]
    cases ext[i]? <;> rfl
  have hbd : (∀ a ∈ args, Bd a) → (∀ x ∈ ext.map EObj.toObj, BdR x.rows) → BdSt (startE args (extE ext)).toSt := by
    intro ha hx
    rw [hst]
    refine ⟨fun t => ?_, fun i => ?_⟩
    · show Bd (args.getD t .undef)
      rw [List.getD_eq_getElem?_getD]
      cases e : args[t]? with
      | none => exact .undef
      | some a => exact ha a (List.mem_of_getElem? e)
    · show BdR ((extO (ext.map EObj.toObj)) i).rows
      rw [extO, List.getD_eq_getElem?_getD]
      cases e : (ext.map EObj.toObj)[i]? with
      | none => exact ⟨by simp [blank, bnd63], fun r hr => by cases hr⟩
      | some a => exact hx a (List.mem_of_getElem? e)
  have hlen : (ext.map EObj.toObj).length = ext.length := by simp
  have hw : (∀ a ∈ args, Bd a) → (∀ x ∈ ext.map EObj.toObj, BdR x.rows) → wpC (CallRel P G (some ext.length)) (ttOf P) off fn.ntmps body
      (fun x st => (∃ r0, RetW (ttOf P) fn.results.toList tops (ext.map EObj.toObj) r0 (ext'.map EObj.toObj) true x st ∧ softV r0 = res) ∧ Bd res ∧ ∀ x ∈ ext'.map EObj.toObj, BdR x.rows) (start args (extO (ext.map EObj.toObj))) := by
    intro ha hx
    rw [← hst]
    refine wpF_sound (isBx true (some ext.length) P G) hsub hz body _ _ _ (fun x e hbe hq => ?_) hc (fun _ => hbd ha hx) (h _ _ (isBx true (some ext.length) P G) rfl)
    have hb := hbe rfl
    have main : (match endE tt0 e fn.results.toList with | some v => finW tops ext ext' res e.o v | none => False) → isEnd x →
        (∃ r0, RetW (ttOf P) fn.results.toList tops (ext.map EObj.toObj) r0 (ext'.map EObj.toObj) true x e.toSt ∧ softV r0 = res) ∧ Bd res ∧ ∀ x ∈ ext'.map EObj.toObj, BdR x.rows := by
      intro hq hp
      split at hq
      · rename_i v hv
        unfold finW at hq
        have he := endE_sound hsub hv
        refine ⟨⟨_, ⟨hp, ⟨v, he, hq.shape, hq.nodup, rfl, (fun h => by cases h), hq.ids⟩, hq.len, hq.back⟩, hq.eq⟩, ?_, fun y hy => ?_⟩
        · rw [← hq.eq]
          exact softV_bd (expV_bd hb.o _ (endV_bd hb he))
        · obtain ⟨i, hi⟩ := List.getElem?_of_mem hy
          have hil : i < (ext'.map EObj.toObj).length := (List.getElem?_eq_some_iff.1 hi).1
          have e1 := (hq.back i (by rw [← hq.len]; exact hil)).1
          have e2 : extO (ext'.map EObj.toObj) i = y := by rw [extO, List.getD_eq_getElem?_getD, hi]; rfl
          rw [← e2, ← e1]
          exact hb.o i
      · exact hq.elim
    cases x with
    | nml => exact main hq trivial
    | exit i => exact hq.elim
    | ret => exact main hq trivial
  refine ⟨fun ha hx => ?_, fun ha hx => ?_⟩
  · refine call_okW hm off tops (fun r0 => softV r0 = res) (fun r0 e w g v w' L => by rw [← e]; exact L.soft) hf hb hname hnt (fun x hx => ?_) (by rw [hlen]; exact wpC_mono body _ _ _ (fun x s hq => hq.1) (hw ha hx))
    obtain ⟨y, hy, rfl⟩ := List.mem_map.1 hx
    exact hrw y hy
  · obtain ⟨x, st', hq⟩ := wpC_ex body _ _ (hw ha hx)
    exact hq.2
end
def cellsV : C → List C
  | .tup vs => vs.flatMap C.cells
  | c => c.cells
def idsF (n : Nat) (o : Nat → EObj) : List C → Prop
  | [] => True
  | c :: r => (match idOf c with | some id => n ≤ id ∧ ∀ x ∈ (o id).dat.rows, x.all closedCell = true | none => True) ∧ idsF n o r
theorem idsF_sound {n : Nat} {o : Nat → EObj} : ∀ {l : List C}, idsF n o l → ∀ c ∈ l, ∀ id, idOf c = some id → n ≤ id ∧ ∀ r ∈ (toO o id).rows, r.all closedCell = true
  | c :: r, h, d, hd, id, hi => by
    rcases List.mem_cons.1 hd with rfl | hd
    · have h1 := h.1
      rw [hi] at h1
      exact h1
    · exact idsF_sound h.2 d hd id hi
theorem posCells_cellsV {v c : C} {p : Nat} (h : (p, c) ∈ posCells v) : c ∈ cellsV v := by
  cases v with
  | tup vs =>
    simp only [posCells, List.mem_flatMap, List.mem_map] at h
    obtain ⟨⟨u, i⟩, hu, ⟨z, j⟩, hz, he⟩ := h
    cases he
    exact List.mem_flatMap.2 ⟨u, List.mem_of_getElem? (mem_zipIdx_lt hu), List.mem_of_getElem? (mem_zipIdx_lt hz)⟩
  | _ =>
    simp only [posCells, List.mem_map] at h
    obtain ⟨⟨z, j⟩, hz, he⟩ := h
    cases he
    exact List.mem_of_getElem? (mem_zipIdx_lt hz)
def backF (o : Nat → EObj) : Nat → List EObj → List EObj → Prop
  | _, [], [] => True
  | i, x :: r, y :: r' => o i = y ∧ y.gen = 0 ∧ y.rw = true ∧ y.es = x.es ∧ y.dat.rows.length = x.dat.rows.length ∧ (∀ z ∈ y.dat.rows, z.all closedCell = true) ∧ backF o (i + 1) r r'
  | _, _, _ => False
theorem backF_sound {o : Nat → EObj} : ∀ {l l' : List EObj} {n : Nat}, backF o n l l' → l'.length = l.length ∧ ∀ k, k < l.length → ∃ x y, l[k]? = some x ∧ l'[k]? = some y ∧ o (n + k) = y ∧ y.gen = 0 ∧ y.rw = true ∧ y.es = x.es ∧ y.dat.rows.length = x.dat.rows.length ∧ ∀ z ∈ y.dat.rows, z.all closedCell = true
  | [], [], n, _ => ⟨rfl, fun k hk => by cases hk⟩
  | x :: r, y :: r', n, h => by
    obtain ⟨h1, h2, h3, h4, h5, h6, h7⟩ := h
    obtain ⟨e, hr⟩ := backF_sound h7
    refine ⟨by simp [e], fun k hk => ?_⟩
    cases k with
    | zero => exact ⟨x, y, rfl, rfl, h1, h2, h3, h4, h5, h6⟩
    | succ k =>
      obtain ⟨x', y', q1, q2, q3, q4⟩ := hr k (by simpa using hk)
      exact ⟨x', y', by simpa using q1, by simpa using q2, by rw [← q3]; congr 1; omega, q4⟩
theorem fin_W0 {F : (Nat → EObj) → C → Prop} {tops : Bool} {ext ext' : List EObj} {r v : C} {o : Nat → EObj} (hF : F = finW tops ext ext' r) (hs : shapeV v = true) (hn : (expIds v).Nodup) (h : softV (expV (toO o) (if tops then expIds v else []) v) = r) (hi : idsF ext.length o (cellsV v)) (hb : backF o 0 ext ext') : F o v := by
  obtain ⟨hl, hb⟩ := backF_sound hb
  have ex : ∀ {l : List EObj} {k : Nat} {x : EObj}, l[k]? = some x → extO (l.map EObj.toObj) k = x.toObj := by
    intro l k x h
    rw [extO, List.getD_eq_getElem?_getD, List.getElem?_map, h]; rfl
  rw [hF]
  refine ⟨hs, hn, h, fun p c hc id hid => ?_, by simp [hl], fun id hid => ?_⟩
  · rw [List.length_map]
    exact idsF_sound hi c (posCells_cellsV hc) id hid
  · rw [List.length_map] at hid
    obtain ⟨x, y, q1, q2, q3, q4, q5, q6, q7, q8⟩ := hb id hid
    rw [ex q1, ex q2]
    rw [Nat.zero_add] at q3
    exact ⟨by show (o id).toObj = _; rw [q3], q4, q5, q6, q7, q8⟩
theorem fin_W {F : (Nat → EObj) → C → Prop} {ext ext' : List EObj} {r v : C} {o : Nat → EObj} (hF : F = finW false ext ext' r) (hs : shapeV v = true) (hn : (expIds v).Nodup) (h : clVF o v fun v' => r = v') (hi : idsF ext.length o (cellsV v)) (hb : backF o 0 ext ext') : F o v :=
  fin_W0 hF hs hn (clVF_sound hs h).symm hi hb
theorem fin_WO {F : (Nat → EObj) → C → Prop} {ext ext' : List EObj} {r v : C} {o : Nat → EObj} (hF : F = finW true ext ext' r) (hs : shapeV v = true) (hn : (expIds v).Nodup) (h : expVF o v fun v' => r = softV v') (hi : idsF ext.length o (cellsV v)) (hb : backF o 0 ext ext') : F o v :=
  fin_W0 hF hs hn (expVF_sound h).symm hi hb
def closeXW (o : Nat → EObj) : List Nat → (List EObj → Prop) → Prop
  | [], K => K []
  | i :: r, K => if (o i).rw = true then
      match (o i).dat with
      | .one c => if c.all closedCell = true then closeXW o r fun l => K (⟨0, true, (o i).es, .one c⟩ :: l) else False
      | .many _ => False
    else False
theorem closeXW_sound {o : Nat → EObj} {ids : List Nat} : ∀ {l : List Nat} {K : List EObj → Prop}, closeXW o l K → ∃ l', l.map (extOf (toO o) ids true) = l'.map EObj.toObj ∧ (∀ i ∈ l, (o i).rw = true ∧ ∀ r ∈ (o i).dat.rows, r.all closedCell = true) ∧ K l'
  | [], K, h => ⟨[], rfl, (fun i hi => by cases hi), h⟩
  | i :: r, K, h => by
    unfold closeXW at h
    split at h
    · rename_i hrw
      split at h
      · rename_i c hd
        split at h
        · rename_i e
          obtain ⟨l', h1, h2, h⟩ := closeXW_sound (ids := ids) h
          refine ⟨_, ?_, ?_, h⟩
          · rw [List.map_cons, List.map_cons, h1]
            congr 1
            simp only [extOf, toO_one hd, EObj.toObj, ED.rows, List.map_cons, List.map_nil, map_resC_closed _ _ _ e]
            simp [toO, EObj.toObj]
          · intro j hj
            rcases List.mem_cons.1 hj with rfl | hj
            · refine ⟨hrw, fun r' hr' => ?_⟩
              rw [hd] at hr'; simp [ED.rows] at hr'; subst hr'; exact e
            · exact h2 j hj
        · exact h.elim
      · exact h.elim
    · exact h.elim
def callW (P : Program) (G : Glob) (own : Nat) (o : Nat → EObj) (g : FuncId) (ids tops : List Nat) (bs : List C) (ext : List EObj) (K : C → List (Nat × EObj) → Prop) : Prop :=
  ∃ (res : C) (ext' : List EObj), FnOK P G g bs (ext.map EObj.toObj) res (ext'.map EObj.toObj) true ∧ (∀ x ∈ ext', ∀ r ∈ x.dat.rows, r.all closedCell = true) ∧ (∀ i ∈ tops, i ∉ ids ∧ ∀ r ∈ (o i).dat.rows, r.all closedCell = true) ∧
    K (impV (toO o) own res) (putBackE o ids (ext'.map EObj.toObj) ++ freezeE o tops ++ impUpsE o own res)
section
variable {P : Program} {G : Glob} {rg : Option Nat} {A : Bx} {own : Nat} {o : Nat → EObj}
theorem argC_ex {ids : List Nat} {v : C} (h : ∀ i ∈ topRefs v, i ∉ ids ∧ ∀ r ∈ (o i).dat.rows, r.all closedCell = true) : argC (toO o) ids ids v = argC (toO o) ids [] v := by
  have one : ∀ c : C, (∀ id g es b l, c = .ref id g es b l → id ∉ ids ∧ ∀ r ∈ (o id).dat.rows, r.all closedCell = true) → resC (toO o) ids resD c = resC (toO o) [] resD c := by
    intro c hc
    cases c with
    | ref id g es b l =>
      obtain ⟨h1, h2⟩ := hc id g es b l rfl
      have e : ∀ ex d, ((((toO o id).rows.drop b).take l).map (List.map (resC (toO o) ex d))) = ((toO o id).rows.drop b).take l := fun ex d =>
        rows_resC_closed _ _ _ fun r hr => h2 r (List.mem_of_mem_drop (List.mem_of_mem_take hr))
      show resC (toO o) ids (_ + 1) _ = resC (toO o) [] (_ + 1) _
      simp only [resC, e, h1, List.not_mem_nil, not_false_eq_true, and_true]
    | _ => rfl
  cases v with
  | agg cs =>
    simp only [argC]
    congr 1
    refine List.map_congr_left fun c hc => one c fun id g es b l e => h id ?_
    subst e
    exact List.mem_flatMap.2 ⟨_, hc, by simp⟩
  | ref id g es b l => exact one _ fun id g es b l e => by cases e; exact h _ (by simp [topRefs])
  | _ => first | rfl | exact one _ (fun id g es b l e => by cases e)
theorem callT_w (hA : IsBx true rg P G A) {g : FuncId} {vs : List C} {K : C → List (Nat × EObj) → Prop}
    (h : ∀ R, R = callW P G own o g (callIds vs) (vs.flatMap topRefs) → closeVs o (callIds vs) vs fun bs => closeXW o (callIds vs) fun ext => R bs ext K) : A.call own o g vs K := by
  rw [hA.call]
  have h := h _ rfl
  obtain ⟨bs, h1, h⟩ := closeVs_sound h
  obtain ⟨ext, h2, h3, h⟩ := closeXW_sound (ids := callIds vs) h
  obtain ⟨res, ext', hok, hcl, htops, hK⟩ := h
  unfold callB
  refine .inl ⟨true, bs, ext.map EObj.toObj, res, ext'.map EObj.toObj, true, _, ?_, hK⟩
  refine ⟨?_, h2, hok, (fun h => by cases h), fun _ i hi => (h3 i hi).1, (fun _ h => by cases h), fun _ x hx => ?_, fun _ => ⟨htops, fun i hi => (h3 i hi).2⟩, by simp⟩
  · rw [← h1]
    exact List.map_congr_left fun v hv => argC_ex fun i hi => htops i (List.mem_flatMap.2 ⟨v, hv, hi⟩)
  · obtain ⟨y, hy, rfl⟩ := List.mem_map.1 hx
    exact hcl y hy
end
end Go.Proofs.YtoofegkjdjlpkaaGreatDoor.M
