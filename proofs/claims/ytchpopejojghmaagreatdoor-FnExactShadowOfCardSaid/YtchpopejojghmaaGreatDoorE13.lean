/- States told anew where own slices may be closed and nil may be seen as an empty slice. -/
import Derived.Test.YtchpopejojghmaaGreatDoorE12
set_option linter.unusedVariables false
set_option linter.unusedSimpArgs false
namespace Go.Proofs.YtchpopejojghmaaGreatDoor.M
open Go
def pinL (q : C → C → Prop) : List C → List C → Prop
 | [], [] => True
 | c :: l, c' :: l' => q c c' ∧ pinL q l l'
 | _, _ => False
def pinA (q : C → C → Prop) (c c' : C) : Prop :=
 match c with
 | .agg cs => match c' with
  | .agg cs' => pinL q cs cs'
  | _ => False
 | .fn g caps => match c' with
  | .fn g' caps' => if caps.all isPtr = true then g = g' ∧ pinL q caps caps' else False
  | _ => False
 | c => q c c'
def pinZ (o : Nat → EObj) (ks : List Nat) (ns : List (Nat × Nat)) (c c' : C) : Prop :=
 match c with
 | .nils => match c' with
  | .nils => True
  | .sl a => a = []
  | .ref id g es base len => if ns.lookup id = some es ∧ ks.contains id = true ∧ g = 0 then base = 0 ∧ len = 0 else False
  | _ => False
 | .ref id g es base len => if (o id).gen = g then
   (if ks.contains id = true then
    (if ns.lookup id = none then match c' with
     | .ref id' g' es' base' len' => if id' = id ∧ g' = 0 ∧ es' = es then base = base' ∧ len = len' else False
     | _ => False
    else False)
   else match c' with
    | .sl a => match (o id).dat with
     | .many rows => (base + len ≤ rows.length ∧ ∀ r ∈ rows, r.all closedCell = true) ∧ a = (rows.drop base).take len
     | .one _ => False
    | _ => False)
  else False
 | c => pinC o ks ns c c'
def pinPZ (q : C → C → Prop) (s : Nat → C) : List (Nat × C) → Prop
 | [] => True
 | (t, c) :: r => pinA q (s t) c ∧ pinPZ q s r
def rowsZ (q : C → C → Prop) (rows rows' : List (List C)) : Prop := rows'.length = rows.length ∧ ∀ (k : Nat) (r r' : List C), rows[k]? = some r → rows'[k]? = some r' → pinL q r r'
def pinOZ (q : C → C → Prop) (B : (Nat → EObj) → List (List C) → List (List C) → Prop) (o : Nat → EObj) (ns : List (Nat × Nat)) : List (Nat × EObj) → Prop
 | [] => True
 | (i, x) :: r => (match ns.lookup i with
  | some es => if x.gen = 0 ∧ x.rw = true ∧ x.es = es then (match x.dat with | .many rows => rows = [] | .one _ => False) else False
  | none => if x.gen = 0 ∧ x.rw = (o i).rw ∧ x.es = (o i).es then (match (o i).dat with
   | .one c => match x.dat with
    | .one c' => pinL q c c'
    | .many _ => False
   | .many rows => match x.dat with
    | .many rows' => B o rows rows'
    | .one _ => False) else False) ∧ pinOZ q B o ns r
structure PinnedZ (e : ESt) (ns : List (Nat × Nat)) (ps : List (Nat × C)) (os : List (Nat × EObj)) : Prop where
 s : pinPZ (pinZ e.o (os.map Prod.fst) ns) e.s ps
 o : ∀ B : (Nat → EObj) → List (List C) → List (List C) → Prop, (∀ o rows rows', rowsZ (pinZ o (os.map Prod.fst) ns) rows rows' → B o rows rows') → pinOZ (pinZ e.o (os.map Prod.fst) ns) B e.o ns os
section
variable {q q' : C → C → Prop} {rg : Option Nat}
theorem pinL_iff : ∀ {cs cs' : List C}, pinL q cs cs' ↔ cs'.length = cs.length ∧ ∀ (j : Nat) (c c' : C), cs[j]? = some c → cs'[j]? = some c' → q c c'
 | [], [] => by simp [pinL]
 | [], c' :: l' => by simp [pinL]
 | c :: l, [] => by simp [pinL]
 | c :: l, c' :: l' => by
  simp only [pinL, pinL_iff, List.length_cons, Nat.add_right_cancel_iff]
  constructor
  ·rintro ⟨h1, h2, h3⟩
   refine ⟨h2, fun j d d' hd hd' => ?_⟩
   cases j with
   | zero => simp at hd hd'; subst hd; subst hd'; exact h1
   | succ j => exact h3 j d d' (by simpa using hd) (by simpa using hd')
  ·rintro ⟨h2, h3⟩
   exact ⟨h3 0 c c' rfl rfl, h2, fun j d d' hd hd' => h3 (j + 1) d d' (by simpa using hd) (by simpa using hd')⟩
theorem pinL_map {f : C → C → C} : ∀ {cs cs' : List C}, pinL q cs cs' → (∀ c ∈ cs, ∀ c', q c c' → q' (f c c') c') → pinL q' (List.zipWith f cs cs') cs'
 | [], [], _, _ => trivial
 | [], _ :: _, h, _ => h.elim
 | _ :: _, [], h, _ => h.elim
 | c :: l, c' :: l', h, hq => ⟨hq c (by simp) c' h.1, pinL_map h.2 fun d hd => hq d (by simp [hd])⟩
theorem zip_left {α β γ : Type} {f : α → γ} : ∀ {l : List α} {l' : List β}, l'.length = l.length → List.zipWith (fun c _ => f c) l l' = l.map f
 | [], [], _ => rfl
 | [], _ :: _, h => by cases h
 | _ :: _, [], h => by cases h
 | c :: l, c' :: l', h => by simp only [List.zipWith_cons_cons, List.map_cons]; rw [zip_left (by simpa using h)]
theorem pinL_map1 {f : C → C} {cs cs' : List C} (h : pinL q cs cs') (hq : ∀ c ∈ cs, ∀ c', q c c' → q' (f c) c') : pinL q' (cs.map f) cs' := by
 rw [← zip_left (f := f) (pinL_iff.1 h).1]
 exact pinL_map h hq
theorem pinL_imp {cs cs' : List C} (h : pinL q cs cs') (hq : ∀ c ∈ cs, ∀ c', q c c' → q' c c') : pinL q' cs cs' := by
 have := pinL_map1 (f := id) h hq
 simpa using this
structure PinQ (q : C → C → Prop) (e : ESt) (ns : List (Nat × Nat)) (ps : List (Nat × C)) (os : List (Nat × EObj)) : Prop where
 s : ∀ p ∈ ps, pinA q (e.s p.1) p.2
 o : ∀ p ∈ os, (∃ es, ns.lookup p.1 = some es ∧ p.2.gen = 0 ∧ p.2.rw = true ∧ p.2.es = es ∧ p.2.dat = .many []) ∨ (ns.lookup p.1 = none ∧ p.2.gen = 0 ∧ p.2.rw = (e.o p.1).rw ∧ p.2.es = (e.o p.1).es ∧
  ((∃ r r', (e.o p.1).dat = .one r ∧ p.2.dat = .one r' ∧ pinL q r r') ∨ ∃ rows rows', (e.o p.1).dat = .many rows ∧ p.2.dat = .many rows' ∧ rowsZ q rows rows'))
theorem PinnedZ.toQ {e : ESt} {ns : List (Nat × Nat)} {ps : List (Nat × C)} {os : List (Nat × EObj)} (h : PinnedZ e ns ps os) : PinQ (pinZ e.o (os.map Prod.fst) ns) e ns ps os := by
 obtain ⟨hs, ho⟩ := h
 generalize os.map Prod.fst = ks at *
 replace ho := ho (fun o rows rows' => rowsZ (pinZ o ks ns) rows rows') (fun _ _ _ h => h)
 refine ⟨?_, ?_⟩
 ·clear ho
  induction ps with
  | nil => intro p hp; cases hp
  | cons a l ih =>
   intro p hp
   rcases List.mem_cons.1 hp with rfl | hp
   ·exact hs.1
   ·exact ih hs.2 p hp
 ·clear hs
  induction os with
  | nil => intro p hp; cases hp
  | cons a l ih =>
   intro p hp
   rcases List.mem_cons.1 hp with rfl | hp
   ·have h1 := ho.1
    split at h1
    ·rename_i es he
     split at h1
     ·rename_i hc
      refine .inl ⟨es, he, hc.1, hc.2.1, hc.2.2, ?_⟩
      split at h1
      ·rename_i rows hd; rw [hd, h1]
      ·exact h1.elim
     ·exact h1.elim
    ·rename_i he
     split at h1
     ·rename_i hc
      refine .inr ⟨he, hc.1, hc.2.1, hc.2.2, ?_⟩
      split at h1
      ·rename_i c hd
       split at h1
       ·rename_i c' hd'; exact .inl ⟨c, c', hd, hd', h1⟩
       ·exact h1.elim
      ·rename_i rows hd
       split at h1
       ·rename_i rows' hd'; exact .inr ⟨rows, rows', hd, hd', h1⟩
       ·exact h1.elim
     ·exact h1.elim
   ·exact ih ho.2 p hp
theorem pinA_imp {c c' : C} (h : pinA q c c') (hq : ∀ d ∈ c.cells, ∀ d', q d d' → q' d d') (hf : ∀ g caps, c = .fn g caps → ∀ d ∈ caps, ∀ d', q d d' → q' d d') : pinA q' c c' := by
 unfold pinA at h ⊢
 split at h
 ·split at h
  ·exact pinL_imp h hq
  ·exact h.elim
 ·split at h
  ·rename_i g caps g' caps'
   split at h
   ·rename_i hp
    rw [if_pos hp]; exact ⟨h.1, pinL_imp h.2 (hf _ _ rfl)⟩
   ·exact h.elim
  ·exact h.elim
 ·rename_i n1 n2
  have : c.cells = [c] := by cases c <;> first | rfl | exact absurd rfl (n1 _)
  exact hq c (by rw [this]; simp) c' h
theorem rowsZ_imp {rows rows' : List (List C)} (h : rowsZ q rows rows') (hq : ∀ r ∈ rows, ∀ d ∈ r, ∀ d', q d d' → q' d d') : rowsZ q' rows rows' :=
 ⟨h.1, fun k r r' h1 h2 => pinL_imp (h.2 k r r' h1 h2) (hq r (List.mem_of_getElem? h1))⟩
def RZ (fs : List Nat) (o : Nat → EObj) (ks : List Nat) (ns : List (Nat × Nat)) (c c' : C) : Prop := pinZ o ks ns c c' ∧ ∀ id g es b l a, c = .ref id g es b l → c' = .sl a → id ∈ fs
def frzE (id : Nat) (e : ESt) : ESt := ⟨fun t => frzV id (toO e.o id) (e.s t), fun k => if k = id then ⟨(e.o id).gen + 1, true, 0, .many []⟩ else ⟨(e.o k).gen, (e.o k).rw, (e.o k).es, match (e.o k).dat with | .one r => .one (r.map (frzC id (toO e.o id))) | .many rows => .many (rows.map (List.map (frzC id (toO e.o id))))⟩⟩
theorem frzE_toSt (id : Nat) (e : ESt) : (frzE id e).toSt = frz id e.toSt := by
 unfold frzE frz ESt.toSt
 congr 1
 funext k
 show ((if k = id then _ else _ : EObj)).toObj = frzO id (toO e.o) k
 unfold frzO
 by_cases h : k = id
 ·rw [if_pos h, if_pos h]; rfl
 ·rw [if_neg h, if_neg h]
  simp only [EObj.toObj, toO]
  cases (e.o k).dat <;> rfl
theorem frzE_ne {id k : Nat} (e : ESt) (h : k ≠ id) : (frzE id e).o k = ⟨(e.o k).gen, (e.o k).rw, (e.o k).es, match (e.o k).dat with | .one r => .one (r.map (frzC id (toO e.o id))) | .many rows => .many (rows.map (List.map (frzC id (toO e.o id))))⟩ := if_neg h
theorem frzC_closed {id : Nat} {O : Obj} {c : C} (h : closedCell c = true) : frzC id O c = c := by cases c <;> first | rfl | cases h
theorem map_frzC_closed {id : Nat} {O : Obj} {r : List C} (h : r.all closedCell = true) : r.map (frzC id O) = r := by
 rw [List.all_eq_true] at h
 conv => rhs; rw [← List.map_id r]
 exact List.map_congr_left fun c hc => frzC_closed (h c hc)
theorem rows_frzC_closed {id : Nat} {O : Obj} {rows : List (List C)} (h : ∀ r ∈ rows, r.all closedCell = true) : rows.map (List.map (frzC id O)) = rows := by
 conv => rhs; rw [← List.map_id rows]
 exact List.map_congr_left fun r hr => map_frzC_closed (h r hr)
variable {e : ESt} {ns : List (Nat × Nat)} {ps : List (Nat × C)} {os : List (Nat × EObj)} {ks : List Nat}
theorem rz_frz {id : Nat} {fs : List Nat} (hk : ks.contains id = false) (hcl : ∀ r ∈ (e.o id).dat.rows, r.all closedCell = true) {c c' : C} (h : RZ (id :: fs) e.o ks ns c c') : RZ fs (frzE id e).o ks ns (frzC id (toO e.o id) c) c' := by
 obtain ⟨h, hf⟩ := h
 have hgen : ∀ i, ks.contains i = true → ((frzE id e).o i).gen = (e.o i).gen := fun i hi => by
  rw [frzE_ne e (fun h => by rw [h, hk] at hi; cases hi)]
 cases c with
 | ref i g es b l =>
  unfold pinZ at h
  simp only at h
  split at h
  ·rename_i hg
   by_cases hki : ks.contains i = true
   ·rw [if_pos hki] at h
    have hne : i ≠ id := fun h => by rw [h, hk] at hki; cases hki
    have e1 : frzC id (toO e.o id) (.ref i g es b l) = .ref i g es b l := by simp [frzC, hne]
    rw [e1]
    refine ⟨?_, ?_⟩
    ·unfold pinZ
     simp only
     rw [hgen i hki, if_pos hg, if_pos hki]; exact h
    ·intro id' g' es' b' l' a ha hc'
     cases hc'
     split at h <;> exact h.elim
   ·rw [if_neg hki] at h
    split at h
    ·rename_i a
     split at h
     ·rename_i rows hd
      obtain ⟨⟨h1, h2⟩, h3⟩ := h
      by_cases hi : i = id
      ·subst hi
       have hr : (toO e.o i).rows = rows := by show (e.o i).dat.rows = rows; rw [hd]; rfl
       have e1 : frzC i (toO e.o i) (.ref i g es b l) = .sl a := by
        simp only [frzC]
        rw [if_pos ⟨trivial, hg.symm, by rw [hr]; exact h1⟩, hr, h3]
       rw [e1]
       exact ⟨rfl, fun _ _ _ _ _ _ h _ => by cases h⟩
      ·have e1 : frzC id (toO e.o id) (.ref i g es b l) = .ref i g es b l := by simp [frzC, hi]
       rw [e1]
       refine ⟨?_, ?_⟩
       ·unfold pinZ
        simp only
        rw [frzE_ne e hi]
        simp only
        rw [if_pos hg, if_neg hki, hd]
        simp only
        rw [rows_frzC_closed h2]
        exact ⟨⟨h1, h2⟩, h3⟩
       ·intro id' g' es' b' l' a' ha hc'
        cases ha
        rcases List.mem_cons.1 (hf i g es b l a rfl rfl) with h | h
        ·exact absurd h hi
        ·exact h
     ·exact h.elim
    ·exact h.elim
  ·exact h.elim
 | ptr i g es r off =>
  refine ⟨?_, fun _ _ _ _ _ _ h _ => by cases h⟩
  show pinC (frzE id e).o ks ns (.ptr i g es r off) c'
  have h : pinC e.o ks ns (.ptr i g es r off) c' := h
  unfold pinC at h ⊢
  simp only at h ⊢
  split at h
  ·rename_i hc
   rw [hgen i hc.2.1, if_pos hc]; exact h
  ·exact h.elim
 | _ => first | exact ⟨h, fun _ _ _ _ _ _ h _ => by cases h⟩ | exact h.elim
theorem pinA_frz {id : Nat} {fs : List Nat} (hk : ks.contains id = false) (hcl : ∀ r ∈ (e.o id).dat.rows, r.all closedCell = true) {c c' : C} (h : pinA (RZ (id :: fs) e.o ks ns) c c') : pinA (RZ fs (frzE id e).o ks ns) (frzV id (toO e.o id) c) c' := by
 have one := fun c c' => @rz_frz e ns ks id fs hk hcl c c'
 cases c with
 | agg cs =>
  cases c' with
  | agg cs' => exact pinL_map1 h fun c _ c' => one c c'
  | _ => exact h.elim
 | fn g caps =>
  cases c' with
  | fn g' caps' =>
   unfold pinA at h
   simp only at h
   split at h
   ·rename_i hp
    show pinA _ (.fn g caps) _
    unfold pinA
    simp only
    rw [if_pos hp]
    refine ⟨h.1, pinL_imp h.2 fun c hc c' hq => ?_⟩
    have := one c c' hq
    rw [List.all_eq_true] at hp
    have hpc := hp c hc
    cases c <;> simp [isPtr] at hpc
    exact this
   ·exact h.elim
  | _ => exact h.elim
 | tup vs => exact (h.1 : False).elim
 | ref i g es b l =>
  have this := one _ _ h
  show pinA _ (frzC id (toO e.o id) (.ref i g es b l)) c'
  have hs : frzC id (toO e.o id) (.ref i g es b l) = .ref i g es b l ∨ ∃ a, frzC id (toO e.o id) (.ref i g es b l) = .sl a := by
   unfold frzC; simp only; split
   ·exact .inr ⟨_, rfl⟩
   ·exact .inl rfl
  rcases hs with e1 | ⟨a, e1⟩ <;> rw [e1] at this ⊢ <;> exact this
 | _ => exact one _ _ h
theorem pinQ_frz {id : Nat} {fs : List Nat} (hks : os.map Prod.fst = ks) (hk : ks.contains id = false) (hcl : ∀ r ∈ (e.o id).dat.rows, r.all closedCell = true) (h : PinQ (RZ (id :: fs) e.o ks ns) e ns ps os) : PinQ (RZ fs (frzE id e).o ks ns) (frzE id e) ns ps os := by
 refine ⟨fun p hp => pinA_frz hk hcl (h.s p hp), fun p hp => ?_⟩
 rcases h.o p hp with h1 | ⟨h1, h2, h3, h4, h5⟩
 ·exact .inl h1
 ·have hne : p.1 ≠ id := fun e => by
   have : ks.contains p.1 = true := by rw [List.contains_iff_mem, ← hks]; exact List.mem_map.2 ⟨p, hp, rfl⟩
   rw [e, hk] at this; cases this
  refine .inr ⟨h1, h2, by rw [frzE_ne e hne]; exact h3, by rw [frzE_ne e hne]; exact h4, ?_⟩
  rcases h5 with ⟨r, r', h6, h7, h8⟩ | ⟨rows, rows', h6, h7, h8⟩
  ·exact .inl ⟨_, r', by rw [frzE_ne e hne, h6], h7, pinL_map1 h8 fun c _ c' => rz_frz hk hcl⟩
  ·refine .inr ⟨_, rows', by rw [frzE_ne e hne, h6], h7, by rw [List.length_map]; exact h8.1, fun k r r' hr hr' => ?_⟩
   rw [List.getElem?_map, Option.map_eq_some_iff] at hr
   obtain ⟨r0, hr0, rfl⟩ := hr
   exact pinL_map1 (h8.2 k r0 r' hr0 hr') fun c _ c' => rz_frz hk hcl
theorem pinQ_frzs (hks : os.map Prod.fst = ks) : ∀ (fs : List Nat) (e : ESt), (∀ id ∈ fs, ks.contains id = false ∧ ∀ r ∈ (e.o id).dat.rows, r.all closedCell = true) → PinQ (RZ fs e.o ks ns) e ns ps os →
  ∃ e1 : ESt, PinQ (RZ [] e1.o ks ns) e1 ns ps os ∧ (∀ st', Wk rg e1.toSt st' → Wk rg e.toSt st') ∧ ∀ i, ks.contains i = true → (e1.o i).gen = (e.o i).gen
 | [], e, _, h => ⟨e, h, fun _ h => h, fun _ _ => rfl⟩
 | id :: fs, e, hf, h => by
  obtain ⟨h1, h2⟩ := hf id (by simp)
  obtain ⟨e1, q1, q2, q3⟩ := pinQ_frzs hks fs (frzE id e) (fun j hj => ⟨(hf j (by simp [hj])).1, fun r hr => by
   by_cases e0 : j = id
   ·subst e0; simp [frzE, ED.rows] at hr
   ·rw [frzE_ne e e0] at hr
    have hc := (hf j (by simp [hj])).2
    simp only at hr
    cases hd : (e.o j).dat with
    | one r0 =>
     rw [hd] at hr hc
     simp only [ED.rows, List.mem_singleton] at hr hc
     rw [map_frzC_closed (hc r0 rfl)] at hr
     subst hr; exact hc _ rfl
    | many rows =>
     rw [hd] at hr hc
     simp only [ED.rows] at hr hc
     rw [rows_frzC_closed hc] at hr
     exact hc r hr⟩) (pinQ_frz hks h1 h2 h)
  refine ⟨e1, q1, fun st' hw => .frz id ?_ (by rw [← frzE_toSt]; exact q2 st' hw), fun i hi => ?_⟩
  ·rw [List.all_eq_true]; exact fun r hr => h2 r hr
  ·rw [q3 i hi, frzE_ne e (fun h => by rw [h, h1] at hi; cases hi)]
def midN (z g : Nat) (c c' : C) : C :=
 match c, c' with
 | .nils, .sl _ => .ref z (g + 1) 0 0 0
 | c, _ => c
def midNV (z g : Nat) (c c' : C) : C :=
 match c, c' with
 | .agg cs, .agg cs' => .agg (List.zipWith (midN z g) cs cs')
 | c, c' => midN z g c c'
theorem midN_cell {z : Nat} (hz : ks.contains z = false) {o2 : Nat → EObj} (hg : ∀ i, ks.contains i = true → (o2 i).gen = (e.o i).gen) {c c' : C} (h : RZ [] e.o ks ns c c') : pinC o2 ks ns (frzC z ⟨(e.o z).gen + 1, true, 0, []⟩ (midN z (e.o z).gen c c')) c' := by
 obtain ⟨h, hf⟩ := h
 cases c with
 | nils =>
  cases c' with
  | sl a =>
   have h : a = [] := h
   subst h
   simp [midN, frzC, pinC]
  | _ => first | exact h | exact h.elim
 | ref i g es b l =>
  unfold pinZ at h
  simp only at h
  split at h
  ·rename_i hgi
   by_cases hki : ks.contains i = true
   ·rw [if_pos hki] at h
    have hne : i ≠ z := fun h => by rw [h, hz] at hki; cases hki
    have e1 : midN z (e.o z).gen (.ref i g es b l) c' = .ref i g es b l := rfl
    have e2 : frzC z ⟨(e.o z).gen + 1, true, 0, []⟩ (.ref i g es b l) = .ref i g es b l := by simp [frzC, hne]
    rw [e1, e2]
    split at h
    ·rename_i hl
     unfold pinC
     simp only
     rw [if_pos ⟨by rw [hg i hki]; exact hgi, hki, hl⟩]
     exact h
    ·exact h.elim
   ·rw [if_neg hki] at h
    split at h
    ·rename_i a; exact absurd (hf i g es b l a rfl rfl) (by simp)
    ·exact h.elim
  ·exact h.elim
 | ptr i g es r off =>
  have h : pinC e.o ks ns (.ptr i g es r off) c' := h
  show pinC o2 ks ns (.ptr i g es r off) c'
  unfold pinC at h ⊢
  simp only at h ⊢
  split at h
  ·rename_i hc
   rw [hg i hc.2.1, if_pos hc]; exact h
  ·exact h.elim
 | _ => first | exact h | exact h.elim
theorem exists_fresh : ∀ l : List Nat, ∃ n, ∀ x ∈ l, x < n
 | [] => ⟨0, fun _ h => by cases h⟩
 | a :: l => by
  obtain ⟨n, h⟩ := exists_fresh l
  refine ⟨n + a + 1, fun x hx => ?_⟩
  rcases List.mem_cons.1 hx with rfl | hx
  ·omega
  ·have := h x hx; omega
theorem nrC_mid {z : Nat} {o : Nat → Obj} {g : Nat} (hg : (o z).gen = g) (c c' : C) : nrC o (fun i => if i = z then some 0 else none) c (midN z g c c') := by
 unfold midN
 split
 ·exact .inr ⟨rfl, z, 0, by simp, by rw [hg]⟩
 ·exact .inl rfl
theorem nr_zip {z : Nat} {o : Nat → Obj} {g : Nat} (hg : (o z).gen = g) {cs cs' : List C} (hl : cs'.length = cs.length) : (List.zipWith (midN z g) cs cs').length = cs.length ∧ ∀ (i : Nat) (c c' : C), cs[i]? = some c → (List.zipWith (midN z g) cs cs')[i]? = some c' → nrC o (fun i => if i = z then some 0 else none) c c' := by
 refine ⟨by simp [hl], fun i c c' h1 h2 => ?_⟩
 rw [List.getElem?_zipWith, h1] at h2
 have hlt : i < cs'.length := by rw [hl]; exact (List.getElem?_eq_some_iff.1 h1).1
 rw [List.getElem?_eq_getElem hlt] at h2
 cases h2
 exact nrC_mid hg _ _
def midD (z g : Nat) (d d' : ED) : ED :=
 match d, d' with
 | .one r, .one r' => .one (List.zipWith (midN z g) r r')
 | .many rows, .many rows' => .many (List.zipWith (List.zipWith (midN z g)) rows rows')
 | d, _ => d
theorem pinQ_nil (hks : os.map Prod.fst = ks) (S : Nat → C) (X : Nat → EObj) (hS : ∀ p ∈ ps, p.2 = S p.1) (hX : ∀ p ∈ os, p.2 = X p.1) (h : PinQ (RZ [] e.o ks ns) e ns ps os) :
  ∃ e1 : ESt, PinQ (pinC e1.o ks ns) e1 ns ps os ∧ (∀ st', Wk rg e1.toSt st' → Wk rg e.toSt st') ∧ ∀ i, ks.contains i = true → (e1.o i).gen = (e.o i).gen := by
 classical
 obtain ⟨z, hz⟩ := exists_fresh ks
 have hz : ks.contains z = false := by
  rw [← Bool.not_eq_true, List.contains_iff_mem]
  exact fun h => Nat.lt_irrefl _ (hz z h)
 let G := (e.o z).gen
 let O1 : Obj := ⟨G + 1, true, 0, []⟩
 let s1 : Nat → C := fun t => if t ∈ ps.map Prod.fst then midNV z G (e.s t) (S t) else e.s t
 let b : Nat → Prop := fun i => ks.contains i = true ∧ ns.lookup i = none
 let o1 : Nat → EObj := fun i => if i = z then ⟨G + 1, true, 0, .many []⟩ else if b i then ⟨(e.o i).gen, (e.o i).rw, (e.o i).es, midD z G (e.o i).dat (X i).dat⟩ else e.o i
 have ho1 : ∀ i, i ≠ z → (o1 i).gen = (e.o i).gen ∧ (o1 i).rw = (e.o i).rw ∧ (o1 i).es = (e.o i).es := by
  intro i hi
  simp only [o1, if_neg hi]
  split <;> exact ⟨rfl, rfl, rfl⟩
 have hO1 : toO o1 z = O1 := by simp [toO, o1, EObj.toObj, ED.rows, O1]
 have hgk : ∀ i, ks.contains i = true → ((frzE z ⟨s1, o1⟩).o i).gen = (e.o i).gen := by
  intro i hi
  have hne : i ≠ z := fun h => by rw [h, hz] at hi; cases hi
  rw [frzE_ne _ hne]
  exact (ho1 i hne).1
 have cell := fun c c' => @midN_cell e ns ks z hz (frzE z ⟨s1, o1⟩).o hgk c c'
 have hlen : ∀ {cs cs' : List C}, pinL (RZ [] e.o ks ns) cs cs' → pinL (pinC (frzE z ⟨s1, o1⟩).o ks ns) ((List.zipWith (midN z G) cs cs').map (frzC z O1)) cs' := by
  intro cs cs' h
  have := pinL_map (f := fun c c' => frzC z O1 (midN z G c c')) h fun c _ c' hq => cell c c' hq
  rw [List.map_zipWith]; exact this
 refine ⟨frzE z ⟨s1, o1⟩, ⟨fun p hp => ?_, fun p hp => ?_⟩, fun st' hw => ?_, hgk⟩
 ·have hsp := h.s p hp
  have e1 : s1 p.1 = midNV z G (e.s p.1) p.2 := by
   have : p.1 ∈ ps.map Prod.fst := List.mem_map.2 ⟨p, hp, rfl⟩
   simp only [s1, if_pos this, hS p hp]
  show pinA _ (frzV z (toO o1 z) (s1 p.1)) p.2
  rw [e1, hO1]
  generalize e.s p.1 = c at hsp
  generalize p.2 = c' at hsp
  unfold pinA at hsp
  split at hsp
  ·rename_i cs
   split at hsp
   ·exact hlen hsp
   ·exact hsp.elim
  ·rename_i g caps
   split at hsp
   ·rename_i g' caps'
    split at hsp
    ·rename_i hp'
     show pinA _ (.fn g caps) _
     unfold pinA
     simp only
     rw [if_pos hp']
     refine ⟨hsp.1, pinL_imp hsp.2 fun c hc c' hq => ?_⟩
     have := cell c c' hq
     rw [List.all_eq_true] at hp'
     have hpc := hp' c hc
     cases c <;> simp [isPtr] at hpc
     exact this
    ·exact hsp.elim
   ·exact hsp.elim
  ·rename_i n1 n2
   have key := cell c c' hsp
   have e2 : midNV z G c c' = midN z G c c' := by
    unfold midNV; split
    ·exact absurd rfl (n1 _)
    ·rfl
   rw [e2]
   cases c with
   | agg cs => exact absurd rfl (n1 _)
   | fn g caps => exact absurd rfl (n2 _ _)
   | tup vs => exact (hsp.1 : False).elim
   | nils =>
    cases c' with
    | sl a =>
     have e3 : frzC z O1 (midN z G .nils (.sl a)) = .sl [] := by simp [midN, frzC, O1]
     have e4 : frzV z O1 (midN z G .nils (.sl a)) = frzC z O1 (midN z G .nils (.sl a)) := rfl
     rw [e4, e3]
     rw [show frzC z ⟨(e.o z).gen + 1, true, 0, []⟩ (midN z (e.o z).gen .nils (.sl a)) = .sl [] from e3] at key
     exact key
    | _ => first | exact key | exact (hsp.1 : False).elim
   | ref i g es b l =>
    have e4 : frzV z O1 (midN z G (.ref i g es b l) c') = frzC z O1 (.ref i g es b l) := rfl
    rw [e4]
    have key : pinC _ ks ns (frzC z O1 (.ref i g es b l)) c' := key
    have hs : frzC z O1 (.ref i g es b l) = .ref i g es b l ∨ ∃ a, frzC z O1 (.ref i g es b l) = .sl a := by
     unfold frzC; simp only; split
     ·exact .inr ⟨_, rfl⟩
     ·exact .inl rfl
    rcases hs with e1 | ⟨a, e1⟩ <;> rw [e1] at key ⊢ <;> exact key
   | _ => exact key
 ·have hop := h.o p hp
  have hpk : ks.contains p.1 = true := by rw [List.contains_iff_mem, ← hks]; exact List.mem_map.2 ⟨p, hp, rfl⟩
  have hne : p.1 ≠ z := fun h => by rw [h, hz] at hpk; cases hpk
  rcases hop with h1 | ⟨h1, h2, h3, h4, h5⟩
  ·exact .inl h1
  ·have hb : b p.1 := ⟨hpk, h1⟩
   have e1 : o1 p.1 = ⟨(e.o p.1).gen, (e.o p.1).rw, (e.o p.1).es, midD z G (e.o p.1).dat p.2.dat⟩ := by
    simp only [o1, if_neg hne, if_pos hb, hX p hp]
   refine .inr ⟨h1, h2, ?_, ?_, ?_⟩
   ·rw [frzE_ne _ hne]; show _ = (o1 p.1).rw; rw [e1]; exact h3
   ·rw [frzE_ne _ hne]; show _ = (o1 p.1).es; rw [e1]; exact h4
   ·rw [frzE_ne _ hne]
    simp only
    rw [e1, hO1]
    rcases h5 with ⟨r, r', h6, h7, h8⟩ | ⟨rows, rows', h6, h7, h8⟩
    ·exact .inl ⟨_, r', by rw [h6, h7]; rfl, h7, hlen h8⟩
    ·refine .inr ⟨_, rows', by rw [h6, h7]; rfl, h7, by simp [h8.1], fun k r r' hr hr' => ?_⟩
     rw [List.getElem?_map, Option.map_eq_some_iff] at hr
     obtain ⟨r0, hr0, rfl⟩ := hr
     rw [List.getElem?_zipWith, hr'] at hr0
     cases h9 : rows[k]? with
     | none => rw [h9] at hr0; cases hr0
     | some r1 =>
      rw [h9] at hr0
      cases hr0
      exact hlen (h8.2 k r1 r' h9 hr')
 ·refine .nref (fun i => if i = z then some 0 else none) (s' := s1) (o' := toO o1) (fun t => ?_) (fun i es hi => ?_) (fun i hi => ?_) (.frz z ?_ (by rw [show (⟨s1, toO o1⟩ : St) = (⟨s1, o1⟩ : ESt).toSt from rfl, ← frzE_toSt]; exact hw))
  ·show nrA (toO e.o) _ (e.s t) (s1 t)
   simp only [s1]
   have refl : ∀ c, nrA (toO e.o) (fun i => if i = z then some 0 else none) c c := by
    intro c
    cases c with
    | agg cs => exact ⟨rfl, fun i c c' h1 h2 => by rw [h1] at h2; cases h2; exact .inl rfl⟩
    | _ => exact .inl rfl
   split
   ·rename_i ht
    obtain ⟨p, hp, rfl⟩ := List.mem_map.1 ht
    have hsp := h.s p hp
    rw [hS p hp] at hsp
    generalize e.s p.1 = c at hsp ⊢
    generalize S p.1 = c' at hsp ⊢
    unfold midNV
    split
    ·exact nr_zip (z := z) (o := toO e.o) (g := G) rfl (pinL_iff.1 hsp).1
    ·rename_i n1
     unfold midN
     split
     ·unfold nrA; exact .inr ⟨rfl, z, 0, by simp, rfl⟩
     ·exact refl _
   ·exact refl _
  ·by_cases e0 : i = z
   ·subst e0
    rw [if_pos rfl] at hi
    cases hi
    show toO o1 i = _
    rw [hO1]
    rfl
   ·rw [if_neg e0] at hi; cases hi
  ·have hne : i ≠ z := fun h => by simp [h] at hi
   show NrO (toO e.o) _ (toO e.o i) (toO o1 i)
   by_cases hb : b i
   ·have e1 : o1 i = ⟨(e.o i).gen, (e.o i).rw, (e.o i).es, midD z G (e.o i).dat (X i).dat⟩ := by simp only [o1, if_neg hne, if_pos hb]
    have hmem : ∃ p ∈ os, p.1 = i := by
     have := hb.1
     rw [List.contains_iff_mem, ← hks] at this
     obtain ⟨p, hp, e⟩ := List.mem_map.1 this
     exact ⟨p, hp, e⟩
    obtain ⟨p, hp, rfl⟩ := hmem
    rcases h.o p hp with ⟨es, h1, _⟩ | ⟨h1, h2, h3, h4, h5⟩
    ·rw [hb.2] at h1; cases h1
    ·rw [hX p hp] at h5
     rcases h5 with ⟨r, r', h6, h7, h8⟩ | ⟨rows, rows', h6, h7, h8⟩
     ·have q : toO o1 p.1 = ⟨(e.o p.1).gen, (e.o p.1).rw, (e.o p.1).es, [List.zipWith (midN z G) r r']⟩ := by simp only [toO, e1, h6, h7]; rfl
      have q0 : toO e.o p.1 = ⟨(e.o p.1).gen, (e.o p.1).rw, (e.o p.1).es, [r]⟩ := by simp only [toO, EObj.toObj, h6]; rfl
      rw [q, q0]
      refine ⟨rfl, rfl, rfl, rfl, fun k a a' ha ha' => ?_⟩
      cases k with
      | zero => simp at ha ha'; subst ha; subst ha'; exact nr_zip (z := z) (o := toO e.o) (g := G) rfl (pinL_iff.1 h8).1
      | succ k => simp at ha
     ·have q : toO o1 p.1 = ⟨(e.o p.1).gen, (e.o p.1).rw, (e.o p.1).es, List.zipWith (List.zipWith (midN z G)) rows rows'⟩ := by simp only [toO, e1, h6, h7]; rfl
      have q0 : toO e.o p.1 = ⟨(e.o p.1).gen, (e.o p.1).rw, (e.o p.1).es, rows⟩ := by simp only [toO, EObj.toObj, h6]; rfl
      rw [q, q0]
      refine ⟨rfl, rfl, rfl, by simp [h8.1], fun k a a' ha ha' => ?_⟩
      have ha : rows[k]? = some a := ha
      rw [List.getElem?_zipWith, ha] at ha'
      have hlt : k < rows'.length := by rw [h8.1]; exact (List.getElem?_eq_some_iff.1 ha).1
      rw [List.getElem?_eq_getElem hlt] at ha'
      cases ha'
      exact nr_zip (z := z) (o := toO e.o) (g := G) rfl (pinL_iff.1 (h8.2 k a _ ha (List.getElem?_eq_getElem hlt))).1
   ·have e1 : o1 i = e.o i := by simp only [o1, if_neg hne, if_neg hb]
    have : toO o1 i = toO e.o i := by simp only [toO, e1]
    rw [this]
    exact ⟨rfl, rfl, rfl, rfl, fun k r r' h1 h2 => by rw [h1] at h2; cases h2; exact ⟨rfl, fun j c c' h3 h4 => by rw [h3] at h4; cases h4; exact .inl rfl⟩⟩
  ·show (toO o1 z).rows.all _ = true
   rw [hO1]; rfl
theorem pinQ_pinned (hks : os.map Prod.fst = ks) (h : PinQ (pinC e.o ks ns) e ns ps os) : Pinned e ns ps os := by
 have hcs : ∀ {cs cs' : List C}, pinL (pinC e.o ks ns) cs cs' → pinCs e.o ks ns cs cs' := fun h => pinCs_iff.2 (pinL_iff.1 h)
 subst hks
 refine ⟨?_, fun B hB => ?_⟩
 ·have hs := h.s
  clear h
  revert hs hcs
  generalize os.map Prod.fst = ks
  intro hcs hs
  induction ps with
  | nil => trivial
  | cons p l ih =>
   obtain ⟨t, c⟩ := p
   refine ⟨?_, ih fun p hp => hs p (by simp [hp])⟩
   have h := hs (t, c) (by simp)
   unfold pinA at h
   unfold pinV
   split at h
   ·rename_i cs e1
    simp only at h e1
    rw [e1]
    simp only
    split at h
    ·exact hcs h
    ·exact h.elim
   ·rename_i g caps e1
    simp only at h e1
    rw [e1]
    simp only
    cases c with
    | fn g' caps' =>
     simp only at h ⊢
     split at h
     ·rename_i hp; rw [if_pos hp]; exact ⟨h.1, hcs h.2⟩
     ·exact h.elim
    | _ => exact h.elim
   ·rename_i n1 n2
    simp only at h n1 n2
    split
    ·rename_i e1; exact absurd e1 (n1 _)
    ·rename_i e1; exact absurd e1 (n2 _ _)
    ·exact h
 ·have ho := h.o
  clear h
  revert ho hcs hB
  generalize os.map Prod.fst = ks
  intro hcs hB ho
  induction os with
  | nil => trivial
  | cons p l ih =>
   obtain ⟨i, x⟩ := p
   refine ⟨?_, ih fun p hp => ho p (by simp [hp])⟩
   rcases ho (i, x) (by simp) with ⟨es, h1, h2, h3, h4, h5⟩ | ⟨h1, h2, h3, h4, h5⟩
   ·simp only at h1 h2 h3 h4 h5
    rw [h1]
    simp only
    rw [if_pos ⟨h2, h3, h4⟩, h5]
   ·simp only at h1 h2 h3 h4 h5
    rw [h1]
    simp only
    rw [if_pos ⟨h2, h3, h4⟩]
    rcases h5 with ⟨r, r', h6, h7, h8⟩ | ⟨rows, rows', h6, h7, h8⟩
    ·rw [h6, h7]; exact hcs h8
    ·rw [h6, h7]; exact hB _ _ _ ⟨h8.1, fun k r r' h9 h10 => hcs (h8.2 k r r' h9 h10)⟩
theorem updL_self {α : Type} (f : Nat → α) (l : List (Nat × α)) : ∀ m : List (Nat × α), (∀ p ∈ m, p ∈ l) → (∀ t, t ∈ l.map Prod.fst → t ∉ m.map Prod.fst → False) → updL f (m.map fun p => (p.1, updL f l p.1)) = updL f l := by
 intro m hm hc
 funext t
 rcases updL_get f t (m.map fun p => (p.1, updL f l p.1)) with ⟨v, h1, h2⟩ | ⟨h1, h2⟩
 ·rw [h2]
  obtain ⟨p, _, e⟩ := List.mem_map.1 h1
  cases e; rfl
 ·rw [h2]
  have h1 : t ∉ m.map Prod.fst := by simpa using h1
  rcases updL_get f t l with ⟨v, h3, h4⟩ | ⟨h3, h4⟩
  ·exact (hc t (List.mem_map.2 ⟨_, h3, rfl⟩) h1).elim
  ·rw [h4]
theorem pinZ_wkN {n : Nat} (h : PinnedZ e ns ps os) (hN : ∀ i, i < n → (os.map Prod.fst).contains i = true ∧ (e.o i).gen = 0 ∧ ns.lookup i = none) : Wk (some n) e.toSt (pinS ps os).toSt := by
 classical
 have hq := h.toQ
 generalize hks : os.map Prod.fst = ks at *
 let S : Nat → C := updL (fun _ => .undef) ps
 let X : Nat → EObj := updL (fun _ => blankE) os
 let ps1 := ps.map fun p => (p.1, S p.1)
 let os1 := os.map fun p => (p.1, X p.1)
 have hks1 : os1.map Prod.fst = ks := by rw [← hks]; simp [os1, Function.comp_def]
 have hq1 : PinQ (pinZ e.o ks ns) e ns ps1 os1 := by
  refine ⟨fun p hp => ?_, fun p hp => ?_⟩
  ·obtain ⟨p0, hp0, rfl⟩ := List.mem_map.1 hp
   rcases updL_get (fun _ => C.undef) p0.1 ps with ⟨v, h1, h2⟩ | ⟨h1, _⟩
   ·show pinA _ (e.s p0.1) (updL (fun _ => C.undef) ps p0.1)
    rw [h2]; exact hq.s _ h1
   ·exact absurd (List.mem_map.2 ⟨p0, hp0, rfl⟩) h1
  ·obtain ⟨p0, hp0, rfl⟩ := List.mem_map.1 hp
   rcases updL_get (fun _ => blankE) p0.1 os with ⟨v, h1, h2⟩ | ⟨h1, _⟩
   ·have := hq.o _ h1
    simp only at this ⊢
    rw [show X p0.1 = v from h2]; exact this
   ·exact absurd (List.mem_map.2 ⟨p0, hp0, rfl⟩) h1
 let ids : List Nat := (ps1.flatMap fun p => (e.s p.1).cells.flatMap refId) ++ os1.flatMap fun p => (e.o p.1).dat.rows.flatMap (List.flatMap refId)
 let fs := ids.filter fun id => !ks.contains id && (e.o id).dat.rows.all (List.all · closedCell)
 have hfs : ∀ id ∈ fs, ks.contains id = false ∧ ∀ r ∈ (e.o id).dat.rows, r.all closedCell = true := by
  intro id hid
  have := (List.mem_filter.1 hid).2
  simp only [Bool.and_eq_true, Bool.not_eq_true'] at this
  refine ⟨this.1, fun r hr => ?_⟩
  have h2 := this.2
  rw [List.all_eq_true] at h2
  exact h2 r hr
 have up : ∀ c c', refId c ⊆ ids → pinZ e.o ks ns c c' → RZ fs e.o ks ns c c' := by
  intro c c' hc hp
  refine ⟨hp, fun id g es b l a e1 e2 => ?_⟩
  subst e1; subst e2
  unfold pinZ at hp
  simp only at hp
  split at hp
  ·by_cases hk : ks.contains id = true
   ·rw [if_pos hk] at hp; split at hp <;> exact hp.elim
   ·rw [if_neg hk] at hp
    split at hp
    ·rename_i rows hd
     refine List.mem_filter.2 ⟨hc (by simp [refId]), ?_⟩
     simp only [Bool.and_eq_true, Bool.not_eq_true']
     refine ⟨by simpa using hk, ?_⟩
     rw [hd, List.all_eq_true]
     exact hp.1.2
    ·exact hp.elim
  ·exact hp.elim
 have hq2 : PinQ (RZ fs e.o ks ns) e ns ps1 os1 := by
  refine ⟨fun p hp => ?_, fun p hp => ?_⟩
  ·refine pinA_imp (hq1.s p hp) (fun d hd d' => up d d' fun i hi => ?_) (fun g caps e1 d hd d' hq => ?_)
   ·exact List.mem_append_left _ (List.mem_flatMap.2 ⟨p, hp, List.mem_flatMap.2 ⟨d, hd, hi⟩⟩)
   ·have := hq1.s p hp
    rw [e1] at this
    unfold pinA at this
    simp only at this
    split at this
    ·split at this
     ·rename_i hpp
      rw [List.all_eq_true] at hpp
      have := hpp d hd
      exact up d d' (by cases d <;> simp [isPtr] at this; simp [refId]) hq
     ·exact this.elim
    ·exact this.elim
  ·rcases hq1.o p hp with h1 | ⟨h1, h2, h3, h4, h5⟩
   ·exact .inl h1
   ·refine .inr ⟨h1, h2, h3, h4, ?_⟩
    have hin : ∀ r ∈ (e.o p.1).dat.rows, ∀ d ∈ r, refId d ⊆ ids := fun r hr d hd i hi =>
     List.mem_append_right _ (List.mem_flatMap.2 ⟨p, hp, List.mem_flatMap.2 ⟨r, hr, List.mem_flatMap.2 ⟨d, hd, hi⟩⟩⟩)
    rcases h5 with ⟨r, r', h6, h7, h8⟩ | ⟨rows, rows', h6, h7, h8⟩
    ·exact .inl ⟨r, r', h6, h7, pinL_imp h8 fun d hd d' => up d d' (hin r (by rw [h6]; simp [ED.rows]) d hd)⟩
    ·exact .inr ⟨rows, rows', h6, h7, rowsZ_imp h8 fun r hr d hd d' => up d d' (hin r (by rw [h6]; exact hr) d hd)⟩
 obtain ⟨e1, r1, r2, r3⟩ := pinQ_frzs (rg := some n) hks1 fs e hfs hq2
 obtain ⟨e2, t1, t2, t3⟩ := pinQ_nil (rg := some n) hks1 S X (fun p hp => by obtain ⟨p0, _, rfl⟩ := List.mem_map.1 hp; rfl) (fun p hp => by obtain ⟨p0, _, rfl⟩ := List.mem_map.1 hp; rfl) r1
 have hp := pinQ_pinned hks1 t1
 have hw := pin_wkN (n := n) hp (fun i hi => by
  obtain ⟨a1, a2, a3⟩ := hN i hi
  refine ⟨by rw [hks1]; exact a1, by rw [t3 i a1, r3 i a1]; exact a2, a3⟩)
 have e3 : pinS ps1 os1 = pinS ps os := by
  unfold pinS
  congr 1
  ·exact updL_self _ ps ps (fun _ h => h) (fun t h1 h2 => h2 h1)
  ·exact updL_self _ os os (fun _ h => h) (fun t h1 h2 => h2 h1)
 rw [← e3]
 exact r2 _ (t2 _ hw)
def mvE (i j : Nat) (e : ESt) : ESt := ⟨fun t => mvV (toO e.o) i j (e.s t), fun k => if k = j then ⟨(e.o j).gen + 1, (e.o i).rw, (e.o i).es, match (e.o i).dat with | .one r => .one (r.map (mvC (toO e.o) i j)) | .many rows => .many rows⟩ else if k = i then ⟨(e.o i).gen + 1, true, 0, .many []⟩ else ⟨(e.o k).gen, (e.o k).rw, (e.o k).es, match (e.o k).dat with | .one r => .one (r.map (mvC (toO e.o) i j)) | .many rows => .many rows⟩⟩
theorem mvE_wk {i j : Nat} (hij : i ≠ j) {st' : St} (h : Wk rg (mvE i j e).toSt st') : Wk rg e.toSt st' := by
 refine .mv i j hij (o' := toO (mvE i j e).o) (fun k => ?_) h
 show MvO (toO e.o) i j (toO (mvE i j e).o) k
 have hd : ∀ k0 : Nat, (match (e.o k0).dat with | .one r => ED.one (r.map (mvC (toO e.o) i j)) | .many rows => .many rows).rows = ((toO e.o k0).rows.map (List.map (mvC (toO e.o) i j))) ∨ (match (e.o k0).dat with | .one r => ED.one (r.map (mvC (toO e.o) i j)) | .many rows => .many rows).rows = (toO e.o k0).rows := by
  intro k0
  show _ = ((e.o k0).dat.rows).map _ ∨ _ = (e.o k0).dat.rows
  cases (e.o k0).dat with
  | one r => exact .inl rfl
  | many rows => exact .inr rfl
 by_cases e1 : k = j
 ·subst e1
  have q : (mvE i k e).o k = ⟨(e.o k).gen + 1, (e.o i).rw, (e.o i).es, match (e.o i).dat with | .one r => .one (r.map (mvC (toO e.o) i k)) | .many rows => .many rows⟩ := if_pos rfl
  have q2 : mvO (toO e.o) i k k = ⟨(e.o k).gen + 1, (e.o i).rw, (e.o i).es, (toO e.o i).rows.map (List.map (mvC (toO e.o) i k))⟩ := if_pos rfl
  refine ⟨?_, ?_, ?_, ?_⟩
  ·show ((mvE i k e).o k).gen = _; rw [q, q2]
  ·show ((mvE i k e).o k).rw = _; rw [q, q2]
  ·show ((mvE i k e).o k).es = _; rw [q, q2]
  ·show ((mvE i k e).o k).dat.rows = _ ∨ _ ∧ ((mvE i k e).o k).dat.rows = _
   rw [q, q2, if_pos rfl]
   exact (hd i).imp id fun h => ⟨hij.symm, h⟩
 ·by_cases e2 : k = i
  ·subst e2
   have q : (mvE k j e).o k = ⟨(e.o k).gen + 1, true, 0, .many []⟩ := by show (if k = j then _ else if k = k then _ else _) = _; rw [if_neg e1, if_pos rfl]
   have q2 : mvO (toO e.o) k j k = ⟨(e.o k).gen + 1, true, 0, []⟩ := by unfold mvO; rw [if_neg e1, if_pos rfl]; rfl
   refine ⟨?_, ?_, ?_, .inl ?_⟩
   ·show ((mvE k j e).o k).gen = _; rw [q, q2]
   ·show ((mvE k j e).o k).rw = _; rw [q, q2]
   ·show ((mvE k j e).o k).es = _; rw [q, q2]
   ·show ((mvE k j e).o k).dat.rows = _; rw [q, q2]; rfl
  ·have q : (mvE i j e).o k = ⟨(e.o k).gen, (e.o k).rw, (e.o k).es, match (e.o k).dat with | .one r => .one (r.map (mvC (toO e.o) i j)) | .many rows => .many rows⟩ := by show (if k = j then _ else if k = i then _ else _) = _; rw [if_neg e1, if_neg e2]
   have q2 : mvO (toO e.o) i j k = ⟨(e.o k).gen, (e.o k).rw, (e.o k).es, (toO e.o k).rows.map (List.map (mvC (toO e.o) i j))⟩ := by unfold mvO; rw [if_neg e1, if_neg e2]; rfl
   refine ⟨?_, ?_, ?_, ?_⟩
   ·show ((mvE i j e).o k).gen = _; rw [q, q2]
   ·show ((mvE i j e).o k).rw = _; rw [q, q2]
   ·show ((mvE i j e).o k).es = _; rw [q, q2]
   ·show ((mvE i j e).o k).dat.rows = _ ∨ _ ∧ ((mvE i j e).o k).dat.rows = _
    rw [q, q2, if_neg e1]
    exact (hd k).imp id fun h => ⟨e2, h⟩
def mvEs : List (Nat × Nat) → ESt → ESt
 | [], e => e
 | (i, j) :: r, e => mvEs r (mvE i j e)
theorem mvEs_wk : ∀ {l : List (Nat × Nat)} {e : ESt} {st' : St}, (l.all fun p => p.1 != p.2) = true → Wk rg (mvEs l e).toSt st' → Wk rg e.toSt st'
 | [], _, _, _, h => h
 | (i, j) :: r, e, st', hl, h => by
  rw [List.all_cons, Bool.and_eq_true] at hl
  exact mvE_wk (by simpa using hl.1) (mvEs_wk hl.2 h)
variable {P : Program} {G : Glob} {fx : Bool}
theorem loop_pinsZ {n : Nat} {A : Bx} (hA : IsBx fx (some n) P G A) {α : Type} {body : (Ex → ESt → Prop) → ESt → Prop} {Q : Ex → ESt → Prop} {e : ESt} (pins : α → List (Nat × C)) (objs : α → List (Nat × EObj)) (φ : α → Prop) (μ : α → Nat) (ns : List (Nat × Nat)) (x0 : α)
  (h0 : φ x0) (hp : PinnedZ e ns (pins x0) (objs x0)) (hN : ∀ i, i < n → ((objs x0).map Prod.fst).contains i = true ∧ (e.o i).gen = 0 ∧ ns.lookup i = none)
  (hr : ∀ x, φ x → body (fun ex s' => match ex with | .nml => ∃ x', φ x' ∧ μ x' < μ x ∧ Wk (some n) s'.toSt (pinS (pins x') (objs x')).toSt | ex => Q ex s') (pinS (pins x) (objs x))) : A.loop body Q e := by
 rw [hA.loop]
 unfold loopB
 exact ⟨α, fun x => pinS (pins x) (objs x), φ, μ, ⟨x0, h0, pinZ_wkN hp hN⟩, fun x hx _ => hr x hx⟩
theorem rows_dirty {zs rows : List (List C)} {k : Nat} {row row' : List C} (hd : zs = rows.set k row) (hk : rows[k]? = some row') (hc : ∀ r ∈ rows, r.all closedCell = true) {o : Nat → EObj} (h : pinL (pinZ o ks ns) row row') : rowsZ (pinZ o ks ns) zs rows := by
 subst hd
 refine ⟨by simp, fun j r r' h1 h2 => ?_⟩
 by_cases e : k = j
 ·subst e
  rw [h2] at hk
  cases hk
  have hlt := (List.getElem?_eq_some_iff.1 h2).1
  rw [List.getElem?_set_self hlt] at h1
  cases h1
  exact h
 ·rw [List.getElem?_set_ne e] at h1
  rw [h1] at h2
  cases h2
  have hr := hc r (List.mem_of_getElem? h1)
  rw [List.all_eq_true] at hr
  refine pinL_iff.2 ⟨rfl, fun j c c' h3 h4 => ?_⟩
  rw [h3] at h4
  cases h4
  have := hr c (List.mem_of_getElem? h3)
  cases c <;> simp [closedCell] at this <;> simp [pinZ, pinC]
theorem rows_same {rows rows' : List (List C)} {o : Nat → EObj} (h : rows' = rows) (hc : ∀ r ∈ rows, r.all closedCell = true) : rowsZ (pinZ o ks ns) rows rows' := by
 subst h
 refine ⟨rfl, fun k r r' hr hr' => ?_⟩
 rw [hr] at hr'
 cases hr'
 have hr := hc r (List.mem_of_getElem? hr)
 rw [List.all_eq_true] at hr
 refine pinL_iff.2 ⟨rfl, fun j c c' h1 h2 => ?_⟩
 rw [h1] at h2
 cases h2
 have := hr c (List.mem_of_getElem? h1)
 cases c <;> simp [closedCell] at this <;> simp [pinZ, pinC]
end
end Go.Proofs.YtchpopejojghmaaGreatDoor.M
