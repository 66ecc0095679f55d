/- Rows with a hole: one row's slice is an own object; rows whose slices are still nil. -/
import Derived.Test.YtchpopejojghmaaGreatDoorD2
set_option linter.unusedVariables false
set_option linter.unusedSimpArgs false
set_option linter.unusedSectionVars false
namespace Go.Proofs.YtchpopejojghmaaGreatDoor.M
open Go Go.Proofs
structure Slot00 where
 given : Bool
 deriving DecidableEq
structure Slot0 where
 given : Bool
 list : List Int
 deriving DecidableEq
theorem eta_Slot0 (x : Slot0) : (⟨x.given, x.list⟩ : Slot0) = x := rfl
def eSlot00 (x : Slot00) : List C := [.bool x.given, .nils, .nils]
def eSlot0 (x : Slot0) : List C := [.bool x.given, .sl (x.list.map eI), .nils]
structure Vh where
 rSlot00 : List Slot00 → List (List C)
 nSlot00 : List Slot00 → Nat
 rSlot0 : List Slot0 → List (List C)
 nSlot0 : List Slot0 → Nat
 h1 : List Slot0 → Nat → C → List (List C)
 h2 : List Slot0 → Nat → C → List (List C)
structure IsVh (W : Vh) : Prop where
 rSlot00 : ∀ l, W.rSlot00 l = l.map eSlot00
 nSlot00 : ∀ l, W.nSlot00 l = l.length
 rSlot0 : ∀ l, W.rSlot0 l = l.map eSlot0
 nSlot0 : ∀ l, W.nSlot0 l = l.length
 h1 : ∀ l m c, W.h1 l m c = (l.map eSlot0).modify m fun r => r.set 1 c
 h2 : ∀ l m c, W.h2 l m c = (l.map eSlot0).modify m fun r => r.set 2 c
theorem exW : ∃ W, IsVh W := ⟨⟨fun l => l.map eSlot00, fun l => l.length, fun l => l.map eSlot0, fun l => l.length, fun l m c => (l.map eSlot0).modify m fun r => r.set 1 c, fun l m c => (l.map eSlot0).modify m fun r => r.set 2 c⟩, ⟨fun _ => rfl, fun _ => rfl, fun _ => rfl, fun _ => rfl, fun _ _ _ => rfl, fun _ _ _ => rfl⟩⟩
def up00 (s : Slot00) : Slot0 := ⟨s.given, []⟩
def upL (l : List Slot0) (m : Nat) (is : List Int) : List Slot0 := l.modify m fun s => ⟨s.given, is⟩
def upP (l : List Slot0) (m : Nat) (ps : List Pair) : List Slot := (l.map fun s => (⟨s.given, s.list, []⟩ : Slot)).modify m fun s => ⟨s.given, s.list, ps⟩
section
variable {R : Type} {r : R} {V : Vx} {W : Vh}
def rnSlot0 (l : List Slot0) (j : Nat) (f : Bool → List Int → Option R) : Option R := match l[j]? with | some x => f x.given x.list | none => none
theorem rnSlot0_ok {l : List Slot0} {j : Nat} {f : Bool → List Int → Option R} {x : Slot0} (e : l[j]? = some x) : rnSlot0 l j f = f x.given x.list := by simp only [rnSlot0, e]
theorem rnSlot0_eq {l : List Slot0} {j : Nat} {f : Bool → List Int → Option R} (H : rnSlot0 l j f = some r) : ∃ x, l[j]? = some x ∧ f x.given x.list = some r := by
 unfold rnSlot0 at H
 cases e : l[j]? with
 | none => rw [e] at H; cases H
 | some x => rw [e] at H; exact ⟨x, rfl, H⟩
theorem row0 (hV : IsV V) {l : List Slot0} {j : Nat} {x : Slot0} (e : l[j]? = some x) : (l.map eSlot0)[j]? = some [.bool x.given, .sl (V.rI x.list), .nils] := by rw [List.getElem?_map, e]; simp [eSlot0, hV.rI]
theorem rowh1 (hV : IsV V) (hW : IsVh W) {l : List Slot0} {j m : Nat} {c : C} {x : Slot0} (e : l[j]? = some x) : (W.h1 l m c)[j]? = some [.bool x.given, if m = j then c else .sl (V.rI x.list), .nils] := by
 rw [hW.h1, List.getElem?_modify, row0 hV e]
 by_cases h : m = j <;> simp [h]
theorem rowh2 (hV : IsV V) (hW : IsVh W) {l : List Slot0} {j m : Nat} {c : C} {x : Slot0} (e : l[j]? = some x) : (W.h2 l m c)[j]? = some [.bool x.given, .sl (V.rI x.list), if m = j then c else .nils] := by
 rw [hW.h2, List.getElem?_modify, row0 hV e]
 by_cases h : m = j <;> simp [h]
theorem lenh1 (hW : IsVh W) {l : List Slot0} {m : Nat} {c : C} : (W.h1 l m c).length = l.length := by rw [hW.h1]; simp
theorem lenh2 (hW : IsVh W) {l : List Slot0} {m : Nat} {c : C} : (W.h2 l m c).length = l.length := by rw [hW.h2]; simp
theorem some_lt {α : Type} {l : List α} {j : Nat} {x : α} (e : l[j]? = some x) : j < l.length := (List.getElem?_eq_some_iff.1 e).1
theorem s_rnSlot0 (hV : IsV V) (hW : IsVh W) {l : List Slot0} {j : Nat} {f : Bool → List Int → Option R} {K : List C → Prop} (H : rnSlot0 l j f = some r) (h : ∀ c0 c1, f c0 c1 = some r → K [.bool c0, .sl (V.rI c1), .nils]) : (Side → j < (W.rSlot0 l).length) ∧ ∀ (row : List C), (W.rSlot0 l)[j]? = some row → K row := by
 obtain ⟨x, e, H⟩ := rnSlot0_eq H
 refine ⟨fun _ => by rw [hW.rSlot0, List.length_map]; exact some_lt e, fun row hr => ?_⟩
 rw [hW.rSlot0, row0 hV e] at hr; cases hr; exact h _ _ H
theorem s_rnh1 (hV : IsV V) (hW : IsVh W) {l : List Slot0} {j m : Nat} {c : C} {f : Bool → List Int → Option R} {K : List C → Prop} (H : rnSlot0 l j f = some r) (h : ∀ c0 c1 x, f c0 c1 = some r → K [.bool c0, x, .nils]) : (Side → j < (W.h1 l m c).length) ∧ ∀ (row : List C), (W.h1 l m c)[j]? = some row → K row := by
 obtain ⟨x, e, H⟩ := rnSlot0_eq H
 refine ⟨fun _ => by rw [lenh1 hW]; exact some_lt e, fun row hr => ?_⟩
 rw [rowh1 hV hW e] at hr; cases hr; exact h _ _ _ H
theorem s_rnh2 (hV : IsV V) (hW : IsVh W) {l : List Slot0} {j m : Nat} {c : C} {f : Bool → List Int → Option R} {K : List C → Prop} (H : rnSlot0 l j f = some r) (h : ∀ c0 c1 x, f c0 c1 = some r → K [.bool c0, .sl (V.rI c1), x]) : (Side → j < (W.h2 l m c).length) ∧ ∀ (row : List C), (W.h2 l m c)[j]? = some row → K row := by
 obtain ⟨x, e, H⟩ := rnSlot0_eq H
 refine ⟨fun _ => by rw [lenh2 hW]; exact some_lt e, fun row hr => ?_⟩
 rw [rowh2 hV hW e] at hr; cases hr; exact h _ _ _ H
theorem s_rnh1m (hV : IsV V) (hW : IsVh W) {l : List Slot0} {j m : Nat} {c : C} {f : Bool → List Int → Option R} {K : List C → Prop} (H : gd (j = m) (rnSlot0 l j f) = some r) (h : ∀ c0 c1, j = m → f c0 c1 = some r → K [.bool c0, c, .nils]) : (Side → j < (W.h1 l m c).length) ∧ ∀ (row : List C), (W.h1 l m c)[j]? = some row → K row := by
 obtain ⟨hm, H⟩ := gd_eq H
 obtain ⟨x, e, H⟩ := rnSlot0_eq H
 refine ⟨fun _ => by rw [lenh1 hW]; exact some_lt e, fun row hr => ?_⟩
 rw [rowh1 hV hW e, if_pos hm.symm] at hr; cases hr; exact h _ _ hm H
theorem s_rnh2m (hV : IsV V) (hW : IsVh W) {l : List Slot0} {j m : Nat} {c : C} {f : Bool → List Int → Option R} {K : List C → Prop} (H : gd (j = m) (rnSlot0 l j f) = some r) (h : ∀ c0 c1, j = m → f c0 c1 = some r → K [.bool c0, .sl (V.rI c1), c]) : (Side → j < (W.h2 l m c).length) ∧ ∀ (row : List C), (W.h2 l m c)[j]? = some row → K row := by
 obtain ⟨hm, H⟩ := gd_eq H
 obtain ⟨x, e, H⟩ := rnSlot0_eq H
 refine ⟨fun _ => by rw [lenh2 hW]; exact some_lt e, fun row hr => ?_⟩
 rw [rowh2 hV hW e, if_pos hm.symm] at hr; cases hr; exact h _ _ hm H
theorem h1_set (hV : IsV V) (hW : IsVh W) {l : List Slot0} {m : Nat} {c c' : C} {b : Bool} {li : List Int} : (W.h1 l m c).set m [.bool b, c', .nils] = W.h1 (l.set m ⟨b, li⟩) m c' := by
 rw [hW.h1, hW.h1, List.map_set]
 refine List.ext_getElem? fun k => ?_
 by_cases h : m = k
 ·subst h
  by_cases hl : m < l.length
  ·rw [List.getElem?_set_self (by simp; exact hl), List.getElem?_modify, List.getElem?_set_self (by simp; exact hl)]; simp [eSlot0]
  ·rw [List.getElem?_eq_none (by simp; omega), List.getElem?_eq_none (by simp; omega)]
 ·rw [List.getElem?_set_ne h, List.getElem?_modify, List.getElem?_modify, List.getElem?_set_ne h]; simp [h]
theorem h2_set (hV : IsV V) (hW : IsVh W) {l : List Slot0} {m : Nat} {c c' : C} {b : Bool} {li : List Int} : (W.h2 l m c).set m [.bool b, .sl (V.rI li), c'] = W.h2 (l.set m ⟨b, li⟩) m c' := by
 rw [hW.h2, hW.h2, List.map_set]
 refine List.ext_getElem? fun k => ?_
 by_cases h : m = k
 ·subst h
  by_cases hl : m < l.length
  ·rw [List.getElem?_set_self (by simp; exact hl), List.getElem?_modify, List.getElem?_set_self (by simp; exact hl)]; simp [eSlot0, hV.rI]
  ·rw [List.getElem?_eq_none (by simp; omega), List.getElem?_eq_none (by simp; omega)]
 ·rw [List.getElem?_set_ne h, List.getElem?_modify, List.getElem?_modify, List.getElem?_set_ne h]; simp [h]
theorem s_seth1m (hV : IsV V) (hW : IsVh W) {l : List Slot0} {j m : Nat} {c c' : C} {b : Bool} {li : List Int} {f : List Slot0 → Option R} {K : List (List C) → Prop} (H : gd (j = m) (lv (l.set j ⟨b, li⟩) f) = some r) (h : ∀ l', W.nSlot0 l' = W.nSlot0 l → f l' = some r → K (W.h1 l' m c')) : ∀ zs, zs = (W.h1 l m c).set j [.bool b, c', .nils] → K zs := by
 obtain ⟨hm_, H2⟩ := gd_eq H
 subst hm_
 rintro zs rfl
 rw [h1_set hV hW (li := li)]
 exact h _ (by rw [hW.nSlot0, hW.nSlot0, List.length_set]) H2
theorem s_seth2m (hV : IsV V) (hW : IsVh W) {l : List Slot0} {j m : Nat} {c c' : C} {b : Bool} {li : List Int} {f : List Slot0 → Option R} {K : List (List C) → Prop} (H : gd (j = m) (lv (l.set j ⟨b, li⟩) f) = some r) (h : ∀ l', W.nSlot0 l' = W.nSlot0 l → f l' = some r → K (W.h2 l' m c')) : ∀ zs, zs = (W.h2 l m c).set j [.bool b, .sl (V.rI li), c'] → K zs := by
 obtain ⟨hm_, H2⟩ := gd_eq H
 subst hm_
 rintro zs rfl
 rw [h2_set hV hW]
 exact h _ (by rw [hW.nSlot0, hW.nSlot0, List.length_set]) H2
theorem s_setSlot0 (hV : IsV V) (hW : IsVh W) {l : List Slot0} {j : Nat} {b : Bool} {li : List Int} {f : List Slot0 → Option R} {K : List (List C) → Prop} (H : lv (l.set j ⟨b, li⟩) f = some r) (h : ∀ l', W.nSlot0 l' = W.nSlot0 l → f l' = some r → K (W.rSlot0 l')) : ∀ zs, zs = (W.rSlot0 l).set j [.bool b, .sl (V.rI li), .nils] → K zs := by
 rintro zs rfl
 have := h _ (by rw [hW.nSlot0, hW.nSlot0, List.length_set]) H
 rw [hW.rSlot0, List.map_set] at this
 rw [hW.rSlot0, hV.rI]; exact this
theorem set_set_row {α : Type} {l : List α} {j : Nat} {a b : α} : (l.set j a).set j b = l.set j b := by simp
theorem h2_setZ (hW : IsVh W) {l : List Slot0} {j m : Nat} {c : C} {x : Slot0} {row : List C} : (W.h2 l m c).set j row = (W.h2 (l.set j x) m c).set j row := by
 rw [hW.h2, hW.h2, List.map_set]
 refine List.ext_getElem? fun k => ?_
 by_cases h : j = k
 ·subst h
  by_cases hl : j < l.length
  ·rw [List.getElem?_set_self (by simp; exact hl), List.getElem?_set_self (by simp; exact hl)]
  ·rw [List.getElem?_eq_none (by simp; omega), List.getElem?_eq_none (by simp; omega)]
 ·rw [List.getElem?_set_ne h, List.getElem?_set_ne h, List.getElem?_modify, List.getElem?_modify, List.getElem?_set_ne h]
theorem h1_setZ (hW : IsVh W) {l : List Slot0} {j m : Nat} {c : C} {x : Slot0} {row : List C} : (W.h1 l m c).set j row = (W.h1 (l.set j x) m c).set j row := by
 rw [hW.h1, hW.h1, List.map_set]
 refine List.ext_getElem? fun k => ?_
 by_cases h : j = k
 ·subst h
  by_cases hl : j < l.length
  ·rw [List.getElem?_set_self (by simp; exact hl), List.getElem?_set_self (by simp; exact hl)]
  ·rw [List.getElem?_eq_none (by simp; omega), List.getElem?_eq_none (by simp; omega)]
 ·rw [List.getElem?_set_ne h, List.getElem?_set_ne h, List.getElem?_modify, List.getElem?_modify, List.getElem?_set_ne h]
theorem set_get {α : Type} {l : List α} {j : Nat} {a x : α} (h : (l.set j a)[j]? = some x) : x = a := by
 have hl := some_lt h
 rw [List.length_set] at hl
 rw [List.getElem?_set_self hl] at h; exact (Option.some.inj h).symm
theorem s_seth2Z (hV : IsV V) (hW : IsVh W) {l : List Slot0} {j m : Nat} {c : C} {b : Bool} {li : List Int} {row : List C} {f : List Slot0 → Option R} {K : List (List C) → Prop} (H : gd (j ≠ m) (lv (l.set j ⟨b, li⟩) f) = some r) (h : ∀ l', W.nSlot0 l' = W.nSlot0 l → f l' = some r → j ≠ m → (∀ x, l'[j]? = some x → x = ⟨b, li⟩) → ∀ zs, zs = (W.h2 l' m c).set j row → K zs) : ∀ zs, zs = (W.h2 l m c).set j row → K zs := by
 obtain ⟨hm, H⟩ := gd_eq H
 rintro zs rfl
 exact h _ (by rw [hW.nSlot0, hW.nSlot0, List.length_set]) H hm (fun x hx => set_get hx) _ (h2_setZ hW)
theorem s_seth1Z (hV : IsV V) (hW : IsVh W) {l : List Slot0} {j m : Nat} {c : C} {b : Bool} {li : List Int} {row : List C} {f : List Slot0 → Option R} {K : List (List C) → Prop} (H : gd (j ≠ m) (lv (l.set j ⟨b, li⟩) f) = some r) (h : ∀ l', W.nSlot0 l' = W.nSlot0 l → f l' = some r → j ≠ m → (∀ x, l'[j]? = some x → x = ⟨b, li⟩) → ∀ zs, zs = (W.h1 l' m c).set j row → K zs) : ∀ zs, zs = (W.h1 l m c).set j row → K zs := by
 obtain ⟨hm, H⟩ := gd_eq H
 rintro zs rfl
 exact h _ (by rw [hW.nSlot0, hW.nSlot0, List.length_set]) H hm (fun x hx => set_get hx) _ (h1_setZ hW)
theorem s_setZSlot0 (hV : IsV V) (hW : IsVh W) {l : List Slot0} {j : Nat} {b : Bool} {li : List Int} {row : List C} {f : List Slot0 → Option R} {K : List (List C) → Prop} (H : lv (l.set j ⟨b, li⟩) f = some r) (h : ∀ l', W.nSlot0 l' = W.nSlot0 l → f l' = some r → (∀ x, l'[j]? = some x → x = ⟨b, li⟩) → ∀ zs, zs = (W.rSlot0 l').set j row → K zs) : ∀ zs, zs = (W.rSlot0 l).set j row → K zs := by
 rintro zs rfl
 refine h _ (by rw [hW.nSlot0, hW.nSlot0, List.length_set]) H (fun x hx => set_get hx) _ ?_
 rw [hW.rSlot0, hW.rSlot0, List.map_set, set_set_row]
theorem s_mkSlot00 (hW : IsVh W) {k : Nat} {f : List Slot00 → Option R} {K : List (List C) → Nat → Prop} (H : lv (List.replicate k ⟨false⟩) f = some r) (h : ∀ l', f l' = some r → K (W.rSlot00 l') (W.nSlot00 l')) : ∀ (j : Nat) rows, j = k → rows = List.replicate j [.bool false, .nils, .nils] → ∀ m, m = rows.length → K rows m :=
 s_mkL hW.rSlot00 hW.nSlot00 rfl H h
/- Told anew. -/
variable {B : (Nat → EObj) → List (List C) → List (List C) → Prop} {ks : List Nat} {ns : List (Nat × Nat)} {o : Nat → EObj} {c c' : C} {l : List Slot0} {m : Nat}
theorem pz_sl {a : List (List C)} : pinZ o ks ns (.sl a) (.sl a) := rfl
theorem pz_bool {b : Bool} : pinZ o ks ns (.bool b) (.bool b) := rfl
theorem pz_nils : pinZ o ks ns .nils .nils := trivial
theorem pz_nilsl : pinZ o ks ns .nils (.sl []) := rfl
theorem rowsZ_of {α : Type} {q : C → C → Prop} {rows rows' : List (List C)} {l : List α} (h1 : rows.length = l.length) (h2 : rows'.length = l.length) (h : ∀ (k : Nat) (x : α), l[k]? = some x → ∃ r r' : List C, rows[k]? = some r ∧ rows'[k]? = some r' ∧ pinL q r r') : rowsZ q rows rows' := by
 refine ⟨by rw [h1, h2], fun k r r' e e' => ?_⟩
 have hk : k < l.length := by rw [← h1]; exact some_lt e
 obtain ⟨r1, r2, e1, e2, hp⟩ := h k _ (List.getElem?_eq_getElem hk)
 rw [e] at e1; rw [e'] at e2; cases e1; cases e2; exact hp
theorem len0 (hW : IsVh W) {l : List Slot0} : (W.rSlot0 l).length = l.length := by rw [hW.rSlot0, List.length_map]
theorem rowr0 (hV : IsV V) (hW : IsVh W) {l : List Slot0} {j : Nat} {x : Slot0} (e : l[j]? = some x) : (W.rSlot0 l)[j]? = some [.bool x.given, .sl (V.rI x.list), .nils] := by rw [hW.rSlot0]; exact row0 hV e
theorem pin_0 (hB : ∀ o rows rows', rowsZ (pinZ o ks ns) rows rows' → B o rows rows') (hV : IsV V) (hW : IsVh W) : B o (W.rSlot0 l) (W.rSlot0 l) :=
 hB _ _ _ (rowsZ_of (len0 hW) (len0 hW) fun k x e => ⟨_, _, rowr0 hV hW e, rowr0 hV hW e, pz_bool, pz_sl, pz_nils, trivial⟩)
theorem pin_0Z (hB : ∀ o rows rows', rowsZ (pinZ o ks ns) rows rows' → B o rows rows') (hV : IsV V) (hW : IsVh W) {zs : List (List C)} {j : Nat} {b : Bool} {li : List Int} {row : List C} (hd : zs = (W.rSlot0 l).set j row) (hx : ∀ x, l[j]? = some x → x = ⟨b, li⟩) (h : pinL (pinZ o ks ns) row [.bool b, .sl (V.rI li), .nils]) : B o zs (W.rSlot0 l) := by
 subst hd
 refine hB _ _ _ (rowsZ_of (by rw [List.length_set, len0 hW]) (len0 hW) fun k x e => ?_)
 by_cases hk : j = k
 ·subst hk
  have := hx x e
  subst this
  exact ⟨_, _, List.getElem?_set_self (by rw [len0 hW]; exact some_lt e), rowr0 hV hW e, h⟩
 ·exact ⟨_, _, (List.getElem?_set_ne hk).trans (rowr0 hV hW e), rowr0 hV hW e, pz_bool, pz_sl, pz_nils, trivial⟩
theorem pin_h1 (hB : ∀ o rows rows', rowsZ (pinZ o ks ns) rows rows' → B o rows rows') (hV : IsV V) (hW : IsVh W) (hc : pinZ o ks ns c c') : B o (W.h1 l m c) (W.h1 l m c') :=
 hB _ _ _ (rowsZ_of (lenh1 hW) (lenh1 hW) fun k x e => ⟨_, _, rowh1 hV hW e, rowh1 hV hW e, pz_bool, by split <;> first | exact hc | exact pz_sl, pz_nils, trivial⟩)
theorem pin_h2 (hB : ∀ o rows rows', rowsZ (pinZ o ks ns) rows rows' → B o rows rows') (hV : IsV V) (hW : IsVh W) (hc : pinZ o ks ns c c') : B o (W.h2 l m c) (W.h2 l m c') :=
 hB _ _ _ (rowsZ_of (lenh2 hW) (lenh2 hW) fun k x e => ⟨_, _, rowh2 hV hW e, rowh2 hV hW e, pz_bool, pz_sl, by split <;> first | exact hc | exact pz_nils, trivial⟩)
theorem pin_h1Z (hB : ∀ o rows rows', rowsZ (pinZ o ks ns) rows rows' → B o rows rows') (hV : IsV V) (hW : IsVh W) {zs : List (List C)} {j : Nat} {b : Bool} {li : List Int} {row : List C} (hd : zs = (W.h1 l m c).set j row) (hj : j ≠ m) (hx : ∀ x, l[j]? = some x → x = ⟨b, li⟩) (hc : pinZ o ks ns c c') (h : pinL (pinZ o ks ns) row [.bool b, .sl (V.rI li), .nils]) : B o zs (W.h1 l m c') := by
 subst hd
 refine hB _ _ _ (rowsZ_of (by rw [List.length_set, lenh1 hW]) (lenh1 hW) fun k x e => ?_)
 by_cases hk : j = k
 ·subst hk
  have := hx x e
  subst this
  have e2 := rowh1 (m := m) (c := c') hV hW e
  rw [if_neg (fun h => hj h.symm)] at e2
  exact ⟨_, _, List.getElem?_set_self (by rw [lenh1 hW]; exact some_lt e), e2, h⟩
 ·exact ⟨_, _, (List.getElem?_set_ne hk).trans (rowh1 hV hW e), rowh1 hV hW e, pz_bool, by split <;> first | exact hc | exact pz_sl, pz_nils, trivial⟩
theorem pin_h2Z (hB : ∀ o rows rows', rowsZ (pinZ o ks ns) rows rows' → B o rows rows') (hV : IsV V) (hW : IsVh W) {zs : List (List C)} {j : Nat} {b : Bool} {li : List Int} {row : List C} (hd : zs = (W.h2 l m c).set j row) (hj : j ≠ m) (hx : ∀ x, l[j]? = some x → x = ⟨b, li⟩) (hc : pinZ o ks ns c c') (h : pinL (pinZ o ks ns) row [.bool b, .sl (V.rI li), .nils]) : B o zs (W.h2 l m c') := by
 subst hd
 refine hB _ _ _ (rowsZ_of (by rw [List.length_set, lenh2 hW]) (lenh2 hW) fun k x e => ?_)
 by_cases hk : j = k
 ·subst hk
  have := hx x e
  subst this
  have e2 := rowh2 (m := m) (c := c') hV hW e
  rw [if_neg (fun h => hj h.symm)] at e2
  exact ⟨_, _, List.getElem?_set_self (by rw [lenh2 hW]; exact some_lt e), e2, h⟩
 ·exact ⟨_, _, (List.getElem?_set_ne hk).trans (rowh2 hV hW e), rowh2 hV hW e, pz_bool, pz_sl, by split <;> first | exact hc | exact pz_nils, trivial⟩
theorem row00 (hW : IsVh W) {l : List Slot00} {j : Nat} {x : Slot00} (e : l[j]? = some x) : (W.rSlot00 l)[j]? = some [.bool x.given, .nils, .nils] := by rw [hW.rSlot00, List.getElem?_map, e]; rfl
theorem len00 (hW : IsVh W) {l : List Slot00} : (W.rSlot00 l).length = l.length := by rw [hW.rSlot00, List.length_map]
theorem get_up {l : List Slot00} {j : Nat} {x : Slot00} (e : l[j]? = some x) : (l.map up00)[j]? = some ⟨x.given, []⟩ := by rw [List.getElem?_map, e]; rfl
theorem pin_00_0 (hB : ∀ o rows rows', rowsZ (pinZ o ks ns) rows rows' → B o rows rows') (hV : IsV V) (hW : IsVh W) {l : List Slot00} : B o (W.rSlot00 l) (W.rSlot0 (l.map up00)) :=
 hB _ _ _ (rowsZ_of (len00 hW) (by rw [len0 hW, List.length_map]) fun k x e => ⟨_, _, row00 hW e, rowr0 hV hW (get_up e), pz_bool, by rw [hV.rI]; exact pz_nilsl, pz_nils, trivial⟩)
theorem pin_00_h1 (hB : ∀ o rows rows', rowsZ (pinZ o ks ns) rows rows' → B o rows rows') (hV : IsV V) (hW : IsVh W) {l : List Slot00} (hc : pinZ o ks ns .nils c') : B o (W.rSlot00 l) (W.h1 (l.map up00) m c') :=
 hB _ _ _ (rowsZ_of (len00 hW) (by rw [lenh1 hW, List.length_map]) fun k x e => ⟨_, _, row00 hW e, rowh1 hV hW (get_up e), pz_bool, by split <;> first | exact hc | (rw [hV.rI]; exact pz_nilsl), pz_nils, trivial⟩)
theorem pin_0_h2 (hB : ∀ o rows rows', rowsZ (pinZ o ks ns) rows rows' → B o rows rows') (hV : IsV V) (hW : IsVh W) (hc : pinZ o ks ns .nils c') : B o (W.rSlot0 l) (W.h2 l m c') :=
 hB _ _ _ (rowsZ_of (len0 hW) (lenh2 hW) fun k x e => ⟨_, _, rowr0 hV hW e, rowh2 hV hW e, pz_bool, pz_sl, by split <;> first | exact hc | exact pz_nils, trivial⟩)
theorem get_upP {ps : List Pair} {j : Nat} {x : Slot0} (e : l[j]? = some x) : (upP l m ps)[j]? = some ⟨x.given, x.list, if m = j then ps else []⟩ := by
 rw [upP, List.getElem?_modify, List.getElem?_map, e]
 by_cases h : m = j <;> simp [h]
theorem get_upL {is : List Int} {j : Nat} {x : Slot0} (e : l[j]? = some x) : (upL l m is)[j]? = some ⟨x.given, if m = j then is else x.list⟩ := by
 rw [upL, List.getElem?_modify, e]
 by_cases h : m = j <;> simp [h]
theorem pin_h2_S (hB : ∀ o rows rows', rowsZ (pinZ o ks ns) rows rows' → B o rows rows') (hV : IsV V) (hW : IsVh W) {ps : List Pair} (hc : pinZ o ks ns c (.sl (V.rPair ps))) : B o (W.h2 l m c) (V.rSlot (upP l m ps)) :=
 hB _ _ _ (rowsZ_of (lenh2 hW) (by rw [hV.rSlot]; simp [upP]) fun k x e => by
  refine ⟨_, [.bool x.given, .sl (V.rI x.list), .sl (V.rPair (if m = k then ps else []))], rowh2 hV hW e, by rw [hV.rSlot, List.getElem?_map, get_upP e]; simp [eSlot, hV.rI, hV.rPair], pz_bool, pz_sl, ?_, trivial⟩
  split
  ·exact hc
  ·rw [hV.rPair]; exact pz_nilsl)
theorem pin_h1_h2 (hB : ∀ o rows rows', rowsZ (pinZ o ks ns) rows rows' → B o rows rows') (hV : IsV V) (hW : IsVh W) {is : List Int} {m2 : Nat} {c2 : C} (hc : pinZ o ks ns c (.sl (V.rI is))) (hc2 : pinZ o ks ns .nils c2) : B o (W.h1 l m c) (W.h2 (upL l m is) m2 c2) :=
 hB _ _ _ (rowsZ_of (lenh1 hW) (by rw [lenh2 hW]; simp [upL]) fun k x e => by
  refine ⟨_, _, rowh1 hV hW e, rowh2 hV hW (get_upL e), pz_bool, ?_, ?_, trivial⟩
  ·simp only
   split
   ·exact hc
   ·exact pz_sl
  ·split
   ·exact hc2
   ·exact pz_nils)
theorem n00_0 (hW : IsVh W) (l : List Slot00) : W.nSlot0 (l.map up00) = W.nSlot00 l := by rw [hW.nSlot0, hW.nSlot00, List.length_map]
theorem nL (hW : IsVh W) (l : List Slot0) (m : Nat) (is : List Int) : W.nSlot0 (upL l m is) = W.nSlot0 l := by rw [hW.nSlot0, hW.nSlot0]; simp [upL]
theorem nP (hV : IsV V) (hW : IsVh W) (l : List Slot0) (m : Nat) (ps : List Pair) : V.nSlot (upP l m ps) = W.nSlot0 l := by rw [hV.nSlot, hW.nSlot0]; simp [upP]
theorem wh1 (hW : IsVh W) : ∀ row ∈ W.h1 l m c, row.length = 3 := by
 intro row h
 obtain ⟨k, hk⟩ := List.getElem?_of_mem h
 have hl := some_lt hk
 rw [lenh1 hW] at hl
 obtain ⟨V, hV⟩ := exV
 rw [rowh1 hV hW (List.getElem?_eq_getElem hl)] at hk; cases hk; rfl
theorem wh2 (hW : IsVh W) : ∀ row ∈ W.h2 l m c, row.length = 3 := by
 intro row h
 obtain ⟨k, hk⟩ := List.getElem?_of_mem h
 have hl := some_lt hk
 rw [lenh2 hW] at hl
 obtain ⟨V, hV⟩ := exV
 rw [rowh2 hV hW (List.getElem?_eq_getElem hl)] at hk; cases hk; rfl
theorem wSlot0 (hW : IsVh W) : ∀ row ∈ W.rSlot0 l, row.length = 3 := by
 intro row h; rw [hW.rSlot0] at h; obtain ⟨x, _, rfl⟩ := List.mem_map.1 h; rfl
theorem pin_00_0' (hB : ∀ o rows rows', rowsZ (pinZ o ks ns) rows rows' → B o rows rows') (hV : IsV V) (hW : IsVh W) {l : List Slot00} {x : List Slot0} (hx : x = l.map up00) : B o (W.rSlot00 l) (W.rSlot0 x) := hx ▸ pin_00_0 hB hV hW
theorem pin_00_h1' (hB : ∀ o rows rows', rowsZ (pinZ o ks ns) rows rows' → B o rows rows') (hV : IsV V) (hW : IsVh W) {l : List Slot00} {x : List Slot0} (hx : x = l.map up00) (hc : pinZ o ks ns .nils c') : B o (W.rSlot00 l) (W.h1 x m c') := hx ▸ pin_00_h1 hB hV hW hc
theorem pin_h2_S' (hB : ∀ o rows rows', rowsZ (pinZ o ks ns) rows rows' → B o rows rows') (hV : IsV V) (hW : IsVh W) {ps : List Pair} {x : List Slot} (hx : x = upP l m ps) (hc : pinZ o ks ns c (.sl (V.rPair ps))) : B o (W.h2 l m c) (V.rSlot x) := hx ▸ pin_h2_S hB hV hW hc
theorem pin_h1_h2' (hB : ∀ o rows rows', rowsZ (pinZ o ks ns) rows rows' → B o rows rows') (hV : IsV V) (hW : IsVh W) {is : List Int} {m2 : Nat} {c2 : C} {x : List Slot0} (hx : x = upL l m is) (hc : pinZ o ks ns c (.sl (V.rI is))) (hc2 : pinZ o ks ns .nils c2) : B o (W.h1 l m c) (W.h2 x m2 c2) := hx ▸ pin_h1_h2 hB hV hW hc hc2
theorem n00_0' (hW : IsVh W) {l : List Slot00} {x : List Slot0} (hx : x = l.map up00) : W.nSlot00 l = W.nSlot0 x := hx ▸ (n00_0 hW l).symm
theorem nL' (hW : IsVh W) {is : List Int} {x : List Slot0} (hx : x = upL l m is) : W.nSlot0 l = W.nSlot0 x := hx ▸ (nL hW l m is).symm
theorem nP' (hV : IsV V) (hW : IsVh W) {ps : List Pair} {x : List Slot} (hx : x = upP l m ps) : W.nSlot0 l = V.nSlot x := hx ▸ (nP hV hW l m ps).symm
def cv {α : Type} (v : α) (f : α → Option R) : Option R := f v
theorem s_cv {α : Type} {v : α} {f : α → Option R} (H : cv v f = some r) {p : Prop} (h : ∀ x, x = v → f x = some r → p) : p := h v rfl H
end
/- A part of an own slice, told by a variable. -/
theorem s_eqnI {t : Nat} {K : Nat → Prop} (h : ∀ n, n = t → K n) : ∀ n : Nat, n = t → K n := h
theorem s_eqnI2 {t u : Nat} {K : Nat → Nat → Prop} (h : ∀ b n, b = t → n = u → K b n) : ∀ b n : Nat, b = t → n = u → K b n := h
section
variable {α : Type} {e : α → List C} {v : List α → List (List C)} {nv : List α → Nat}
theorem s_tkPV (hr : ∀ l, v l = l.map e) {l : List α} {n k : Nat} {K : List (List C) → Prop} (hn : n = k) (h : ∀ y, y = l.take k → K (v y)) : ∀ ys, ys = List.take n (List.drop 0 (v l)) → K ys := by
 subst hn; rintro ys rfl
 have := h _ rfl
 rw [hr, List.map_take, ← hr] at this; exact this
theorem s_drPV (hr : ∀ l, v l = l.map e) (hn : ∀ l, nv l = l.length) {l : List α} {b n k : Nat} {K : List (List C) → Prop} (hb : b = 0 + k) (hn2 : n = nv l - k) (h : ∀ y, y = l.drop k → K (v y)) : ∀ ys, ys = List.take n (List.drop b (v l)) → K ys := by
 subst hb; subst hn2; rintro ys rfl
 have := h _ rfl
 rw [hr, List.map_drop, ← hr] at this
 rw [Nat.zero_add, List.take_of_length_le (by rw [List.length_drop, hr, List.length_map, hn]; exact Nat.le_refl _)]; exact this
end
end Go.Proofs.YtchpopejojghmaaGreatDoor.M
