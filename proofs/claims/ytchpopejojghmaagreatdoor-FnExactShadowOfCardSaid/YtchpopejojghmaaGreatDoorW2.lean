/- What a call gives to the parameters: the program. -/
import Derived.Test.YtchpopejojghmaaGreatDoorW1
import Derived.Test.YtchpopejojghmaaGreatDoorHO
set_option linter.unusedVariables false
set_option linter.unusedSimpArgs false
set_option linter.unusedSectionVars false
namespace Go.Proofs.YtchpopejojghmaaGreatDoor.M
open Go Go.Proofs
set_option maxRecDepth 100000
def slotsGo : List Param → List Int → List Slot0
 | [], _ => []
 | p :: r, left =>
  if placedP p = true then
   match left with
   | [] => ⟨false, []⟩ :: slotsGo r []
   | x :: t => ⟨true, [x]⟩ :: slotsGo r t
  else if p.kind = 2 then ⟨false, left⟩ :: slotsGo r []
  else ⟨false, []⟩ :: slotsGo r left
theorem slotsGo_cons (p : Param) (r : List Param) (left : List Int) : slotsGo (p :: r) left = if placedP p = true then (match left with | [] => ⟨false, []⟩ :: slotsGo r [] | x :: t => ⟨true, [x]⟩ :: slotsGo r t) else if p.kind = 2 then ⟨false, left⟩ :: slotsGo r [] else ⟨false, []⟩ :: slotsGo r left := by
 cases left <;> simp only [slotsGo]
def leftGo : List Param → List Int → List Int
 | [], left => left
 | p :: r, left => if placedP p = true then leftGo r left.tail else if p.kind = 2 then leftGo r [] else leftGo r left
structure BSt where
 sl : List Slot0
 ps : List Pair
 bad : List Prob
def bindStep (pars : List Param) (s : BSt) (q : Pair) : BSt :=
 let k := takesV pars q.name
 if k < 0 then ⟨s.sl, s.ps, s.bad ++ [⟨1, q.name⟩]⟩
 else if (pars[k.toNat]?.any fun p => decide (p.kind = 4)) = true then ⟨s.sl, s.ps ++ [q], s.bad⟩
 else if (s.sl[k.toNat]?.any (·.given)) = true then ⟨s.sl, s.ps, s.bad ++ [⟨2, q.name⟩]⟩
 else ⟨s.sl.set k.toNat ⟨true, [q.value]⟩, s.ps, s.bad⟩
def bindS (pars : List Param) (f : Flat) : BSt :=
 f.names.foldl (bindStep pars) ⟨slotsGo pars f.places, [], if leftGo pars f.places = [] then [] else [⟨0, []⟩]⟩
def mapIx (pars : List Param) : Nat := pars.findIdx fun p => decide (p.kind = 4)
def boundV (pars : List Param) (f : Flat) : List Slot := upP (bindS pars f).sl (mapIx pars) (bindS pars f).ps
def missGo : List Param → List Slot → List Prob
 | p :: r, s :: t => if singleP p = true ∧ p.hasDefault = false ∧ s.given = false then ⟨3, p.name⟩ :: missGo r t else missGo r t
 | _, _ => []
def wrongV (pars : List Param) (f : Flat) : List Prob := (bindS pars f).bad ++ missGo pars (boundV pars f)
theorem slotsGo_len : ∀ (ps : List Param) (l : List Int), (slotsGo ps l).length = ps.length
 | [], _ => rfl
 | p :: r, l => by
  unfold slotsGo
  split
  ·split <;> simp [slotsGo_len r]
  ·split <;> simp [slotsGo_len r]
theorem mapIx_at {ps : List Param} {p : Param} (h : ps[mapIx ps]? = some p) : p.kind = 4 := by
 unfold mapIx at h
 obtain ⟨hlt, e⟩ := List.getElem?_eq_some_iff.1 h
 have := List.findIdx_getElem (xs := ps) (p := fun p : Param => decide (p.kind = 4)) (w := hlt)
 rw [e] at this; simpa using this
theorem takes_map {ps : List Param} {nm : Str} {p : Param} (h : 0 ≤ takesV ps nm) (hp : ps[(takesV ps nm).toNat]? = some p) (hk : p.kind = 4) : (takesV ps nm).toNat = mapIx ps := by
 unfold takesV at h hp ⊢
 split at hp
 ·rename_i c
  obtain ⟨c1, c2⟩ := c
  rw [hp] at c2
  simp [namedP, hk] at c2
 ·rename_i c
  rw [if_neg c] at h ⊢
  unfold kindAt findI at h ⊢
  unfold mapIx
  cases e : ps.findIdx? (fun p => decide (p.kind = 4)) with
  | none => rw [e] at h; simp [idxOr] at h
  | some k =>
   simp only [idxOr]
   rw [List.findIdx?_eq_some_iff_findIdx_eq] at e
   omega
theorem takes_lt {ps : List Param} {nm : Str} : takesV ps nm < ps.length := by
 unfold takesV
 split
 ·rename_i c
  rcases findI_range (fun p : Param => decide (p.name = nm)) ps with h | h
  ·exact h.2
  ·exact absurd c.1 (by show ¬ 0 ≤ findI (fun p : Param => decide (p.name = nm)) ps; rw [h.2]; decide)
 ·rcases findI_range (fun p : Param => decide (p.kind = 4)) ps with h | h
  ·exact h.2
  ·unfold kindAt; rw [h.2]; omega
theorem bindStep_len (pars : List Param) (s : BSt) (q : Pair) : (bindStep pars s q).sl.length = s.sl.length := by
 unfold bindStep; simp only; split
 ·rfl
 ·split
  ·rfl
  ·split
   ·rfl
   ·simp
theorem foldS_len (pars : List Param) : ∀ (qs : List Pair) (s : BSt), (qs.foldl (bindStep pars) s).sl.length = s.sl.length
 | [], _ => rfl
 | q :: r, s => by rw [List.foldl_cons, foldS_len pars r, bindStep_len]
theorem foldS_ps (pars : List Param) : ∀ (qs : List Pair) (s : BSt), (qs.foldl (bindStep pars) s).ps.length ≤ s.ps.length + qs.length ∧ (qs.foldl (bindStep pars) s).bad.length ≤ s.bad.length + qs.length
 | [], _ => ⟨Nat.le_refl _, Nat.le_refl _⟩
 | q :: r, s => by
  obtain ⟨h1, h2⟩ := foldS_ps pars r (bindStep pars s q)
  have : (bindStep pars s q).ps.length ≤ s.ps.length + 1 ∧ (bindStep pars s q).bad.length ≤ s.bad.length + 1 := by
   unfold bindStep; simp only; split
   ·simp
   ·split
    ·simp
    ·split <;> simp
  rw [List.foldl_cons, List.length_cons]; omega
theorem missGo_len : ∀ (ps : List Param) (sl : List Slot), (missGo ps sl).length ≤ ps.length
 | [], _ => by simp [missGo]
 | _ :: _, [] => by simp [missGo]
 | p :: r, s :: t => by
  have := missGo_len r t
  unfold missGo; split <;> simp <;> omega
theorem set_self {α : Type} {l : List α} {j : Nat} {x : α} (h : l[j]? = some x) : l.set j x = l := by
 obtain ⟨hl, e⟩ := List.getElem?_eq_some_iff.1 h
 rw [← e]; exact List.set_getElem_self hl
def bind0 (pars : List Param) (f : Flat) : BSt := ⟨slotsGo pars f.places, [], if leftGo pars f.places = [] then [] else [⟨0, []⟩]⟩
end Go.Proofs.YtchpopejojghmaaGreatDoor.M
