/- What is accepted: the plain laws on binding, acceptance and shapes. -/
import Derived.Test.YtchpopejojghmaaGreatDoorW3
set_option linter.unusedVariables false
set_option linter.unusedSimpArgs false
set_option linter.unusedSectionVars false
namespace Go.Proofs.YtchpopejojghmaaGreatDoor.M
open Go Go.Proofs
set_option maxRecDepth 100000
def nPlaces : List Param → Nat
 | [] => 0
 | p :: r => (if placedP p = true then 1 else 0) + nPlaces r
def restIx (ps : List Param) : Nat := ps.findIdx fun p => decide (p.kind = 2)
def sortedK2 (l : List Param) : Prop := l.Pairwise fun a b => a.kind ≤ b.kind ∧ (a.kind = b.kind → singleP b = true)
theorem stepOK_le2 {q p : Param} (h : stepOK (some q) p = true) : q.kind ≤ p.kind ∧ (q.kind = p.kind → singleP p = true) := by
 simp only [stepOK, Bool.and_eq_true, Bool.not_eq_true', decide_eq_false_iff_not, Bool.and_eq_false_iff, Bool.not_eq_false'] at h
 refine ⟨by omega, fun e => ?_⟩
 rcases h.1.2 with h1 | h1
 ·exact absurd e.symm h1
 ·exact h1
theorem validGo_le2 : ∀ {r pre : List Param} {q : Param}, pre.getLast? = some q → validGo pre r = true → ∀ p ∈ r, q.kind ≤ p.kind ∧ (q.kind = p.kind → singleP p = true)
 | [], _, _, _, _, p, hp => by cases hp
 | x :: r, pre, q, hq, h, p, hp => by
  simp only [validGo, Bool.and_eq_true, hq] at h
  have h1 := stepOK_le2 h.1.2
  rcases List.mem_cons.1 hp with rfl | hp
  ·exact h1
  ·have h2 := validGo_le2 (q := x) (by simp) h.2 p hp
   exact ⟨Int.le_trans h1.1 h2.1, fun e => h2.2 (by omega)⟩
theorem validGo_sorted2 : ∀ {r pre : List Param}, validGo pre r = true → sortedK2 r
 | [], _, _ => List.Pairwise.nil
 | x :: r, pre, h => by
  simp only [validGo, Bool.and_eq_true] at h
  exact List.Pairwise.cons (fun p hp => validGo_le2 (q := x) (pre := pre ++ [x]) (by simp) h.2 p hp) (validGo_sorted2 h.2)
theorem s2_tail {p : Param} {r : List Param} (h : sortedK2 (p :: r)) : sortedK2 r := (List.pairwise_cons.1 h).2
theorem s2_np {p : Param} {r : List Param} (h : sortedK2 (p :: r)) (h0 : 0 ≤ p.kind) (hp : placedP p = false) : ∀ q ∈ r, placedP q = false := by
 intro q hq
 have h1 := ((List.pairwise_cons.1 h).1 q hq).1
 simp only [placedP, Bool.or_eq_false_iff, decide_eq_false_iff_not] at hp ⊢
 omega
theorem s2_no2 {p : Param} {r : List Param} (h : sortedK2 (p :: r)) (hp : p.kind = 2) : ∀ q ∈ r, q.kind ≠ 2 := by
 intro q hq e
 have h1 := ((List.pairwise_cons.1 h).1 q hq).2 (by omega)
 simp [singleP, placedP, namedP, e] at h1
theorem noPlaced : ∀ {ps : List Param}, (∀ p ∈ ps, placedP p = false) → nPlaces ps = 0
 | [], _ => rfl
 | p :: r, h => by simp [nPlaces, h p (by simp), noPlaced fun q hq => h q (List.mem_cons_of_mem p hq)]
def slot0At (np : Nat) (l : List Int) (k : Nat) : Slot0 := if k < np then (match l[k]? with | some x => ⟨true, [x]⟩ | none => ⟨false, []⟩) else ⟨false, []⟩
def slots0 (n np : Nat) (l : List Int) : List Slot0 := (List.range n).map (slot0At np l)
theorem slots0_get {n np : Nat} {l : List Int} {k : Nat} : (slots0 n np l)[k]? = if k < n then some (slot0At np l k) else none := by
 unfold slots0
 rw [List.getElem?_map]
 by_cases h : k < n
 ·rw [if_pos h, List.getElem?_range h]; rfl
 ·rw [if_neg h, List.getElem?_eq_none (by simp; omega)]; rfl
theorem slots0_len (n np : Nat) (l : List Int) : (slots0 n np l).length = n := by simp [slots0]
theorem slots0_none {n : Nat} {l : List Int} : slots0 n 0 l = List.replicate n ⟨false, []⟩ := by
 refine List.ext_getElem? fun k => ?_
 rw [slots0_get, List.getElem?_replicate]; simp [slot0At]
theorem slots0_cons {n np : Nat} {l : List Int} : slots0 (n + 1) (np + 1) l = slot0At (np + 1) l 0 :: slots0 n np l.tail := by
 refine List.ext_getElem? fun k => ?_
 rw [slots0_get]
 cases k with
 | zero => simp
 | succ k =>
  rw [List.getElem?_cons_succ, slots0_get]
  by_cases h : k < n
  ·rw [if_pos h, if_pos (by omega)]
   simp only [slot0At, Nat.add_lt_add_iff_right, List.getElem?_tail]
  ·rw [if_neg h, if_neg (by omega)]
theorem slots0_snoc {n np : Nat} {l : List Int} {x : Int} : slots0 n np (l ++ [x]) = if l.length < np then (slots0 n np l).set l.length ⟨true, [x]⟩ else slots0 n np l := by
 refine List.ext_getElem? fun k => ?_
 rw [slots0_get]
 by_cases h : l.length < np
 ·rw [if_pos h]
  by_cases hk : k = l.length
  ·subst hk
   by_cases hn : l.length < n
   ·rw [if_pos hn, List.getElem?_set_self (by rw [slots0_len]; exact hn)]; simp [slot0At, h]
   ·rw [if_neg hn, List.getElem?_eq_none (by rw [List.length_set, slots0_len]; omega)]
  ·rw [List.getElem?_set_ne (fun e => hk e.symm), slots0_get]
   unfold slot0At
   by_cases h2 : k < l.length
   ·rw [List.getElem?_append_left h2]
   ·rw [List.getElem?_eq_none (l := l) (by omega), List.getElem?_eq_none (l := l ++ [x]) (by simp; omega)]
 ·rw [if_neg h, slots0_get]
  unfold slot0At
  by_cases h2 : k < np
  ·rw [List.getElem?_append_left (by omega)]
  ·simp only [if_neg h2]
theorem slotsGo_none : ∀ {ps : List Param} {l : List Int}, (∀ p ∈ ps, placedP p = false) → (∀ p ∈ ps, p.kind ≠ 2) → slotsGo ps l = List.replicate ps.length ⟨false, []⟩
 | [], _, _, _ => rfl
 | p :: r, l, h, h2 => by
  have hp : ¬ placedP p = true := by rw [h p (by simp)]; simp
  rw [slotsGo_cons, if_neg hp, if_neg (h2 p (by simp)), slotsGo_none (fun q hq => h q (List.mem_cons_of_mem p hq)) (fun q hq => h2 q (List.mem_cons_of_mem p hq))]; rfl
theorem slotsGo_rest : ∀ {ps : List Param} {l : List Int}, (∀ p ∈ ps, placedP p = false) → sortedK2 ps → slotsGo ps l = upL (List.replicate ps.length ⟨false, []⟩) (restIx ps) l
 | [], _, _, _ => rfl
 | p :: r, l, h, hs => by
  have hp : ¬ placedP p = true := by rw [h p (by simp)]; simp
  have hr := fun q hq => h q (List.mem_cons_of_mem p hq)
  rw [slotsGo_cons, if_neg hp]
  by_cases k : p.kind = 2
  ·rw [if_pos k, slotsGo_none hr (s2_no2 hs k), restIx, List.findIdx_cons]
   simp [k, upL, List.replicate_succ]
  ·rw [if_neg k, slotsGo_rest hr (s2_tail hs)]
   simp [k, upL, List.replicate_succ, restIx, List.findIdx_cons]
theorem slotsGo_eq : ∀ {ps : List Param} {l : List Int}, (∀ p ∈ ps, 0 ≤ p.kind) → sortedK2 ps → slotsGo ps l = upL (slots0 ps.length (nPlaces ps) l) (restIx ps) (l.drop (nPlaces ps))
 | [], _, _, _ => rfl
 | p :: r, l, h, hs => by
  cases hp : placedP p with
  | false =>
   have hnp : ∀ q ∈ p :: r, placedP q = false := by
    intro q hq
    rcases List.mem_cons.1 hq with rfl | hq
    ·exact hp
    ·exact s2_np hs (h p (by simp)) hp q hq
   rw [noPlaced hnp, slots0_none, List.drop_zero, slotsGo_rest hnp hs]
  | true =>
   have k : ¬ p.kind = 2 := by simp only [placedP, Bool.or_eq_true, decide_eq_true_eq] at hp; omega
   have ih := fun l => slotsGo_eq (ps := r) (l := l) (fun q hq => h q (List.mem_cons_of_mem p hq)) (s2_tail hs)
   rw [slotsGo_cons, if_pos hp, nPlaces, if_pos hp, restIx, List.findIdx_cons, Nat.add_comm 1, List.length_cons, slots0_cons]
   simp only [k, decide_false, cond_false]
   cases l with
   | nil => simp only [ih, slot0At]; simp [upL, restIx]
   | cons x t => simp only [ih, slot0At]; simp [upL, restIx]
theorem leftGo_eq : ∀ {ps : List Param} {l : List Int}, (∀ p ∈ ps, 0 ≤ p.kind) → sortedK2 ps → leftGo ps l = if (ps.any fun p => decide (p.kind = 2)) = true then [] else l.drop (nPlaces ps)
 | [], _, _, _ => by simp [leftGo, nPlaces]
 | p :: r, l, h, hs => by
  have ih := fun l => leftGo_eq (ps := r) (l := l) (fun q hq => h q (List.mem_cons_of_mem p hq)) (s2_tail hs)
  unfold leftGo
  cases hp : placedP p with
  | true =>
   have k : ¬ p.kind = 2 := by simp only [placedP, Bool.or_eq_true, decide_eq_true_eq] at hp; omega
   rw [if_pos rfl, ih, nPlaces, if_pos hp]
   simp only [List.any_cons, k, decide_false, Bool.false_or, Nat.add_comm 1, List.drop_tail]
  | false =>
   have hnp := s2_np hs (h p (by simp)) hp
   rw [if_neg (by simp), nPlaces, hp, noPlaced hnp]
   by_cases k : p.kind = 2
   ·rw [if_pos k, ih]; simp [k, noPlaced hnp]
   ·rw [if_neg k, ih]; simp [k, noPlaced hnp]
/- What is accepted, told by the number of places and by names. -/
def openP (p : Param) (k n : Nat) : Bool := decide (p.kind = 3) || (decide (p.kind = 1) && decide (n ≤ k))
def allowsS (pars : List Param) (n : Nat) (name : Str) : Bool :=
 decide (0 ≤ takesV pars name) && (pars[(takesV pars name).toNat]?.any fun p => decide (p.kind = 4) || openP p (takesV pars name).toNat n)
def needP (pars : List Param) (n : Nat) (i : Nat) (p : Param) : Bool := singleP p && !p.hasDefault && !(placedP p && decide (i < n))
def accS (pars : List Param) (n : Nat) (names : List Str) : Prop :=
 (n ≤ nPlaces pars ∨ (pars.any fun p => decide (p.kind = 2)) = true) ∧ (∀ nm ∈ names, allowsS pars n nm = true) ∧
 ∀ (i : Nat) (p : Param), pars[i]? = some p → needP pars n i p = true → namedP p = true ∧ p.name ∈ names
theorem slot0_given {n np k : Nat} {l : List Int} (hn : np ≤ n) : ((slots0 n np l)[k]?.any (·.given)) = (decide (k < np) && decide (k < l.length)) := by
 rw [slots0_get]
 by_cases h : k < n
 ·rw [if_pos h]
  simp only [Option.any_some, slot0At]
  by_cases h2 : k < np
  ·rw [if_pos h2]
   by_cases h3 : k < l.length
   ·rw [List.getElem?_eq_getElem h3]; simp [h2, h3]
   ·rw [List.getElem?_eq_none (by omega)]; simp [h3]
  ·rw [if_neg h2]; simp [h2]
 ·rw [if_neg h]; simp; omega
theorem upL_given {l : List Slot0} {m : Nat} {is : List Int} {k : Nat} : ((upL l m is)[k]?.any (·.given)) = (l[k]?.any (·.given)) := by
 rw [upL, List.getElem?_modify]
 cases l[k]? with
 | none => simp
 | some x => by_cases h : m = k <;> simp [h]
theorem nPlaces_le : ∀ ps : List Param, nPlaces ps ≤ ps.length
 | [] => Nat.le_refl _
 | p :: r => by have := nPlaces_le r; simp only [nPlaces, List.length_cons]; split <;> omega
theorem placed_iff : ∀ {ps : List Param}, (∀ p ∈ ps, 0 ≤ p.kind) → sortedK2 ps → ∀ k p, ps[k]? = some p → (placedP p = true ↔ k < nPlaces ps)
 | [], _, _, k, p, h => by cases h
 | q :: r, hv, hs, k, p, h => by
  cases hq : placedP q with
  | true =>
   rw [nPlaces, if_pos hq]
   cases k with
   | zero => cases h; simp [hq]; omega
   | succ k =>
    have := placed_iff (ps := r) (fun x hx => hv x (List.mem_cons_of_mem q hx)) (s2_tail hs) k p (by simpa using h)
    rw [this]; omega
  | false =>
   have hnp := s2_np hs (hv q (by simp)) hq
   have hn : ∀ x ∈ q :: r, placedP x = false := fun x hx => by
    rcases List.mem_cons.1 hx with rfl | hx
    ·exact hq
    ·exact hnp x hx
   rw [noPlaced hn, hn p (List.mem_of_getElem? h)]; simp
theorem given0 {pars : List Param} {l : List Int} (hv : ∀ p ∈ pars, 0 ≤ p.kind) (hs : sortedK2 pars) (k : Nat) : ((slotsGo pars l)[k]?.any (·.given)) = (decide (k < nPlaces pars) && decide (k < l.length)) := by
 rw [slotsGo_eq hv hs, upL_given, slot0_given (nPlaces_le _)]
theorem takes_spec {pars : List Param} {nm : Str} (h : 0 ≤ takesV pars nm) : ∃ p, pars[(takesV pars nm).toNat]? = some p ∧ (p.kind = 4 ∨ namedP p = true ∧ p.name = nm) := by
 unfold takesV at h ⊢
 split at h
 ·rename_i c
  rw [if_pos c]
  obtain ⟨c1, c2⟩ := c
  unfold findParam findI at c1 c2 ⊢
  cases e : pars.findIdx? (fun p => decide (p.name = nm)) with
  | none => rw [e] at c1; simp [idxOr] at c1
  | some k =>
   rw [e] at c2
   obtain ⟨hk, hp, _⟩ := List.findIdx?_eq_some_iff_getElem.1 e
   simp only [idxOr, show ((0 : Int) + (k : Int)).toNat = k by omega] at c2 ⊢
   rw [List.getElem?_eq_getElem hk] at c2 ⊢
   exact ⟨_, rfl, .inr ⟨by simpa using c2, by simpa using hp⟩⟩
 ·rename_i c
  rw [if_neg c]
  unfold kindAt findI at h ⊢
  cases e : pars.findIdx? (fun p => decide (p.kind = 4)) with
  | none => rw [e] at h; simp [idxOr] at h
  | some k =>
   obtain ⟨hk, hp, _⟩ := List.findIdx?_eq_some_iff_getElem.1 e
   simp only [idxOr, show ((0 : Int) + (k : Int)).toNat = k by omega]
   exact ⟨_, List.getElem?_eq_getElem hk, .inl (by simpa using hp)⟩
theorem takes_own {pars : List Param} {i : Nat} {p : Param} (hd : ∀ (a b : Nat) (x y : Param), pars[a]? = some x → pars[b]? = some y → x.name = y.name → a = b) (hp : pars[i]? = some p) (hn : namedP p = true) : takesV pars p.name = i := by
 have e : findParam pars p.name = i := by
  unfold findParam findI
  cases e : pars.findIdx? (fun q => decide (q.name = p.name)) with
  | none =>
   rw [List.findIdx?_eq_none_iff] at e
   have := e p (List.mem_of_getElem? hp)
   simp at this
  | some k =>
   obtain ⟨hk, hq, _⟩ := List.findIdx?_eq_some_iff_getElem.1 e
   have := hd k i _ p (List.getElem?_eq_getElem hk) hp (by simpa using hq)
   subst this
   simp [idxOr]
 unfold takesV
 rw [e, if_pos ⟨by omega, by rw [Int.toNat_natCast, hp]; simpa using hn⟩]
def gotBy (pars : List Param) (names : List Str) (k : Nat) : Bool := names.any fun nm => decide (takesV pars nm = k) && (pars[k]?.any fun p => decide (p.kind ≠ 4))
structure VP (pars : List Param) : Prop where
 nn : ∀ p ∈ pars, 0 ≤ p.kind
 le : ∀ p ∈ pars, p.kind ≤ 4
 s2 : sortedK2 pars
 dist : ∀ (a b : Nat) (x y : Param), pars[a]? = some x → pars[b]? = some y → x.name = y.name → a = b
theorem fold_acc {pars : List Param} (hv : VP pars) (n : Nat) : ∀ (qs : List Pair) (s : BSt) (done : List Str), s.bad = [] → (∀ nm ∈ done, allowsS pars n nm = true) →
  (∀ k, (s.sl[k]?.any (·.given)) = (decide (k < nPlaces pars) && decide (k < n) || gotBy pars done k)) → s.sl.length = pars.length → ((done ++ qs.map (·.name)).Nodup) →
  ((qs.foldl (bindStep pars) s).bad = [] ↔ ∀ q ∈ qs, allowsS pars n q.name = true) ∧ ((qs.foldl (bindStep pars) s).bad = [] → ∀ k, ((qs.foldl (bindStep pars) s).sl[k]?.any (·.given)) = (decide (k < nPlaces pars) && decide (k < n) || gotBy pars (done ++ qs.map (·.name)) k))
 | [], s, done, hb, hd, hg, hl, hn => ⟨⟨fun _ q hq => by (cases hq), fun _ => hb⟩, fun _ k => by simpa using hg k⟩
 | q :: r, s, done, hb, hd, hg, hl, hn => by
  have bad_mono : ∀ (qs : List Pair) (s : BSt), s.bad ≠ [] → (qs.foldl (bindStep pars) s).bad ≠ [] := by
   intro qs
   induction qs with
   | nil => intro s h; exact h
   | cons a t ih =>
    intro s h
    refine ih _ ?_
    unfold bindStep
    simp only
    split
    ·simp
    ·split
     ·exact h
     ·split
      ·simp
      ·exact h
  rw [List.foldl_cons]
  have no : ∀ s', bindStep pars s q = s' → s'.bad ≠ [] → allowsS pars n q.name = false → _ := fun s' e hs' ha => (show ((r.foldl (bindStep pars) s').bad = [] ↔ ∀ x ∈ q :: r, allowsS pars n x.name = true) ∧ ((r.foldl (bindStep pars) s').bad = [] → ∀ k, ((r.foldl (bindStep pars) s').sl[k]?.any (·.given)) = (decide (k < nPlaces pars) && decide (k < n) || gotBy pars (done ++ (q :: r).map (·.name)) k)) from
   ⟨⟨fun h => absurd h (bad_mono r s' hs'), fun h => by have := h q (by simp); rw [ha] at this; cases this⟩, fun h => absurd h (bad_mono r s' hs')⟩)
  have yes : ∀ s', s'.bad = [] → allowsS pars n q.name = true → (∀ k, (s'.sl[k]?.any (·.given)) = (decide (k < nPlaces pars) && decide (k < n) || gotBy pars (done ++ [q.name]) k)) → s'.sl.length = pars.length → (((r.foldl (bindStep pars) s').bad = [] ↔ ∀ x ∈ q :: r, allowsS pars n x.name = true) ∧ ((r.foldl (bindStep pars) s').bad = [] → ∀ k, ((r.foldl (bindStep pars) s').sl[k]?.any (·.given)) = (decide (k < nPlaces pars) && decide (k < n) || gotBy pars (done ++ (q :: r).map (·.name)) k))) := by
   intro s' h1 h2 h3 h4
   have ih := fold_acc hv n r s' (done ++ [q.name]) h1 (fun nm hnm => by
    rcases List.mem_append.1 hnm with h | h
    ·exact hd nm h
    ·rw [List.mem_singleton] at h; rw [h]; exact h2) h3 h4 (by simpa using hn)
   refine ⟨by rw [ih.1]; simp [h2], fun hb => ?_⟩
   have := ih.2 hb
   simpa using this
  unfold allowsS at no yes
  by_cases c1 : takesV pars q.name < 0
  ·have e : bindStep pars s q = ⟨s.sl, s.ps, s.bad ++ [⟨1, q.name⟩]⟩ := by simp [bindStep, c1]
   rw [e]
   exact no _ e (by simp) (by simp; omega)
  ·obtain ⟨p, hp, hk⟩ := takes_spec (by omega : 0 ≤ takesV pars q.name)
   have c1' : 0 ≤ takesV pars q.name := by omega
   by_cases c2 : p.kind = 4
   ·have e : bindStep pars s q = ⟨s.sl, s.ps ++ [q], s.bad⟩ := by simp [bindStep, c1, hp, c2]
    rw [e]
    refine yes _ hb (by simp [c1', hp, c2]) (fun k => ?_) hl
    have : gotBy pars (done ++ [q.name]) k = gotBy pars done k := by
     unfold gotBy
     rw [List.any_append]
     have : ([q.name].any fun nm => decide (takesV pars nm = k) && (pars[k]?.any fun p => decide (p.kind ≠ 4))) = false := by
      by_cases hk : takesV pars q.name = k
      ·have : (takesV pars q.name).toNat = k := by omega
       rw [this] at hp
       simp [hp, c2]
      ·simp [hk]
     rw [this, Bool.or_false]
    rw [this]; exact hg k
   ·obtain ⟨hnm, hname⟩ : namedP p = true ∧ p.name = q.name := by
     rcases hk with h | h
     ·exact absurd h c2
     ·exact h
    have hK : ((takesV pars q.name).toNat : Int) = takesV pars q.name := by omega
    generalize hKe : (takesV pars q.name).toNat = K at *
    have hlt := (List.getElem?_eq_some_iff.1 hp).1
    have hold : gotBy pars done K = false := by
     unfold gotBy
     rw [List.any_eq_false]
     intro nm hm
     simp only [Bool.and_eq_true, decide_eq_true_eq, not_and]
     intro e _
     obtain ⟨p', hp', hk'⟩ := takes_spec (pars := pars) (nm := nm) (by omega)
     rw [e, Int.toNat_natCast, hp] at hp'
     cases hp'
     rcases hk' with h | h
     ·exact c2 h
     ·have : nm = q.name := by rw [← h.2, hname]
      subst this
      have := List.nodup_append.1 hn
      exact this.2.2 _ hm _ (by simp) rfl
    have hgK := hg K
    rw [hold, Bool.or_false] at hgK
    have hpl := placed_iff hv.nn hv.s2 K p hp
    have key : allowsS pars n q.name = !(decide (K < nPlaces pars) && decide (K < n)) := by
     unfold allowsS
     rw [hKe, hp]
     simp only [c1', decide_true, Bool.true_and, Option.any_some, c2, decide_false, Bool.false_or]
     simp only [namedP, Bool.or_eq_true, decide_eq_true_eq] at hnm
     simp only [placedP, Bool.or_eq_true, decide_eq_true_eq] at hpl
     unfold openP
     rcases hnm with h | h
     ·have : K < nPlaces pars := hpl.1 (.inr h)
      simp only [h, this, decide_true, Bool.true_and]
      by_cases hn' : K < n
      ·have : ¬ n ≤ K := by omega
       simp [hn', this]
      ·have : n ≤ K := by omega
       simp [hn', this]
     ·have : ¬ K < nPlaces pars := fun c => by have := hpl.2 c; omega
      simp [h, this]
    unfold allowsS at key
    rw [hKe] at key
    by_cases c3 : (s.sl[K]?.any (·.given)) = true
    ·have e : bindStep pars s q = ⟨s.sl, s.ps, s.bad ++ [⟨2, q.name⟩]⟩ := by
      simp only [bindStep, if_neg c1, hKe, hp, Option.any_some, c2, decide_false, Bool.false_eq_true, if_false, c3, if_true]
     rw [e]
     exact no _ e (by simp) (by rw [key, ← hgK, c3]; rfl)
    ·have e : bindStep pars s q = ⟨s.sl.set K ⟨true, [q.value]⟩, s.ps, s.bad⟩ := by
      simp only [bindStep, if_neg c1, hKe, hp, Option.any_some, c2, decide_false, Bool.false_eq_true, if_false, if_neg c3]
     rw [e]
     refine yes _ hb (by rw [key, ← hgK, Bool.eq_false_iff.2 c3]; rfl) (fun k => ?_) (by rw [List.length_set]; exact hl)
     simp only
     by_cases hk2 : K = k
     ·subst hk2
      rw [List.getElem?_set_self (by rw [hl]; exact hlt)]
      have : gotBy pars (done ++ [q.name]) K = true := by
       unfold gotBy
       rw [List.any_append, List.any_cons, hp]
       simp [hK, c2]
      rw [this]; simp
     ·rw [List.getElem?_set_ne hk2, hg k]
      have : gotBy pars (done ++ [q.name]) k = gotBy pars done k := by
       unfold gotBy
       rw [List.any_append]
       have : ([q.name].any fun nm => decide (takesV pars nm = k) && (pars[k]?.any fun p => decide (p.kind ≠ 4))) = false := by
        have : ¬ takesV pars q.name = k := by omega
        simp [this]
       rw [this, Bool.or_false]
      rw [this]
theorem missGo_nil : ∀ {ps : List Param} {sl : List Slot}, sl.length = ps.length → (missGo ps sl = [] ↔ ∀ (i : Nat) (p : Param), ps[i]? = some p → singleP p = true → p.hasDefault = false → (sl[i]?.any (·.given)) = true)
 | [], [], _ => by simp [missGo]
 | [], _ :: _, h => by simp at h
 | _ :: _, [], h => by simp at h
 | p :: r, s :: t, h => by
  have ih := missGo_nil (ps := r) (sl := t) (by simpa using h)
  unfold missGo
  constructor
  ·intro hm i q hq h1 h2
   split at hm
   ·cases hm
   ·rename_i c
    cases i with
    | zero => cases hq; simp only [List.getElem?_cons_zero, Option.any_some]; cases hs : s.given with | true => rfl | false => exact absurd ⟨h1, h2, hs⟩ c
    | succ i => exact ih.1 hm i q (by simpa using hq) h1 h2
  ·intro hm
   rw [if_neg]
   ·exact ih.2 fun i q hq => hm (i + 1) q (by simpa using hq)
   ·rintro ⟨h1, h2, h3⟩
    have := hm 0 p rfl h1 h2
    simp [h3] at this
theorem upP_given {l : List Slot0} {m : Nat} {ps : List Pair} {k : Nat} : ((upP l m ps)[k]?.any (·.given)) = (l[k]?.any (·.given)) := by
 rw [upP, List.getElem?_modify, List.getElem?_map]
 cases l[k]? with
 | none => simp
 | some x => by_cases h : m = k <;> simp [h]
theorem bad_mono (pars : List Param) : ∀ (qs : List Pair) (s : BSt), s.bad ≠ [] → (qs.foldl (bindStep pars) s).bad ≠ []
 | [], _, h => h
 | a :: t, s, h => by
  refine bad_mono pars t _ ?_
  unfold bindStep
  simp only
  split
  ·simp
  ·split
   ·exact h
   ·split
    ·simp
    ·exact h
theorem acc_iff {pars : List Param} (hv : VP pars) {f : Flat} (hn : (f.names.map (·.name)).Nodup) : wrongV pars f = [] ↔ accS pars f.places.length (f.names.map (·.name)) := by
 have hleft : leftGo pars f.places = [] ↔ (f.places.length ≤ nPlaces pars ∨ (pars.any fun p => decide (p.kind = 2)) = true) := by
  rw [leftGo_eq hv.nn hv.s2]
  by_cases c : (pars.any fun p => decide (p.kind = 2)) = true
  ·rw [if_pos c]; exact ⟨fun _ => .inr c, fun _ => rfl⟩
  ·rw [if_neg c, List.drop_eq_nil_iff]; exact ⟨fun h => .inl h, fun h => h.resolve_right c⟩
 unfold wrongV accS
 rw [List.append_eq_nil_iff]
 by_cases hl : leftGo pars f.places = []
 ·have F := fold_acc hv f.places.length f.names ⟨slotsGo pars f.places, [], []⟩ [] rfl (fun nm h => by cases h) (fun k => by rw [given0 hv.nn hv.s2]; simp [gotBy]) (slotsGo_len _ _) (by simpa using hn)
  have eB : bindS pars f = f.names.foldl (bindStep pars) ⟨slotsGo pars f.places, [], []⟩ := by rw [bindS, if_pos hl]
  rw [← eB] at F
  have eA : (∀ q ∈ f.names, allowsS pars f.places.length q.name = true) ↔ ∀ nm ∈ f.names.map (·.name), allowsS pars f.places.length nm = true := by
   constructor
   ·intro h nm hm; obtain ⟨q, hq, rfl⟩ := List.mem_map.1 hm; exact h q hq
   ·intro h q hq; exact h _ (List.mem_map.2 ⟨q, hq, rfl⟩)
  rw [F.1, eA]
  constructor
  ·rintro ⟨h1, h2⟩
   refine ⟨hleft.1 hl, h1, fun i p hp hnd => ?_⟩
   have hg := F.2 (F.1.2 (eA.2 h1)) i
   rw [missGo_nil (by unfold boundV; simp [upP, eB, foldS_len, slotsGo_len])] at h2
   simp only [needP, Bool.and_eq_true, Bool.not_eq_true', Bool.and_eq_false_iff] at hnd
   obtain ⟨⟨n1, n2⟩, n3⟩ := hnd
   have := h2 i p hp n1 n2
   rw [boundV, upP_given, hg] at this
   have hpl := placed_iff hv.nn hv.s2 i p hp
   simp only [Bool.or_eq_true, Bool.and_eq_true, decide_eq_true_eq] at this
   rcases this with h | h
   ·exfalso
    rcases n3 with n3 | n3
    ·rw [hpl.2 h.1] at n3; cases n3
    ·simp only [decide_eq_false_iff_not] at n3; exact n3 h.2
   ·unfold gotBy at h
    obtain ⟨nm, hm, hq⟩ := List.any_eq_true.1 h
    simp only [Bool.and_eq_true, decide_eq_true_eq, hp, Option.any_some] at hq
    obtain ⟨p', hp', hk'⟩ := takes_spec (pars := pars) (nm := nm) (by omega)
    rw [hq.1, Int.toNat_natCast, hp] at hp'
    cases hp'
    rcases hk' with h4 | h4
    ·exact absurd h4 (by simpa using hq.2)
    ·exact ⟨h4.1, by rw [h4.2]; simpa using hm⟩
  ·rintro ⟨h0, h1, h2⟩
   refine ⟨h1, ?_⟩
   rw [missGo_nil (by unfold boundV; simp [upP, eB, foldS_len, slotsGo_len])]
   intro i p hp n1 n2
   rw [boundV, upP_given, F.2 (F.1.2 (eA.2 h1)) i]
   have hpl := placed_iff hv.nn hv.s2 i p hp
   by_cases c : placedP p = true ∧ i < f.places.length
   ·simp [hpl.1 c.1, c.2]
   ·have := h2 i p hp (by
     simp only [needP, n1, n2, Bool.not_false, Bool.true_and, Bool.not_eq_true', Bool.and_eq_false_iff, decide_eq_false_iff_not]
     by_cases c1 : placedP p = true
     ·exact .inr fun h => c ⟨c1, h⟩
     ·exact .inl (Bool.eq_false_iff.2 c1))
    have ht := takes_own hv.dist hp this.1
    have h4 : p.kind ≠ 4 := fun e => by have := this.1; simp [namedP, e] at this
    have hgot : gotBy pars ([] ++ f.names.map (·.name)) i = true := by
     unfold gotBy
     refine List.any_eq_true.2 ⟨p.name, by simpa using this.2, ?_⟩
     simp [ht, hp, h4]
    rw [hgot]; simp
 ·have hb : (bindS pars f).bad ≠ [] := by
   rw [bindS, if_neg hl]; exact bad_mono pars _ _ (by simp)
  constructor
  ·intro h; exact absurd h.1 hb
  ·intro h; exact absurd (hleft.2 h.1) hl
/- Texts that ascend. -/
theorem bl_irr (x : Str) : ¬ x < x := List.lt_irrefl x
theorem bl_trans {x y z : Str} (h1 : x < y) (h2 : y < z) : x < z := List.lt_trans h1 h2
theorem bl_tri {x y : Str} (h1 : ¬ x < y) (h2 : x ≠ y) : y < x := by
 apply Classical.byContradiction
 intro h
 exact h2 (List.le_antisymm (List.not_lt.1 h) (List.not_lt.1 h1))
def Asc (l : List Str) : Prop := l.Pairwise (· < ·)
theorem asc_unique : ∀ {a b : List Str}, Asc a → Asc b → (∀ x, x ∈ a ↔ x ∈ b) → a = b
 | [], [], _, _, _ => rfl
 | [], y :: r, _, _, h => absurd ((h y).2 (by simp)) (by simp)
 | x :: r, [], _, _, h => absurd ((h x).1 (by simp)) (by simp)
 | x :: a, y :: b, ha, hb, h => by
  obtain ⟨a1, a2⟩ := List.pairwise_cons.1 ha
  obtain ⟨b1, b2⟩ := List.pairwise_cons.1 hb
  have e : x = y := by
   apply Classical.byContradiction
   intro hne
   have hx : x ∈ b := by
    rcases List.mem_cons.1 ((h x).1 (by simp)) with h1 | h1
    ·exact absurd h1 hne
    ·exact h1
   have hy : y ∈ a := by
    rcases List.mem_cons.1 ((h y).2 (by simp)) with h1 | h1
    ·exact absurd h1.symm hne
    ·exact h1
   exact bl_irr _ (bl_trans (b1 x hx) (a1 y hy))
  subst e
  rw [asc_unique a2 b2 fun z => ?_]
  constructor
  ·intro hz
   rcases List.mem_cons.1 ((h z).1 (List.mem_cons_of_mem _ hz)) with h1 | h1
   ·subst h1; exact absurd (a1 _ hz) (bl_irr _)
   ·exact h1
  ·intro hz
   rcases List.mem_cons.1 ((h z).2 (List.mem_cons_of_mem _ hz)) with h1 | h1
   ·subst h1; exact absurd (b1 _ hz) (bl_irr _)
   ·exact h1
def insT (x : Str) : List Str → List Str
 | [] => [x]
 | y :: r => if y < x then y :: insT x r else if y = x then y :: r else x :: y :: r
def sortT (l : List Str) : List Str := l.foldl (fun out x => insT x out) []
theorem mem_insT {x z : Str} : ∀ {l : List Str}, z ∈ insT x l ↔ z = x ∨ z ∈ l
 | [] => by simp [insT]
 | y :: r => by
  unfold insT
  split
  ·rw [List.mem_cons, mem_insT, List.mem_cons]
   constructor
   ·rintro (h | h | h) <;> simp [h]
   ·rintro (h | h | h) <;> simp [h]
  ·split
   ·rename_i h1 h2; subst h2; simp
   ·simp
theorem asc_insT {x : Str} : ∀ {l : List Str}, Asc l → Asc (insT x l)
 | [], _ => by simp [insT, Asc]
 | y :: r, h => by
  obtain ⟨h1, h2⟩ := List.pairwise_cons.1 h
  unfold insT
  split
  ·rename_i c
   refine List.pairwise_cons.2 ⟨fun z hz => ?_, asc_insT h2⟩
   rcases mem_insT.1 hz with rfl | hz
   ·exact c
   ·exact h1 z hz
  ·rename_i c
   split
   ·exact h
   ·rename_i c2
    have := bl_tri c c2
    refine List.pairwise_cons.2 ⟨fun z hz => ?_, h⟩
    rcases List.mem_cons.1 hz with rfl | hz
    ·exact this
    ·exact bl_trans this (h1 z hz)
theorem mem_foldT {z : Str} : ∀ {l out : List Str}, z ∈ l.foldl (fun out x => insT x out) out ↔ z ∈ out ∨ z ∈ l
 | [], out => by simp
 | x :: r, out => by
  rw [List.foldl_cons, mem_foldT, mem_insT, List.mem_cons]
  constructor
  ·rintro ((h | h) | h) <;> simp [h]
  ·rintro (h | h | h) <;> simp [h]
theorem asc_foldT : ∀ {l out : List Str}, Asc out → Asc (l.foldl (fun out x => insT x out) out)
 | [], out, h => h
 | x :: r, out, h => by rw [List.foldl_cons]; exact asc_foldT (asc_insT h)
theorem mem_sortT {z : Str} {l : List Str} : z ∈ sortT l ↔ z ∈ l := by rw [sortT, mem_foldT]; simp
theorem asc_sortT (l : List Str) : Asc (sortT l) := asc_foldT List.Pairwise.nil
theorem insT_len {x : Str} : ∀ l : List Str, (insT x l).length ≤ l.length + 1
 | [] => by simp [insT]
 | y :: r => by
  unfold insT
  split
  ·have := insT_len (x := x) r; simp; omega
  ·split <;> simp
theorem foldT_len : ∀ (l out : List Str), (l.foldl (fun out x => insT x out) out).length ≤ out.length + l.length
 | [], out => by simp
 | x :: r, out => by
  rw [List.foldl_cons]
  have h1 := foldT_len r (insT x out)
  have h2 := insT_len (x := x) out
  simp; omega
theorem sortT_len (l : List Str) : (sortT l).length ≤ l.length := by have := foldT_len l []; simpa [sortT] using this
theorem asc_nodup {l : List Str} (h : Asc l) : l.Nodup := List.Pairwise.imp (fun {a b} h e => by subst e; exact bl_irr _ h) h
theorem sortT_asc {l : List Str} (h : Asc l) : sortT l = l := asc_unique (asc_sortT l) h fun _ => mem_sortT
theorem find_asc {P : Str → Bool} : ∀ {l : List Str} {x : Str}, Asc l → (l.find? P = some x ↔ x ∈ l ∧ P x = true ∧ ∀ y ∈ l, P y = true → ¬ y < x)
 | [], x, _ => by simp
 | y :: r, x, h => by
  obtain ⟨h1, h2⟩ := List.pairwise_cons.1 h
  rw [List.find?_cons]
  cases hy : P y with
  | true =>
   simp only [Option.some.injEq]
   constructor
   ·rintro rfl
    refine ⟨by simp, hy, fun z hz _ => ?_⟩
    rcases List.mem_cons.1 hz with rfl | hz
    ·exact bl_irr _
    ·exact fun hlt => bl_irr _ (bl_trans (h1 z hz) hlt)
   ·rintro ⟨hx, hp, hm⟩
    rcases List.mem_cons.1 hx with rfl | hx
    ·rfl
    ·exact absurd (h1 x hx) (hm y (by simp) hy)
  | false =>
   simp only
   rw [find_asc h2]
   constructor
   ·rintro ⟨a, b, c⟩
    refine ⟨by simp [a], b, fun z hz hp => ?_⟩
    rcases List.mem_cons.1 hz with rfl | hz
    ·rw [hy] at hp; cases hp
    ·exact c z hz hp
   ·rintro ⟨a, b, c⟩
    rcases List.mem_cons.1 a with rfl | a
    ·rw [hy] at b; cases b
    ·exact ⟨a, b, fun z hz hp => c z (by simp [hz]) hp⟩
theorem find_same {P : Str → Bool} {a b : List Str} (ha : Asc a) (hb : Asc b) (h1 : ∀ x ∈ a, P x = true → (∃ y ∈ b, P y = true ∧ ¬ x < y)) (h2 : ∀ y ∈ b, P y = true → (∃ x ∈ a, P x = true ∧ ¬ y < x)) : a.find? P = b.find? P := by
 cases ea : a.find? P with
 | none =>
  cases eb : b.find? P with
  | none => rfl
  | some y =>
   obtain ⟨m, p, _⟩ := (find_asc hb).1 eb
   obtain ⟨x, hx, px, _⟩ := h2 y m p
   rw [List.find?_eq_none] at ea
   exact absurd px (ea x hx)
 | some x =>
  obtain ⟨m, p, lx⟩ := (find_asc ha).1 ea
  obtain ⟨y0, hy0, py0, _⟩ := h1 x m p
  cases eb : b.find? P with
  | none => rw [List.find?_eq_none] at eb; exact absurd py0 (eb y0 hy0)
  | some y =>
   obtain ⟨m', p', ly⟩ := (find_asc hb).1 eb
   congr 1
   apply Classical.byContradiction
   intro hne
   by_cases c : x < y
   ·obtain ⟨z, hz, pz, nz⟩ := h1 x m p
    by_cases e : z = x
    ·subst e; exact ly z hz pz c
    ·exact ly z hz pz (bl_trans (bl_tri (fun h => nz h) (fun e' => e e'.symm)) c)
   ·have c' := bl_tri c hne
    obtain ⟨z, hz, pz, nz⟩ := h2 y m' p'
    by_cases e : z = y
    ·subst e; exact lx z hz pz c'
    ·exact lx z hz pz (bl_trans (bl_tri (fun h => nz h) (fun e' => e e'.symm)) c')
def nextName (s : Str) : Str :=
 if s.length < 6 then s ++ [97] else
  let t := s.reverse.dropWhile (fun b => b == 122)
  match t with
  | [] => []
  | b :: r => (r.reverse) ++ [b + 1]
def gensGo : Nat → Str → List Str
 | 0, _ => []
 | n + 1, s => s :: gensGo n (nextName s)
def gens : List Str := gensGo 40 [97]
theorem gens_asc : Asc gens := by unfold Asc; decide
theorem gens_name : ∀ s ∈ gens, isName s = true := by decide
theorem gens_len : gens.length = 40 := by decide
theorem length_le_of_sub : ∀ {l k : List Str}, l.Nodup → (∀ x ∈ l, x ∈ k) → l.length ≤ k.length
 | [], k, _, _ => by simp
 | x :: l, k, h, hs => by
  obtain ⟨h1, h2⟩ := List.nodup_cons.1 h
  have hx := hs x (by simp)
  have := length_le_of_sub (l := l) (k := k.erase x) h2 fun y hy => (List.mem_erase_of_ne (fun e => h1 (by rw [← e]; exact hy))).2 (hs y (by simp [hy]))
  rw [List.length_erase_of_mem hx] at this
  have := List.length_pos_of_mem hx
  simp; omega
theorem fresh_ex {pn : List Str} (h : pn.length ≤ 39) : ∃ g, gens.find? (fun g => !pn.contains g) = some g := by
 cases e : gens.find? (fun g => !pn.contains g) with
 | some g => exact ⟨g, rfl⟩
 | none =>
  exfalso
  rw [List.find?_eq_none] at e
  have := length_le_of_sub (asc_nodup gens_asc) (k := pn) fun x hx => by have := e x hx; simpa using this
  rw [gens_len] at this; omega
theorem cand_same {P : Str → Bool} {pn : List Str} {f : Str} (hf : gens.find? (fun g => !pn.contains g) = some f) (hP : ∀ g ∈ gens, g ∉ pn → P g = P f) : (sortT (pn ++ gens)).find? P = (sortT (pn ++ [f])).find? P := by
 obtain ⟨m, p, l⟩ := (find_asc gens_asc).1 hf
 refine find_same (asc_sortT _) (asc_sortT _) (fun x hx px => ?_) (fun y hy py => ?_)
 ·rw [mem_sortT, List.mem_append] at hx
  by_cases hxp : x ∈ pn
  ·exact ⟨x, mem_sortT.2 (List.mem_append_left _ hxp), px, bl_irr _⟩
  ·have hg : x ∈ gens := hx.resolve_left hxp
   refine ⟨f, mem_sortT.2 (by simp), by rw [← hP x hg hxp]; exact px, l x hg (by simpa using hxp)⟩
 ·rw [mem_sortT, List.mem_append, List.mem_singleton] at hy
  refine ⟨y, mem_sortT.2 ?_, py, bl_irr _⟩
  rcases hy with h | rfl
  ·exact List.mem_append_left _ h
  ·exact List.mem_append_right _ m
/- Counts and names that are needed. -/
def takesCountB (A : List Param) (n : Nat) : Bool := (decide (n ≤ nPlaces A) || A.any fun p => decide (p.kind = 2)) && ((A.drop n).all fun p => !(decide (p.kind = 0) && !p.hasDefault))
def needL (A : List Param) (n : Nat) : List Str := (A.zipIdx.filter fun x => openP x.1 x.2 n && !x.1.hasDefault).map fun x => x.1.name
def needsT (A : List Param) (n : Nat) : List Str := sortT (needL A n)
theorem mem_needL {A : List Param} {n : Nat} {x : Str} : x ∈ needL A n ↔ ∃ (i : Nat) (p : Param), A[i]? = some p ∧ openP p i n = true ∧ p.hasDefault = false ∧ p.name = x := by
 unfold needL
 rw [List.mem_map]
 constructor
 ·rintro ⟨⟨p, i⟩, h, rfl⟩
  obtain ⟨h1, h2⟩ := List.mem_filter.1 h
  simp only [Bool.and_eq_true, Bool.not_eq_true'] at h2
  exact ⟨i, p, List.mem_zipIdx_iff_getElem?.1 h1, h2.1, h2.2, rfl⟩
 ·rintro ⟨i, p, h1, h2, h3, rfl⟩
  exact ⟨(p, i), List.mem_filter.2 ⟨List.mem_zipIdx_iff_getElem?.2 h1, by simp [h2, h3]⟩, rfl⟩
theorem accS_iff {A : List Param} (hv : VP A) {n : Nat} {names : List Str} : accS A n names ↔ takesCountB A n = true ∧ (∀ x ∈ names, allowsS A n x = true) ∧ ∀ x ∈ needL A n, x ∈ names := by
 unfold accS takesCountB
 simp only [Bool.and_eq_true, Bool.or_eq_true, decide_eq_true_eq]
 have hpl := placed_iff hv.nn hv.s2
 constructor
 ·rintro ⟨h1, h2, h3⟩
  refine ⟨⟨h1, ?_⟩, h2, fun x hx => ?_⟩
  ·rw [List.all_eq_true]
   intro p hp
   obtain ⟨i, hi⟩ := List.getElem?_of_mem hp
   rw [List.getElem?_drop] at hi
   simp only [Bool.not_eq_true', Bool.and_eq_false_iff, decide_eq_false_iff_not, Bool.not_eq_false']
   by_cases k : p.kind = 0
   ·right
    cases hd : p.hasDefault with
    | true => rfl
    | false =>
     have := h3 _ p hi (by simp [needP, singleP, placedP, k, hd])
     simp [namedP, k] at this
   ·exact .inl k
  ·obtain ⟨i, p, hi, ho, hd, rfl⟩ := mem_needL.1 hx
   refine (h3 i p hi ?_).2
   simp only [openP, Bool.or_eq_true, Bool.and_eq_true, decide_eq_true_eq] at ho
   simp only [needP, singleP, namedP, placedP, hd, Bool.not_false, Bool.and_true, Bool.and_eq_true, Bool.or_eq_true, decide_eq_true_eq, Bool.not_eq_true', Bool.and_eq_false_iff, Bool.or_eq_false_iff, decide_eq_false_iff_not]
   omega
 ·rintro ⟨⟨h1, h2⟩, h3, h4⟩
  refine ⟨h1, h3, fun i p hp hn => ?_⟩
  simp only [needP, singleP, Bool.and_eq_true, Bool.not_eq_true', Bool.and_eq_false_iff] at hn
  obtain ⟨⟨n1, n2⟩, n3⟩ := hn
  by_cases k : p.kind = 0
  ·exfalso
   have hi : ¬ i < n := by
    rcases n3 with h | h
    ·simp [placedP, k] at h
    ·simpa using h
   rw [List.all_eq_true] at h2
   have := h2 p (List.mem_of_getElem? (i := i - n) (by rw [List.getElem?_drop, show n + (i - n) = i by omega]; exact hp))
   simp [k, n2] at this
  ·have hnm : namedP p = true := by
    simp only [placedP, namedP, Bool.or_eq_true, decide_eq_true_eq] at n1 ⊢
    omega
   refine ⟨hnm, h4 _ (mem_needL.2 ⟨i, p, hp, ?_, n2, rfl⟩)⟩
   simp only [namedP, placedP, Bool.or_eq_true, Bool.or_eq_false_iff, decide_eq_true_eq, decide_eq_false_iff_not] at hnm n3
   simp only [openP, Bool.or_eq_true, Bool.and_eq_true, decide_eq_true_eq]
   omega
theorem needL_allows {A : List Param} (hv : VP A) {n : Nat} {x : Str} (h : x ∈ needL A n) : allowsS A n x = true := by
 obtain ⟨i, p, hi, ho, hd, rfl⟩ := mem_needL.1 h
 have hnm : namedP p = true := by
  simp only [openP, namedP, Bool.or_eq_true, Bool.and_eq_true, decide_eq_true_eq] at ho ⊢
  omega
 have := takes_own hv.dist hi hnm
 unfold allowsS
 rw [this, Int.toNat_natCast, hi]
 simp [ho]
theorem accS_needs {A : List Param} (hv : VP A) {n : Nat} : accS A n (needsT A n) ↔ takesCountB A n = true := by
 rw [accS_iff hv]
 exact ⟨fun h => h.1, fun h => ⟨h, fun x hx => needL_allows hv (mem_sortT.1 hx), fun x hx => mem_sortT.2 hx⟩⟩
theorem accS_more {A : List Param} (hv : VP A) {n : Nat} {names : List Str} {x : Str} (h : accS A n names) : accS A n (insT x names) ↔ allowsS A n x = true := by
 rw [accS_iff hv] at h ⊢
 obtain ⟨h1, h2, h3⟩ := h
 constructor
 ·intro h; exact h.2.1 x (mem_insT.2 (.inl rfl))
 ·intro hx
  refine ⟨h1, fun y hy => ?_, fun y hy => mem_insT.2 (.inr (h3 y hy))⟩
  rcases mem_insT.1 hy with rfl | hy
  ·exact hx
  ·exact h2 y hy
theorem allows_new {A : List Param} {n : Nat} {x : Str} (h : ∀ p ∈ A, p.name ≠ x) : allowsS A n x = A.any fun p => decide (p.kind = 4) := by
 have e : findParam A x = -1 := by
  unfold findParam findI
  rw [List.findIdx?_eq_none_iff.2 (fun p hp => by simpa using h p hp)]; rfl
 have e2 : takesV A x = kindAt A 4 := by unfold takesV; rw [e, if_neg (by omega)]
 unfold allowsS
 rw [e2]
 unfold kindAt findI
 cases e3 : A.findIdx? (fun p => decide (p.kind = 4)) with
 | none =>
  rw [List.findIdx?_eq_none_iff] at e3
  have : (A.any fun p => decide (p.kind = 4)) = false := by rw [List.any_eq_false]; intro p hp; have := e3 p hp; simpa using this
  rw [this]; rfl
 | some k =>
  obtain ⟨hk, hp, _⟩ := List.findIdx?_eq_some_iff_getElem.1 e3
  have : (A.any fun p => decide (p.kind = 4)) = true := List.any_eq_true.2 ⟨_, List.getElem_mem hk, hp⟩
  rw [this]
  simp only [idxOr, show ((0 : Int) + (k : Int)).toNat = k by omega, List.getElem?_eq_getElem hk, Option.any_some]
  rw [hp]; simp
def refP (A B : List Param) (n : Nat) (x : Str) : Bool := allowsS A n x && !(needsT A n).contains x && !allowsS B n x
theorem refP_new {A B : List Param} {n : Nat} {x : Str} (ha : ∀ p ∈ A, p.name ≠ x) (hb : ∀ p ∈ B, p.name ≠ x) : refP A B n x = ((A.any fun p => decide (p.kind = 4)) && !(B.any fun p => decide (p.kind = 4))) := by
 have : (needsT A n).contains x = false := by
  rw [Bool.eq_false_iff]
  intro h
  obtain ⟨i, p, hi, _, _, e⟩ := mem_needL.1 (mem_sortT.1 (List.contains_iff_mem.1 h))
  exact ha p (List.mem_of_getElem? hi) e
 rw [refP, allows_new ha, allows_new hb, this]; simp
def parNames (A B : List Param) : List Str := A.map (·.name) ++ B.map (·.name)
theorem ref_cand {A B : List Param} {n : Nat} {f : Str} (hf : gens.find? (fun g => !(parNames A B).contains g) = some f) : (sortT (parNames A B ++ gens)).find? (refP A B n) = (sortT (parNames A B ++ [f])).find? (refP A B n) := by
 have new : ∀ g, g ∉ parNames A B → refP A B n g = ((A.any fun p => decide (p.kind = 4)) && !(B.any fun p => decide (p.kind = 4))) := fun g hg => by
  simp only [parNames, List.mem_append, List.mem_map, not_or, not_exists, not_and] at hg
  exact refP_new hg.1 hg.2
 refine cand_same hf fun g _ hgn => ?_
 have hfn : f ∉ parNames A B := by have := List.find?_some hf; simpa using this
 rw [new g hgn, new f hfn]
/- The first refused shape, by its count. -/
def refAt (A B : List Param) (n : Nat) : Option (List Str) :=
 if takesCountB A n = true then
  (if takesCountB B n = true ∧ ((needsT A n).all fun x => allowsS B n x) = true ∧ ((needL B n).all fun x => (needsT A n).contains x) = true then
   (if (needsT A n).length < 8 then ((sortT (parNames A B ++ gens)).find? (refP A B n)).map fun x => insT x (needsT A n) else none)
  else some (needsT A n))
 else none
def okShape (n : Nat) (names : List Str) : Prop := n ≤ 8 ∧ names.length ≤ 8 ∧ Asc names ∧ ∀ x ∈ names, isName x = true
theorem accB_iff {A B : List Param} (hb : VP B) {n : Nat} : (takesCountB B n = true ∧ ((needsT A n).all fun x => allowsS B n x) = true ∧ ((needL B n).all fun x => (needsT A n).contains x) = true) ↔ accS B n (needsT A n) := by
 rw [accS_iff hb, List.all_eq_true, List.all_eq_true]
 simp only [List.contains_iff_mem]
theorem insT_new {x : Str} : ∀ {l : List Str}, x ∉ l → (insT x l).length = l.length + 1
 | [], _ => rfl
 | y :: r, h => by
  simp only [List.mem_cons, not_or] at h
  unfold insT
  split
  ·simp [insT_new h.2]
  ·split
   ·rename_i e; exact absurd e.symm h.1
   ·rfl
structure VN (A : List Param) : Prop extends VP A where
 len : A.length ≤ 8
 nm : ∀ p ∈ A, isName p.name = true
theorem needsT_ok {A : List Param} (h : VN A) {n : Nat} (hn : n ≤ 8) : okShape n (needsT A n) := by
 refine ⟨hn, ?_, asc_sortT _, fun x hx => ?_⟩
 ·refine Nat.le_trans (sortT_len _) ?_
  unfold needL
  rw [List.length_map]
  refine Nat.le_trans (List.length_filter_le _ _) ?_
  rw [List.length_zipIdx]; exact h.len
 ·obtain ⟨i, p, hi, _, _, rfl⟩ := mem_needL.1 (mem_sortT.1 hx)
  exact h.nm p (List.mem_of_getElem? hi)
theorem cand_name {A B : List Param} (ha : VN A) (hb : VN B) {x : Str} (h : x ∈ sortT (parNames A B ++ gens)) : isName x = true := by
 rw [mem_sortT, List.mem_append] at h
 rcases h with h | h
 ·simp only [parNames, List.mem_append, List.mem_map] at h
  rcases h with ⟨p, hp, rfl⟩ | ⟨p, hp, rfl⟩
  ·exact ha.nm p hp
  ·exact hb.nm p hp
 ·exact gens_name x h
def firstRef (A B : List Param) : Nat → Nat → Option (Nat × List Str)
 | 0, _ => none
 | k + 1, n => match refAt A B n with
  | some y => some (n, y)
  | none => firstRef A B k (n + 1)
def refusedV (A B : List Param) : Option (Nat × List Str) := firstRef A B 9 0
theorem find_none {pre : List Param} {x : Str} (h : findParam pre x < 0) : ∀ q ∈ pre, q.name ≠ x := by
 unfold findParam findI at h
 cases e : pre.findIdx? (fun p => decide (p.name = x)) with
 | none => rw [List.findIdx?_eq_none_iff] at e; intro q hq; have := e q hq; simpa using this
 | some k => rw [e] at h; simp only [idxOr] at h; omega
theorem validGo_dist : ∀ {r pre : List Param}, validGo pre r = true → (∀ p ∈ r, ∀ q ∈ pre, q.name ≠ p.name) ∧ r.Pairwise fun a b => a.name ≠ b.name
 | [], _, _ => ⟨fun p hp => (by cases hp), List.Pairwise.nil⟩
 | x :: r, pre, h => by
  simp only [validGo, Bool.and_eq_true, decide_eq_true_eq] at h
  obtain ⟨⟨⟨h1, h2⟩, h3⟩, h4⟩ := h
  obtain ⟨i1, i2⟩ := validGo_dist h4
  refine ⟨fun p hp q hq => ?_, List.pairwise_cons.2 ⟨fun p hp => i1 p hp x (by simp), i2⟩⟩
  rcases List.mem_cons.1 hp with rfl | hp
  ·exact find_none h2 q hq
  ·exact i1 p hp q (List.mem_append_left _ hq)
theorem validParams_VN {A : List Param} (h : validParams A = true) : VN A := by
 simp only [validParams, Bool.and_eq_true, decide_eq_true_eq] at h
 obtain ⟨h1, h2⟩ := h
 have hm := validGo_mem h1
 obtain ⟨_, hd⟩ := validGo_dist h1
 refine ⟨⟨fun p hp => (kind_rng (hm p hp)).1, fun p hp => (kind_rng (hm p hp)).2, validGo_sorted2 h1, fun a b x y hx hy e => ?_⟩, by omega, fun p hp => vp_name (hm p hp)⟩
 apply Classical.byContradiction
 intro hne
 obtain ⟨ha, ea⟩ := List.getElem?_eq_some_iff.1 hx
 obtain ⟨hb, eb⟩ := List.getElem?_eq_some_iff.1 hy
 rw [List.pairwise_iff_getElem] at hd
 rcases Nat.lt_or_gt_of_ne hne with h | h
 ·exact hd a b ha hb h (by rw [ea, eb, e])
 ·exact hd b a hb ha h (by rw [ea, eb, e])
theorem placesN_eq : ∀ ps : List Param, placesN ps = (nPlaces ps : Int)
 | [] => rfl
 | p :: r => by
  have := placesN_eq r
  unfold placesN at this ⊢
  unfold nPlaces
  rw [List.countP_cons]
  split <;> omega
end Go.Proofs.YtchpopejojghmaaGreatDoor.M
