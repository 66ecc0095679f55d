/- The steps of calls that rewrite their caller's texts; what is sorted and what is compacted. -/
import Derived.Test.YtchpopejojghmaaGreatDoorLS
import Derived.Test.YtchpopejojghmaaGreatDoorX1
set_option linter.unusedVariables false
set_option linter.unusedSimpArgs false
set_option linter.unusedSectionVars false
namespace Go.Proofs.YtchpopejojghmaaGreatDoor.M
open Go Go.Proofs
set_option maxRecDepth 100000
theorem bd_texts {l : List Str} (h1 : l.length < 4611686018427387904) (h2 : ∀ s ∈ l, s.length ≤ 9223372036854775807) : BdR (l.map eS) := by
 refine ⟨by rw [List.length_map]; unfold bnd63; omega, fun r hr c hc => ?_⟩
 obtain ⟨s, hs, rfl⟩ := List.mem_map.1 hr
 simp only [eS, List.mem_singleton] at hc
 subst hc
 refine .str _ ?_
 have := h2 s hs
 unfold bnd63
 exact this
def okTexts (l : List Str) : Prop := l.length < 4611686018427387904 ∧ ∀ s ∈ l, s.length ≤ 9223372036854775807
theorem mem_sortL {x : Str} {l : List Str} : x ∈ sortL l ↔ x ∈ l := (List.mergeSort_perm l _).mem_iff
theorem sortL_len (l : List Str) : (sortL l).length = l.length := (List.mergeSort_perm l _).length_eq
section
variable {rg : Option Nat} {A : Bx} {G : Glob} {V : Vx} {R : Type} {r : R} {own : Nat} {o : Nat → EObj} {K : C → List (Nat × EObj) → Prop}
theorem s_inlSort (hA : IsBx true rg pg G A) (hV : IsV V) {id gen n : Nat} {l : List Str} {f : List Str → Option R} (ho : o id = ⟨gen, true, 1, .many (V.rS l)⟩) (hn : n = l.length) (h8 : okTexts l) (H : lv (sortL l) f = some r)
  (h : ∀ l', V.nS l' = V.nS l → f l' = some r → K (.tup []) [(id, ⟨gen, true, 1, .many (V.rS l')⟩)]) : A.call own o 147 [.ref id gen 1 0 n] K := by
 rw [hA.call]
 refine Or.inr ⟨_, _, ⟨fun o' ho' => ?_, fun _ ha => ?_⟩, h (sortL l) (by rw [hV.nS, hV.nS, sortL_len]) H⟩
 ·subst hn
  have e : o' id = ⟨gen, true, 1, l.map eS⟩ := by
   rw [ho' id (by simp)]; unfold toO; rw [ho]; simp only [EObj.toObj, ED.rows, hV.rS]
  have := sort_inl (G := G) h8.1 e
  simp only [upsO, List.map_cons, List.map_nil, EObj.toObj, ED.rows, hV.rS]
  exact this
 ·refine ⟨.tup _ (fun v hv => by cases hv), fun p hp => ?_⟩
  rw [List.mem_singleton] at hp; subst hp
  simp only [ED.rows, hV.rS]
  exact bd_texts (by rw [sortL_len]; exact h8.1) fun s hs => h8.2 s (mem_sortL.1 hs)
theorem compact_mem {l : List Str} : ∀ x ∈ Lib.compact l, x ∈ l := by
 intro x hx
 unfold Lib.compact Lib.compactUpTo at hx
 obtain ⟨j, hj, rfl⟩ := List.mem_map.1 hx
 have := List.mem_range.1 (List.mem_filter.1 hj).1
 simp [this]
theorem compact_len (l : List Str) : (Lib.compact l).length ≤ l.length := by
 unfold Lib.compact Lib.compactUpTo
 rw [List.length_map]
 refine Nat.le_trans (List.length_filter_le _ _) ?_
 rw [List.length_range]; exact Nat.le_refl _
theorem s_inlCompact (hA : IsBx true rg pg G A) (hV : IsV V) {id gen n : Nat} {l : List Str} {f : List Str → Option R} (ho : o id = ⟨gen, true, 1, .many (V.rS l)⟩) (hn : n = l.length) (h8 : okTexts l) (H : lv (Lib.compact l) f = some r)
  (h : ∀ c p : List Str, p.take c.length = c → f c = some r → K (.ref id gen 1 0 (V.nS c)) [(id, ⟨gen, true, 1, .many (V.rS p)⟩)]) : A.call own o 149 [.ref id gen 1 0 n] K := by
 rw [hA.call]
 have hcl := compact_len l
 refine Or.inr ⟨_, _, ⟨fun o' ho' => ?_, fun _ ha => ?_⟩, h (Lib.compact l) (Lib.compact l ++ List.replicate (l.length - (Lib.compact l).length) []) (by simp) H⟩
 ·subst hn
  have e : o' id = ⟨gen, true, 1, l.map eS⟩ := by
   rw [ho' id (by simp)]; unfold toO; rw [ho]; simp only [EObj.toObj, ED.rows, hV.rS]
  have := compact_inl (G := G) h8.1 e hcl
  simp only [upsO, List.map_cons, List.map_nil, EObj.toObj, ED.rows, hV.rS, hV.nS]
  exact this
 ·refine ⟨.ref _ _ _ _ _ (by rw [hV.nS]; have := h8.1; unfold bnd63; omega), fun p hp => ?_⟩
  rw [List.mem_singleton] at hp; subst hp
  simp only [ED.rows, hV.rS]
  refine bd_texts (by simp; have := h8.1; omega) fun s hs => ?_
  rcases List.mem_append.1 hs with hs | hs
  ·exact h8.2 s (compact_mem s hs)
  ·rw [(List.mem_replicate.1 hs).2]; exact Nat.zero_le _
theorem s_inlGrowS (hA : IsBx true rg pg G A) (hV : IsV V) {n : Int} {f : List Str → Option R} (hn : 0 ≤ n ∧ n ≤ 1000000000) (H : lv ([] : List Str) f = some r)
  (h : ∀ l, f l = some r → K (.ref own ((o own).gen + 1) 1 0 (V.nS l)) [(own, ⟨(o own).gen + 1, true, 1, .many (V.rS l)⟩)]) : A.call own o 182 [.nils, .int .i64 n] K := by
 rw [hA.call]
 refine Or.inr ⟨_, _, ⟨fun o' ho' => ?_, fun _ ha => ?_⟩, h [] H⟩
 ·have eg : (o' own).gen = (o own).gen := by rw [ho' own (by simp)]; rfl
  have := growS_inl (G := G) (o := o') (id := own) hn.1 hn.2
  rw [eg] at this
  simp only [upsO, List.map_cons, List.map_nil, EObj.toObj, ED.rows, hV.rS, hV.nS, List.length_nil]
  exact this
 ·refine ⟨.ref _ _ _ _ _ (by rw [hV.nS]; exact Nat.zero_le _), fun p hp => ?_⟩
  rw [List.mem_singleton] at hp; subst hp
  simp only [ED.rows, hV.rS, List.map_nil]
  exact ⟨Nat.zero_le _, fun r hr => by cases hr⟩
theorem s_inlGrowParam (hA : IsBx true rg pg G A) (hV : IsV V) {n : Int} {f : List Param → Option R} (hn : 0 ≤ n ∧ n ≤ 1000000000) (H : lv ([] : List Param) f = some r)
  (h : ∀ l, f l = some r → K (.ref own ((o own).gen + 1) 4 0 (V.nParam l)) [(own, ⟨(o own).gen + 1, true, 4, .many (V.rParam l)⟩)]) : A.call own o 190 [.nils, .int .i64 n] K := by
 rw [hA.call]
 refine Or.inr ⟨_, _, ⟨fun o' ho' => ?_, fun _ ha => ?_⟩, h [] H⟩
 ·have eg : (o' own).gen = (o own).gen := by rw [ho' own (by simp)]; rfl
  have := growP_inl (G := G) (o := o') (id := own) hn.1 hn.2
  rw [eg] at this
  simp only [upsO, List.map_cons, List.map_nil, EObj.toObj, ED.rows, hV.rParam, hV.nParam, List.length_nil]
  exact this
 ·refine ⟨.ref _ _ _ _ _ (by rw [hV.nParam]; exact Nat.zero_le _), fun p hp => ?_⟩
  rw [List.mem_singleton] at hp; subst hp
  simp only [ED.rows, hV.rParam, List.map_nil]
  exact ⟨Nat.zero_le _, fun r hr => by cases hr⟩
end
section
variable {α : Type} {e : α → List C} {v : List α → List (List C)} {nv : List α → Nat}
theorem s_tkH (hr : ∀ l, v l = l.map e) (hn : ∀ l, nv l = l.length) {l l' : List α} {K : List (List C) → Prop} (he : nv l' = nv l) (h : K (v l')) : ∀ ys, ys = List.take (nv l) (List.drop 0 (v l')) → K ys := by
 rintro ys rfl; rw [List.drop_zero, ← he, hn, hr, List.take_of_length_le (by simp), ← hr]; exact h
theorem s_tkC (hr : ∀ l, v l = l.map e) (hn : ∀ l, nv l = l.length) {c p : List α} {K : List (List C) → Prop} (he : p.take c.length = c) (h : K (v c)) : ∀ ys, ys = List.take (nv c) (List.drop 0 (v p)) → K ys := by
 rintro ys rfl
 rw [List.drop_zero, hn, hr, ← List.map_take, he, ← hr]; exact h
theorem s_cle0 (hr : ∀ l, v l = l.map e) (hn : ∀ l, nv l = l.length) {c p : List α} (he : p.take c.length = c) : 0 + nv c ≤ (v p).length := by
 have := congrArg List.length he
 rw [List.length_take] at this
 rw [hn, hr, List.length_map]; omega
theorem s_cle (hr : ∀ l, v l = l.map e) (hn : ∀ l, nv l = l.length) {c p : List α} (he : p.take c.length = c) : nv c ≤ (v p).length := by
 have := congrArg List.length he
 rw [List.length_take] at this
 rw [hn, hr, List.length_map]; omega
end
theorem sortL_le (l : List Str) : (sortL l).Pairwise (· ≤ ·) := by
 have := List.pairwise_mergeSort (le := fun x y : Str => decide (x ≤ y)) (fun a b c h1 h2 => decide_eq_true (List.le_trans (of_decide_eq_true h1) (of_decide_eq_true h2))) (fun a b => by
  rcases List.le_total a b with h | h <;> simp [h]) l
 exact this.imp fun h => of_decide_eq_true h
theorem lt_of_le {x y z : Str} (h1 : x ≤ y) (h2 : y < z) : x < z := by
 by_cases c : x < y
 ·exact bl_trans c h2
 ·by_cases e : x = y
  ·subst e; exact h2
  ·exact absurd (bl_tri c e) (List.not_lt.2 h1)
theorem lt_of_ne {x y : Str} (h1 : x ≤ y) (h2 : x ≠ y) : x < y := by
 apply Classical.byContradiction
 intro c
 exact absurd (bl_tri c h2) (List.not_lt.2 h1)
theorem asc_of_le : ∀ {l : List Str}, l.Pairwise (· ≤ ·) → l.Nodup → Asc l
 | [], _, _ => List.Pairwise.nil
 | x :: r, h, hn => by
  obtain ⟨h1, h2⟩ := List.pairwise_cons.1 h
  obtain ⟨n1, n2⟩ := List.nodup_cons.1 hn
  exact List.pairwise_cons.2 ⟨fun y hy => lt_of_ne (h1 y hy) fun e => n1 (e ▸ hy), asc_of_le h2 n2⟩
theorem sortL_T {l : List Str} (h : l.Nodup) : sortL l = sortT l :=
 asc_unique (asc_of_le (sortL_le l) ((List.mergeSort_perm l _).nodup_iff.2 h)) (asc_sortT l) fun x => by rw [mem_sortL, mem_sortT]
theorem comp_asc {d : Array Str} (hs : ∀ i j, i ≤ j → j < d.size → d[i]! ≤ d[j]!) : ∀ m, m ≤ d.size → Asc (Lib.compactUpTo d m) ∧ ∀ x, x ∈ Lib.compactUpTo d m ↔ ∃ j, j < m ∧ d[j]! = x
 | 0, _ => ⟨by simp [Lib.compactUpTo, Asc], fun x => by simp [Lib.compactUpTo]⟩
 | m + 1, hm => by
  obtain ⟨h1, h2⟩ := comp_asc hs m (by omega)
  rw [Lib.compactUpTo_succ]
  by_cases k : Lib.keeps d m = true
  ·rw [if_pos k]
   refine ⟨List.pairwise_append.2 ⟨h1, by simp, fun x hx y hy => ?_⟩, fun x => ?_⟩
   ·rw [List.mem_singleton] at hy; subst hy
    obtain ⟨j, hj, rfl⟩ := (h2 x).1 hx
    have hk : d[m]! ≠ d[m - 1]! := by
     simp only [Lib.keeps, decide_eq_true_eq] at k
     exact k.resolve_left (by omega)
    exact lt_of_le (hs j (m - 1) (by omega) (by omega)) (lt_of_ne (hs (m - 1) m (by omega) (by omega)) (Ne.symm hk))
   ·rw [List.mem_append, h2, List.mem_singleton]
    constructor
    ·rintro (⟨j, hj, e⟩ | e)
     ·exact ⟨j, by omega, e⟩
     ·exact ⟨m, by omega, e.symm⟩
    ·rintro ⟨j, hj, e⟩
     by_cases c : j = m
     ·subst c; exact .inr e.symm
     ·exact .inl ⟨j, by omega, e⟩
  ·rw [if_neg k, List.append_nil]
   refine ⟨h1, fun x => ?_⟩
   rw [h2]
   have hk : m ≠ 0 ∧ d[m]! = d[m - 1]! := by
    simp only [Lib.keeps, decide_eq_true_eq, not_or, Decidable.not_not] at k
    exact k
   constructor
   ·rintro ⟨j, hj, e⟩; exact ⟨j, by omega, e⟩
   ·rintro ⟨j, hj, e⟩
    by_cases c : j = m
    ·subst c; exact ⟨j - 1, by omega, by rw [← hk.2]; exact e⟩
    ·exact ⟨j, by omega, e⟩
theorem compact_T (l : List Str) : Lib.compact (sortL l) = sortT l := by
 have hp := List.pairwise_iff_getElem.1 (sortL_le l)
 obtain ⟨h1, h2⟩ := @comp_asc (sortL l).toArray (fun i j hij hj => by
  have hj : j < (sortL l).length := by simpa using hj
  rw [getElem!_pos _ i (by simp; omega), getElem!_pos _ j (by simp; omega)]
  simp only [List.getElem_toArray]
  by_cases c : i = j
  ·subst c; exact List.le_refl _
  ·exact hp i j (by omega) hj (by omega)) (sortL l).length (by simp)
 refine asc_unique h1 (asc_sortT l) fun x => ?_
 have h3 := h2 x
 rw [mem_sortT, ← mem_sortL (l := l)]
 show x ∈ Lib.compactUpTo _ _ ↔ _
 rw [h3]
 constructor
 ·rintro ⟨j, hj, rfl⟩
  rw [getElem!_pos _ j (by simp; omega)]; simp
 ·intro hx
  obtain ⟨j, hj, rfl⟩ := List.getElem_of_mem hx
  exact ⟨j, hj, by rw [getElem!_pos _ j (by simp; omega)]; simp⟩
end Go.Proofs.YtchpopejojghmaaGreatDoor.M
