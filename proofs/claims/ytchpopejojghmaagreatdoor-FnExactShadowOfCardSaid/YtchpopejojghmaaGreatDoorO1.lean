/- From what a row reads of an argument to a closed abstract value: any nesting of ints, bools, texts, structs and slices. -/
import Derived.Test.YtchpopejojghmaaGreatDoorE11
import Derived.ChangeArms
import Derived.ChangeOld
import Derived.DataReads
set_option linter.unusedVariables false
set_option linter.unusedSimpArgs false
set_option linter.unusedSectionVars false
namespace Go.Proofs.YtchpopejojghmaaGreatDoor.M
open Go
inductive Kn where
 | int (k : IntKind)
 | bool
 | str
 | sl (row : List Kn)
inductive Fits : Kn → C → Prop
 | int (k : IntKind) (n : Int) (h : (Lit.int k n).wf = true) : Fits (.int k) (.int k n)
 | bool (b : Bool) : Fits .bool (.bool b)
 | str (s : ByteArray) (h : s.size ≤ maxLen) : Fits .str (.str s)
 | sl (row : List Kn) (xss : List (List C)) (h : xss.length ≤ maxLen) (hl : ∀ r ∈ xss, r.length = row.length)
   (hr : ∀ r ∈ xss, ∀ (i : Nat) (k : Kn) (c : C), row[i]? = some k → (r : List C)[i]? = some c → Fits k c) : Fits (.sl row) (.sl xss)
def offsOK : Nat → List (Nat × List Kn) → Bool
 | _, [] => true
 | n, (o, r) :: l => o == n && offsOK (n + r.length) l
def kinds (P : Program) : Nat → TypeId → Option (List Kn)
 | 0, _ => none
 | f + 1, T => match P.underlying T with
  | some .bool => some [.bool]
  | some (.int k) => some [.int k]
  | some .string => some [.str]
  | some (.slice e) => (kinds P f e).bind fun r => if r.length = P.cellsOf e ∧ 0 < r.length then some [.sl r] else none
  | some (.struct fs) => (fs.toList.mapM fun x => (kinds P f x.type).bind fun r => if r.length = P.cellsOf x.type then some (x.offset, r) else none).bind fun l =>
    if offsOK 0 l = true ∧ (l.flatMap (·.2)).length = P.cellsOf T then some (l.flatMap (·.2)) else none
  | _ => none
inductive Opens (w : World) (Q : Nat → Prop) : List Kn → List Value → List C → Prop
 | nil : Opens w Q [] [] []
 | cons {k : Kn} {v : Value} {c : C} {ks : List Kn} {vs : List Value} {cs : List C} (h1 : Fits k c) (h2 : CV w Q c v) (h3 : Opens w Q ks vs cs) : Opens w Q (k :: ks) (v :: vs) (c :: cs)
section
variable {w : World} {Q : Nat → Prop} {ks ks' : List Kn} {vs vs' : List Value} {cs cs' : List C}
theorem Opens.append (h : Opens w Q ks vs cs) (h' : Opens w Q ks' vs' cs') : Opens w Q (ks ++ ks') (vs ++ vs') (cs ++ cs') := by
 induction h with
 | nil => exact h'
 | cons h1 h2 _ ih => exact .cons h1 h2 ih
theorem Opens.len (h : Opens w Q ks vs cs) : vs.length = ks.length ∧ cs.length = ks.length := by
 induction h with
 | nil => exact ⟨rfl, rfl⟩
 | cons _ _ _ ih => exact ⟨by simp [ih.1], by simp [ih.2]⟩
theorem Opens.fits (h : Opens w Q ks vs cs) : ∀ (i : Nat) (k : Kn) (c : C), ks[i]? = some k → cs[i]? = some c → Fits k c := by
 induction h with
 | nil => intro i k c h; simp at h
 | cons h1 _ _ ih =>
  intro i k c hk hc
  cases i with
  | zero => simp at hk hc; subst hk; subst hc; exact h1
  | succ i => exact ih i k c (by simpa using hk) (by simpa using hc)
theorem Opens.cv (h : Opens w Q ks vs cs) : ∀ (i : Nat) (c : C) (v : Value), cs[i]? = some c → vs[i]? = some v → CV w Q c v := by
 induction h with
 | nil => intro i k c h; simp at h
 | cons _ h2 _ ih =>
  intro i c v hk hc
  cases i with
  | zero => simp at hk hc; subst hk; subst hc; exact h2
  | succ i => exact ih i c v (by simpa using hk) (by simpa using hc)
theorem opens_struct {vs : List Value} : ∀ (l : List (Nat × List Kn)) (n : Nat), offsOK n l = true → (∀ p ∈ l, ∃ xs, Opens w Q p.2 ((vs.drop p.1).take p.2.length) xs) → vs.length = n + (l.flatMap (·.2)).length →
  ∃ xs, Opens w Q (l.flatMap (·.2)) (vs.drop n) xs
 | [], n, _, _, hl => ⟨[], by rw [List.drop_eq_nil_of_le (by simpa using Nat.le_of_eq hl)]; exact .nil⟩
 | (o, r) :: l, n, ho, h, hl => by
  simp only [offsOK, Bool.and_eq_true, beq_iff_eq] at ho
  obtain ⟨rfl, ho⟩ := ho
  obtain ⟨xs, hx⟩ := h _ (.head _)
  obtain ⟨ys, hy⟩ := opens_struct l (o + r.length) ho (fun p hp => h p (.tail _ hp)) (by simp only [List.flatMap_cons, List.length_append] at hl; omega)
  refine ⟨xs ++ ys, ?_⟩
  have := hx.append hy
  simp only at this
  rw [← List.drop_drop, List.take_append_drop] at this
  exact this
end
section
variable {H : Type} {enc : TypeId × Value → H} {P : Program} {w : World} {base : Nat} {spare : Nat → Bool} {held : Bool}
theorem spot_of_cell {a : Addr} {v : Value} (h : w.cell? a = some v) : a.spot = none := by
 unfold World.cell? at h
 split at h
 ·split at h
  ·cases h
  ·cases hs : a.spot with
   | none => rfl
   | some x => rename_i hn; rw [hs] at hn; exact absurd rfl hn
 ·cases h
theorem add_none (b o n : Nat) : Addr.add ⟨b, o, none⟩ n = ⟨b, o + n, none⟩ := by
 unfold Addr.add
 split
 ·rename_i h; subst h; rfl
 ·rfl
theorem open_gen : ∀ (f : Nat) (T : TypeId) (ks : List Kn), kinds P f T = some ks → ∀ (fuel : Nat) (cs : List Value) (x : DataW H × List MemPlace), DataW.trod enc P w base spare held fuel T cs = some x →
  ∃ xs, Opens w (fun b => b < w.heap.size) ks cs xs
 | 0, _, _, h, _, _, _, _ => by cases h
 | f + 1, T, ks, hk, fuel, cs, x, h => by
  unfold kinds at hk
  split at hk
  ·rename_i hu
   cases hk
   obtain ⟨b, rfl, _⟩ := DataW.trod_bool hu h
   exact ⟨_, .cons (.bool b) (.bool b) .nil⟩
  ·rename_i k hu
   cases hk
   obtain ⟨n, rfl, _, hn⟩ := DataW.trod_int hu h
   exact ⟨_, .cons (.int k n hn) (.int k n) .nil⟩
  ·rename_i hu
   cases hk
   obtain ⟨s, rfl, _, hs⟩ := DataW.trod_string hu h
   exact ⟨_, .cons (.str s hs) (.str s) .nil⟩
  ·rename_i e hu
   obtain ⟨r, hr, hk⟩ := Option.bind_eq_some_iff.1 hk
   split at hk
   ·rename_i hc
    cases hk
    obtain ⟨hc, hpos⟩ := hc
    rcases DataW.trod_slice hu h with ⟨rfl, _⟩ | ⟨a, len, cap, elems, rest, n, rfl, rfl, _, _, h1, h2, h3, h4, _, _⟩
    ·exact ⟨[.sl []], .cons (.sl _ _ (Nat.zero_le _) (fun r h => by cases h) (fun r h => by cases h))
      (.sl [] none 0 0 (fun _ _ => undef) (Nat.le_refl _) (fun r h => by cases h) (fun h => absurd rfl h) (fun i r h => by simp at h)) .nil⟩
    ·have key : ∀ i, ∃ p : List Value × List C, i < len → w.cells? base (a.add (i * P.cellsOf e)) (P.cellsOf e) = some p.1 ∧ Opens w (fun b => b < w.heap.size) r p.1 p.2 := by
      intro i
      by_cases hi : i < len
      ·have h5 := h4 i hi
       rw [List.getElem?_eq_getElem (by omega)] at h5
       obtain ⟨vs, hv, ht⟩ := Option.bind_eq_some_iff.1 h5
       obtain ⟨xs, hx⟩ := open_gen f e r hr n vs _ ht
       exact ⟨(vs, xs), fun _ => ⟨hv, hx⟩⟩
      ·exact ⟨([], []), fun h => absurd h hi⟩
     obtain ⟨F, hF⟩ := Classical.axiomOfChoice key
     have hlen : ((List.range len).map fun i => (F i).2).length = len := by simp
     have hrow : ∀ r' ∈ (List.range len).map (fun i => (F i).2), ∃ i, i < len ∧ r' = (F i).2 := by
      intro r' hr'
      obtain ⟨i, hi, rfl⟩ := List.mem_map.1 hr'
      exact ⟨i, by simpa using hi, rfl⟩
     have hCV : CV w (fun b => b < w.heap.size) (.sl ((List.range len).map fun i => (F i).2)) (.slice (some a) ((List.range len).map fun i => (F i).2).length cap) := by
      refine .sl _ (some a) cap r.length (fun i j => (F i).1.getD j undef) (by rw [hlen]; exact h1) (fun r' hr' => ?_) (fun hne => ?_) (fun i r' hi j c hj => ?_)
      ·obtain ⟨i, hi, rfl⟩ := hrow r' hr'
       exact (hF i hi).2.len.2
      ·have hl0 : 0 < len := by
        rcases Nat.eq_zero_or_pos len with e0 | e0
        ·subst e0; exact absurd rfl hne
        ·exact e0
       have cell : ∀ i j, i < len → j < r.length → w.cell? ((a.add (i * P.cellsOf e)).add j) = some ((F i).1.getD j undef) := by
        intro i j hi hj
        have h6 := (World.cells?_some (hF i hi).1).2.2 j (by omega)
        rw [h6, List.getD_eq_getElem?_getD, List.getElem?_eq_getElem (by rw [(hF i hi).2.len.1]; exact hj)]; rfl
       have hs : a.spot = none := by
        have := spot_of_cell (cell 0 0 hl0 hpos)
        obtain ⟨b, o, s⟩ := a
        cases s with
        | none => rfl
        | some x => simp [Addr.add] at this
       refine ⟨a, rfl, hs, by simpa [Addr.add, hs] using World.cells?_block (hF 0 hl0).1 (by omega), fun i j hi hj => ?_⟩
       rw [hlen] at hi
       have := cell i j hi hj
       obtain ⟨b, o, s⟩ := a
       simp only at hs
       subst hs
       simp only [add_none, Nat.add_assoc] at this
       rw [hc]
       exact this
      ·simp only [List.getElem?_map, Option.map_eq_some_iff] at hi
       obtain ⟨i', hi', rfl⟩ := hi
       have hlt : i < len := by
        have := (List.getElem?_eq_some_iff.1 hi').1
        simpa using this
       have e1 : i' = i := by
        rw [List.getElem?_range hlt] at hi'
        exact (Option.some.inj hi').symm
       subst e1
       have hjl : j < (F i').1.length := by
        have := (List.getElem?_eq_some_iff.1 hj).1
        rw [(hF i' hlt).2.len.2] at this
        rw [(hF i' hlt).2.len.1]; exact this
       refine (hF i' hlt).2.cv j c _ hj ?_
       rw [List.getD_eq_getElem?_getD, List.getElem?_eq_getElem hjl]; rfl
     rw [hlen] at hCV
     refine ⟨_, .cons (.sl r _ (by rw [hlen]; omega) (fun r' hr' => ?_) (fun r' hr' i k c hk hc' => ?_)) hCV .nil⟩
     ·obtain ⟨i, hi, rfl⟩ := hrow r' hr'
      exact (hF i hi).2.len.2
     ·obtain ⟨j, hj, rfl⟩ := hrow r' hr'
      exact (hF j hj).2.fits i k c hk hc'
   ·cases hk
  ·rename_i fs hu
   obtain ⟨l, hl, hk⟩ := Option.bind_eq_some_iff.1 hk
   split at hk
   ·rename_i ho
    cases hk
    obtain ⟨xs, n, rfl, _, hcs, hxl, hfs⟩ := DataW.trod_struct hu h
    have := opens_struct (w := w) (Q := fun b => b < w.heap.size) (vs := cs) l 0 ho.1 (fun p hp => ?_) (by rw [hcs, ho.2, Nat.zero_add])
    ·simpa using this
    ·obtain ⟨i, hi⟩ := List.getElem?_of_mem hp
     have hll : l.length = fs.toList.length := by simpa using mapM_some_length hl
     have hil : i < fs.toList.length := by rw [← hll]; exact (List.getElem?_eq_some_iff.1 hi).1
     have h7 := mapM_some_get hl i fs.toList[i] (List.getElem?_eq_getElem hil)
     rw [hi] at h7
     obtain ⟨r, hr, h8⟩ := Option.bind_eq_some_iff.1 h7
     split at h8
     ·rename_i hrl
      cases h8
      have h9 := hfs i fs.toList[i] (by simp)
      rw [List.getElem?_eq_getElem (by rw [hxl]; simpa using hil)] at h9
      rw [hrl]
      exact open_gen f _ r hr n _ _ h9
     ·cases h8
   ·cases hk
  ·cases hk
end
theorem fits_bd {k : Kn} {c : C} (h : Fits k c) : Bd c := by
 have hml : maxLen ≤ bnd63 := by decide
 induction h with
 | int k n h => exact .int _ _
 | bool b => exact .bool _
 | str s h => exact .str _ (Nat.le_trans h hml)
 | sl row xss h hl hr ih =>
  refine .sl _ (Nat.le_trans h hml) fun r hr' c hc => ?_
  obtain ⟨i, hi⟩ := List.getElem?_of_mem hc
  have hil : i < row.length := by rw [← hl r hr']; exact (List.getElem?_eq_some_iff.1 hi).1
  exact ih r hr' i row[i] c (List.getElem?_eq_getElem hil) hi
end Go.Proofs.YtchpopejojghmaaGreatDoor.M
