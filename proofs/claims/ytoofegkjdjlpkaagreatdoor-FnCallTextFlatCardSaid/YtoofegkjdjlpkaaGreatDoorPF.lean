/- The reference's ParseCall reads what is written, and nothing else. -/
import Derived.Test.YtoofegkjdjlpkaaGreatDoorPE
set_option linter.unusedVariables false
set_option linter.unusedSimpArgs false
set_option linter.unusedSectionVars false
namespace Go.Proofs.YtoofegkjdjlpkaaGreatDoor.M
open Go Go.Proofs
set_option maxRecDepth 100000
theorem u8 {b c : UInt8} (h : b.toNat = c.toNat) : b = c := UInt8.toNat_inj.1 h
theorem joinW_app {x : Str} {l : List Str} {s : Str} (h : l ≠ []) : joinW (x :: l) s = x ++ s ++ joinW l s := by
  cases l with
  | nil => exact absurd rfl h
  | cons y r => exact joinW_cons x y r s
theorem splitL_ne : ∀ (r cur : Str), splitL r cur ≠ []
  | [], _ => by simp [splitL]
  | [b], _ => by simp [splitL]
  | b :: d :: r, cur => by
    rw [splitL]; split
    · simp
    · exact splitL_ne (d :: r) _
theorem splitL_step {b : UInt8} (h : b.toNat ≠ 44) (r cur : Str) : splitL (b :: r) cur = splitL r (cur ++ [b]) := by
  cases r with
  | nil => simp [splitL]
  | cons d r => rw [splitL, if_neg (fun e => h e.1)]
theorem splitL_app : ∀ (p : Str), (∀ b ∈ p, b.toNat ≠ 44) → ∀ (cur rest : Str), splitL (p ++ 44 :: 32 :: rest) cur = (cur ++ p) :: splitL rest []
  | [], _, cur, rest => by rw [List.nil_append, splitL, if_pos ⟨rfl, rfl⟩, List.append_nil]
  | b :: p, h, cur, rest => by
    rw [List.cons_append, splitL_step (h b (by simp)), splitL_app p (fun c hc => h c (by simp [hc]))]
    simp
theorem splitL_last : ∀ (p : Str), (∀ b ∈ p, b.toNat ≠ 44) → ∀ (cur : Str), splitL p cur = [cur ++ p]
  | [], _, cur => by simp [splitL]
  | b :: p, h, cur => by
    rw [splitL_step (h b (by simp)), splitL_last p (fun c hc => h c (by simp [hc]))]
    simp
theorem splitL_join : ∀ (p : Str) (ps : List Str), (∀ q ∈ p :: ps, ∀ b ∈ q, b.toNat ≠ 44) → splitL (joinW (p :: ps) [44, 32]) [] = p :: ps
  | p, [], h => by rw [joinW_one, splitL_last p (h p (by simp)), List.nil_append]
  | p, q :: ps, h => by
    rw [joinW_cons, List.append_assoc]
    show splitL (p ++ 44 :: 32 :: joinW (q :: ps) [44, 32]) [] = _
    rw [splitL_app p (h p (by simp)), splitL_join q ps (fun x hx => h x (by simp [List.mem_cons.1 hx])), List.nil_append]
theorem joinW_ne {p : Str} {ps : List Str} {s : Str} (h : p ≠ []) : joinW (p :: ps) s ≠ [] := by
  cases ps with
  | nil => rwa [joinW_one]
  | cons q ps => rw [joinW_cons]; simp [h]
theorem join_splitL : ∀ (r cur : Str), joinW (splitL r cur) [44, 32] = cur ++ r
  | [], cur => by rw [splitL, joinW_one, List.append_nil]
  | [b], cur => by rw [splitL, joinW_one]
  | b :: d :: r, cur => by
    rw [splitL]
    split
    · rename_i h
      have e1 : b = 44 := u8 h.1
      have e2 : d = 32 := u8 h.2
      rw [joinW_app (splitL_ne r []), join_splitL r [], e1, e2]; simp
    · rw [join_splitL (d :: r) (cur ++ [b])]; simp
theorem splitGo_ne (c : Int) : ∀ (r cur : Str), splitGo c r cur ≠ []
  | [], _ => by simp [splitGo]
  | b :: r, cur => by
    rw [splitGo]; split
    · simp
    · exact splitGo_ne c r _
theorem splitGo_app : ∀ (p : Str), (∀ b ∈ p, b.toNat ≠ 32) → ∀ (cur rest : Str), splitGo 32 (p ++ 32 :: rest) cur = (cur ++ p) :: splitGo 32 rest []
  | [], _, cur, rest => by rw [List.nil_append, splitGo, if_pos (by decide), List.append_nil]
  | b :: p, h, cur, rest => by
    have := h b (by simp)
    rw [List.cons_append, splitGo, if_neg (by omega), splitGo_app p (fun c hc => h c (by simp [hc]))]
    simp
theorem splitGo_last : ∀ (p : Str), (∀ b ∈ p, b.toNat ≠ 32) → ∀ (cur : Str), splitGo 32 p cur = [cur ++ p]
  | [], _, cur => by simp [splitGo]
  | b :: p, h, cur => by
    have := h b (by simp)
    rw [splitGo, if_neg (by omega), splitGo_last p (fun c hc => h c (by simp [hc]))]
    simp
theorem splitGo_join : ∀ (p : Str) (ps : List Str), (∀ q ∈ p :: ps, ∀ b ∈ q, b.toNat ≠ 32) → splitGo 32 (joinW (p :: ps) [32]) [] = p :: ps
  | p, [], h => by rw [joinW_one, splitGo_last p (h p (by simp)), List.nil_append]
  | p, q :: ps, h => by
    rw [joinW_cons, List.append_assoc]
    show splitGo 32 (p ++ 32 :: joinW (q :: ps) [32]) [] = _
    rw [splitGo_app p (h p (by simp)), splitGo_join q ps (fun x hx => h x (by simp [List.mem_cons.1 hx])), List.nil_append]
theorem join_splitGo : ∀ (r cur : Str), joinW (splitGo 32 r cur) [32] = cur ++ r
  | [], cur => by rw [splitGo, joinW_one, List.append_nil]
  | b :: r, cur => by
    rw [splitGo]
    split
    · rename_i h
      have e1 : b = 32 := u8 (by show b.toNat = 32; omega)
      rw [joinW_app (splitGo_ne 32 r []), join_splitGo r [], e1]; simp
    · rw [join_splitGo r (cur ++ [b])]; simp
theorem splitAt_join {ps : List Str} (h : ∀ q ∈ ps, q ≠ [] ∧ ∀ b ∈ q, b.toNat ≠ 32) : splitAt (joinW ps [32]) 32 = ps := by
  cases ps with
  | nil => rfl
  | cons p ps => rw [splitAt, if_neg (joinW_ne (h p (by simp)).1), splitGo_join p ps (fun q hq => (h q hq).2)]
theorem join_splitAt (s : Str) : joinW (splitAt s 32) [32] = s := by
  unfold splitAt
  split
  · rename_i h; rw [h]; rfl
  · rw [join_splitGo, List.nil_append]
theorem splitList_join {ps : List Str} (h : ∀ q ∈ ps, q ≠ [] ∧ ∀ b ∈ q, b.toNat ≠ 44) : splitList (joinW ps [44, 32]) = ps := by
  cases ps with
  | nil => rfl
  | cons p ps => rw [splitList, if_neg (joinW_ne (h p (by simp)).1), splitL_join p ps (fun q hq => (h q hq).2)]
theorem join_splitList (s : Str) : joinW (splitList s) [44, 32] = s := by
  unfold splitList
  split
  · rename_i h; rw [h]; rfl
  · rw [join_splitL, List.nil_append]
theorem allOk_map {α : Type} {f : Str → α × Bool} {g : α → Str} : ∀ {l : List α}, (∀ x ∈ l, f (g x) = (x, true)) → allOk f (l.map g) = some l
  | [], _ => rfl
  | x :: l, h => by
    have hx := h x (by simp)
    rw [List.map_cons, allOk_cons (by rw [hx]), allOk_map (fun y hy => h y (by simp [hy])), hx]; rfl
theorem allOk_inv {α : Type} {f : Str → α × Bool} {g : α → Str} (h : ∀ t x, f t = (x, true) → g x = t) : ∀ {ts : List Str} {l : List α}, allOk f ts = some l → l.map g = ts
  | [], l, e => by cases e; rfl
  | t :: ts, l, e => by
    rw [allOk] at e
    split at e
    · rename_i hf
      rw [Option.map_eq_some_iff] at e
      obtain ⟨l', e1, rfl⟩ := e
      rw [List.map_cons, allOk_inv h e1, h t (f t).1 (Prod.ext rfl hf)]
    · cases e
theorem findI_app {p : UInt8 → Bool} {a r : Str} {x : UInt8} (ha : ∀ b ∈ a, p b = false) (hx : p x = true) : findI p (a ++ x :: r) = a.length := by
  unfold findI
  have : (a ++ x :: r).findIdx? p = some a.length := by
    rw [List.findIdx?_eq_some_iff_getElem]
    refine ⟨by simp, by simpa using hx, fun j hj => ?_⟩
    rw [List.getElem_append_left hj]
    simpa using ha _ (List.getElem_mem hj)
  rw [this]; simp [idxOr]
theorem findI_none {p : UInt8 → Bool} {a : Str} (ha : ∀ b ∈ a, p b = false) : findI p a = -1 := by
  unfold findI
  rw [List.findIdx?_eq_none_iff.2 ha]; rfl
theorem index_app {a r : Str} (ha : ∀ b ∈ a, b.toNat ≠ 61) : indexByte (a ++ 61 :: r) 61 = a.length :=
  findI_app (fun b hb => decide_eq_false (by have := ha b hb; omega)) rfl
theorem index_none {a : Str} (ha : ∀ b ∈ a, b.toNat ≠ 61) : indexByte a 61 = -1 :=
  findI_none (fun b hb => decide_eq_false (by have := ha b hb; omega))
theorem index_split {s : Str} (h : ¬ indexByte s 61 < 0) : s = s.take (indexByte s 61).toNat ++ 61 :: s.drop (indexByte s 61 + 1).toNat := by
  unfold indexByte findI at h ⊢
  cases e : s.findIdx? (fun b => decide ((b.toNat : Int) = 61)) with
  | none => rw [e] at h; simp [idxOr] at h
  | some k =>
    obtain ⟨hk, hp, _⟩ := List.findIdx?_eq_some_iff_getElem.1 e
    simp only [decide_eq_true_eq] at hp
    have e1 : s[k] = 61 := u8 (by show s[k].toNat = 61; omega)
    simp only [idxOr]
    rw [show ((0 : Int) + (k : Int)).toNat = k by omega, show ((0 : Int) + (k : Int) + 1).toNat = k + 1 by omega, ← e1, ← List.drop_eq_getElem_cons hk, List.take_append_drop]
theorem pair_chars {p : Pair} (h : validPair p = true) : pairText p ≠ [] ∧ ∀ b ∈ pairText p, b.toNat ≠ 32 ∧ b.toNat ≠ 44 := by
  simp only [validPair, Bool.and_eq_true] at h
  refine ⟨by simp [pairText], fun b hb => ?_⟩
  rcases List.mem_append.1 hb with hb | hb
  · have := name_chars h.1 b hb; omega
  · rcases List.mem_cons.1 hb with rfl | hb
    · exact ⟨by decide, by decide⟩
    · have := number_chars _ b hb; omega
theorem readPairS_text {p : Pair} (h : validPair p = true) : readPairS (pairText p) = (p, true) := by
  simp only [validPair, Bool.and_eq_true] at h
  have hi : indexByte (pairText p) 61 = p.name.length := index_app (fun b hb => by have := name_chars h.1 b hb; omega)
  have h1 : (pairText p).take p.name.length = p.name := by simp [pairText]
  have h2 : (pairText p).drop (p.name.length + 1) = number p.value := by simp [pairText]
  rw [readPairS, hi, if_neg (by omega), show ((p.name.length : Int) + 1).toNat = p.name.length + 1 by omega, Int.toNat_natCast, h1, h2, readNumS_number h.2]
theorem readPairS_ok {t : Str} {p : Pair} (h : readPairS t = (p, true)) : pairText p = t := by
  unfold readPairS at h
  split at h
  · cases h
  · rename_i hi
    simp only [Prod.mk.injEq] at h
    obtain ⟨h1, h2⟩ := h
    have := readNumS_ok (s := t.drop (indexByte t 61 + 1).toNat) (Prod.ext rfl h2)
    conv => rhs; rw [index_split hi]
    rw [← h1, pairText]
    simp only
    rw [← this]
theorem between_text (lo m hi : Str) : between (lo ++ m ++ hi) lo hi = (m, true) := by
  have e1 : (lo ++ m ++ hi).take lo.length = lo := by rw [List.append_assoc]; simp
  have e2 : (lo ++ m ++ hi).length - hi.length = (lo ++ m).length := by simp; omega
  have e3 : (lo ++ m ++ hi).drop (lo ++ m).length = hi := by simp
  have e4 : (lo ++ m ++ hi).take (lo ++ m).length = lo ++ m := List.take_left' rfl
  rw [between, if_neg (by simp), if_pos e1, e2, if_pos e3, e4]; simp
theorem between_ok {s lo hi : Str} (h : (between s lo hi).2 = true) : s = lo ++ (between s lo hi).1 ++ hi := by
  unfold between at h ⊢
  split at h
  · cases h
  · rename_i h0
    rw [if_neg h0]
    split at h
    · rename_i h1
      rw [if_pos h1]
      split at h
      · rename_i h2
        rw [if_pos h2]
        have hlo : s = lo ++ s.drop lo.length := by conv => lhs; rw [← List.take_append_drop lo.length s, h1]
        have a1 : s.take (s.length - hi.length) ++ hi = s := by conv => rhs; rw [← List.take_append_drop (s.length - hi.length) s, h2]
        have a2 : lo ++ (s.take (s.length - hi.length)).drop lo.length = s.take (s.length - hi.length) := by
          have : (s.take (s.length - hi.length)).take lo.length = lo := by rw [List.take_take, Nat.min_eq_left (by omega), h1]
          conv => rhs; rw [← List.take_append_drop lo.length (s.take (s.length - hi.length)), this]
        simp only
        rw [a2, a1]
      · cases h
    · cases h
theorem between_no {s lo hi : Str} (h : s.take lo.length ≠ lo) : (between s lo hi).2 = false := by
  unfold between
  split
  · rfl
  · first | rfl | rw [if_neg h]
theorem nums_parts {l : List Int} : ∀ q ∈ l.map number, q ≠ [] ∧ ∀ b ∈ q, b.toNat ≠ 32 := by
  intro q hq
  obtain ⟨n, _, rfl⟩ := List.mem_map.1 hq
  exact ⟨number_ne n, fun b hb => by have := number_chars n b hb; omega⟩
theorem pairs_parts {l : List Pair} (h : validPairs l = true) : ∀ q ∈ l.map pairText, q ≠ [] ∧ ∀ b ∈ q, b.toNat ≠ 32 := by
  intro q hq
  obtain ⟨p, hp, rfl⟩ := List.mem_map.1 hq
  have := pair_chars (List.all_eq_true.1 h p hp)
  exact ⟨this.1, fun b hb => (this.2 b hb).1⟩
theorem list_one {α : Type} {l : List α} (h : l.length = 1) : ∃ x, l = [x] := by
  match l, h with
  | [x], _ => exact ⟨x, rfl⟩
theorem numsText_one (n : Int) : numsText [n] = number n := by rw [numsText, List.map_cons, List.map_nil, joinW_one]
theorem head_no {s lo : Str} {b c : UInt8} {r : Str} (hs : s = b :: r) (hl : lo.head? = some c) (h : b ≠ c) : s.take lo.length ≠ lo := by
  intro e
  cases lo with
  | nil => cases hl
  | cons d lo =>
    cases hl
    rw [hs] at e
    simp only [List.length_cons, List.take_succ_cons, List.cons.injEq] at e
    exact h e.1
theorem number_head (n : Int) : ∃ b r, number n = b :: r ∧ (b.toNat = 45 ∨ 48 ≤ b.toNat ∧ b.toNat ≤ 57) := by
  have h := number_chars n
  have hne := number_ne n
  generalize number n = l at h hne
  cases l with
  | nil => exact absurd rfl hne
  | cons b r => exact ⟨b, r, rfl, h b (by simp)⟩
theorem name_head {s : Str} (h : isName s = true) (t : Str) : ∃ b r, s ++ t = b :: r ∧ 97 ≤ b.toNat ∧ b.toNat ≤ 122 := by
  have hc := name_chars h
  have hne := name_ne h
  cases s with
  | nil => exact absurd rfl hne
  | cons b r => exact ⟨b, r ++ t, rfl, hc b (by simp)⟩
theorem argT0 (nm : Str) (l : List Int) (ps : List Pair) : argText ⟨0, nm, l, ps⟩ = numsText l := rfl
theorem argT1 (nm : Str) (l : List Int) (ps : List Pair) : argText ⟨1, nm, l, ps⟩ = [42, 91] ++ numsText l ++ [93] := rfl
theorem argT2 (nm : Str) (l : List Int) (ps : List Pair) : argText ⟨2, nm, l, ps⟩ = nm ++ [61] ++ numsText l := rfl
theorem argT3 (nm : Str) (l : List Int) (ps : List Pair) : argText ⟨3, nm, l, ps⟩ = [42, 42, 123] ++ pairsText ps ++ [125] := rfl
theorem parseArgS_text {a : Arg} (h : validArg a = true) : parseArgS (argText a) = (a, true) := by
  obtain ⟨k, nm, l, ps⟩ := a
  rcases valid_kind h with hk | hk | hk | hk <;> simp only at hk <;> subst hk
  · obtain ⟨h1, h2, h3, h4⟩ := validArg_0 h rfl
    simp only at h1 h2 h3 h4
    obtain ⟨n, rfl⟩ := list_one h2
    subst h1 h3
    have hv : isValue n = true := List.all_eq_true.1 h4 n (by simp)
    have ht : argText ⟨0, [], [n], []⟩ = number n := by simp [argText, numsText_one]
    obtain ⟨b, r, hb, hc⟩ := number_head n
    have hs : b ≠ 42 := fun e => by subst e; simp at hc
    rw [ht, parseArgS, between_no (head_no hb rfl hs), between_no (head_no hb rfl hs)]
    have hi : indexByte (number n) 61 = -1 := index_none (fun b hb => by have := number_chars n b hb; omega)
    simp only [readPairS, hi, readNumS_number hv]
    simp
  · obtain ⟨h1, h2, h3, h4⟩ := validArg_1 h rfl
    simp only at h1 h2 h3 h4
    subst h1 h3
    have ht : argText ⟨1, [], l, []⟩ = [42, 91] ++ numsText l ++ [93] := by simp [argText]
    rw [ht, parseArgS, between_text, if_pos rfl]
    simp only
    rw [numsText, splitAt_join nums_parts, allOk_map (fun n hn => readNumS_number (List.all_eq_true.1 h4 n hn))]
  · obtain ⟨h1, h2, h3, h4⟩ := validArg_2 h rfl
    simp only at h1 h2 h3 h4
    obtain ⟨n, rfl⟩ := list_one h2
    subst h3
    have hv : isValue n = true := List.all_eq_true.1 h4 n (by simp)
    have ht : argText ⟨2, nm, [n], []⟩ = pairText ⟨nm, n⟩ := by simp [argText, numsText_one, pairText]
    obtain ⟨b, r, hb, hc⟩ := name_head h1 (61 :: number n)
    have hs : b ≠ 42 := fun e => by subst e; simp at hc
    have hb : pairText ⟨nm, n⟩ = b :: r := hb
    rw [ht, parseArgS, between_no (head_no hb rfl hs), between_no (head_no hb rfl hs), readPairS_text (by simp [validPair, h1, hv])]
    simp
  · obtain ⟨h1, h2, h3, h4⟩ := validArg_3 h rfl
    simp only at h1 h2 h3 h4
    subst h1 h2
    have ht : argText ⟨3, [], [], ps⟩ = [42, 42, 123] ++ pairsText ps ++ [125] := by simp [argText]
    have hno : (between ([42, 42, 123] ++ pairsText ps ++ [125]) [42, 91] [93]).2 = false := between_no (by simp)
    rw [ht, parseArgS, hno, between_text]
    simp only [Bool.false_eq_true, if_false, if_true]
    rw [pairsText, splitAt_join (pairs_parts h4), allOk_map (fun p hp => readPairS_text (List.all_eq_true.1 h4 p hp))]
theorem parseArgS_ok {t : Str} {a : Arg} (h : parseArgS t = (a, true)) : argText a = t := by
  unfold parseArgS at h
  split at h
  · rename_i hb
    cases e : allOk readNumS (splitAt (between t [42, 91] [93]).1 32) with
    | none => rw [e] at h; cases h
    | some l =>
      rw [e] at h
      simp only [Prod.mk.injEq, and_true] at h
      subst h
      have := allOk_inv (g := number) (fun s n hs => (readNumS_ok hs).symm) e
      rw [argT1, numsText, this, join_splitAt]
      exact (between_ok hb).symm
  · split at h
    · rename_i hb
      cases e : allOk readPairS (splitAt (between t [42, 42, 123] [125]).1 32) with
      | none => rw [e] at h; cases h
      | some l =>
        rw [e] at h
        simp only [Prod.mk.injEq, and_true] at h
        subst h
        have := allOk_inv (g := pairText) (fun s p hs => readPairS_ok hs) e
        rw [argT3, pairsText, this, join_splitAt]
        exact (between_ok hb).symm
    · split at h
      · rename_i hb
        simp only [Prod.mk.injEq, and_true] at h
        subst h
        have := readPairS_ok (t := t) (p := (readPairS t).1) (Prod.ext rfl hb)
        rw [argT2, numsText_one]
        conv => rhs; rw [← this]
        simp [pairText]
      · simp only [Prod.mk.injEq] at h
        obtain ⟨h1, h2⟩ := h
        subst h1
        rw [argT0, numsText_one]
        exact (readNumS_ok (Prod.ext rfl h2)).symm
theorem lt1 : ∀ b ∈ ([42, 91] : Str), b.toNat ≠ 44 := by decide
theorem lt2 : ∀ b ∈ ([93] : Str), b.toNat ≠ 44 := by decide
theorem lt3 : ∀ b ∈ ([61] : Str), b.toNat ≠ 44 := by decide
theorem lt4 : ∀ b ∈ ([42, 42, 123] : Str), b.toNat ≠ 44 := by decide
theorem lt5 : ∀ b ∈ ([125] : Str), b.toNat ≠ 44 := by decide
theorem arg_chars {a : Arg} (h : validArg a = true) : argText a ≠ [] ∧ ∀ b ∈ argText a, b.toNat ≠ 44 := by
  have nums : ∀ l : List Int, ∀ b ∈ numsText l, b.toNat ≠ 44 := fun l b hb => by
    have key : ∀ (qs : List Str), (∀ q ∈ qs, ∀ b ∈ q, b.toNat ≠ 44) → ∀ b ∈ joinW qs [32], b.toNat ≠ 44 := fun qs => by
      induction qs with
      | nil => intro _ b hb; cases hb
      | cons q qs ih =>
        intro hq b hb
        cases qs with
        | nil => rw [joinW_one] at hb; exact hq q (by simp) b hb
        | cons q' qs =>
          rw [joinW_cons] at hb
          rcases List.mem_append.1 hb with hb | hb
          · rcases List.mem_append.1 hb with hb | hb
            · exact hq q (by simp) b hb
            · rw [List.mem_singleton] at hb; subst hb; decide
          · exact ih (fun x hx => hq x (by simp [List.mem_cons.1 hx])) b hb
    refine key _ (fun q hq b hb => ?_) b hb
    obtain ⟨n, _, rfl⟩ := List.mem_map.1 hq
    have := number_chars n b hb; omega
  have prs : ∀ l : List Pair, validPairs l = true → ∀ b ∈ pairsText l, b.toNat ≠ 44 := fun l hl b hb => by
    have key : ∀ (qs : List Str), (∀ q ∈ qs, ∀ b ∈ q, b.toNat ≠ 44) → ∀ b ∈ joinW qs [32], b.toNat ≠ 44 := fun qs => by
      induction qs with
      | nil => intro _ b hb; cases hb
      | cons q qs ih =>
        intro hq b hb
        cases qs with
        | nil => rw [joinW_one] at hb; exact hq q (by simp) b hb
        | cons q' qs =>
          rw [joinW_cons] at hb
          rcases List.mem_append.1 hb with hb | hb
          · rcases List.mem_append.1 hb with hb | hb
            · exact hq q (by simp) b hb
            · rw [List.mem_singleton] at hb; subst hb; decide
          · exact ih (fun x hx => hq x (by simp [List.mem_cons.1 hx])) b hb
    refine key _ (fun q hq b hb => ?_) b hb
    obtain ⟨p, hp, rfl⟩ := List.mem_map.1 hq
    exact ((pair_chars (List.all_eq_true.1 hl p hp)).2 b hb).2
  obtain ⟨k, nm, l, ps⟩ := a
  rcases valid_kind h with hk | hk | hk | hk <;> simp only at hk <;> subst hk
  · obtain ⟨h1, h2, h3, h4⟩ := validArg_0 h rfl
    simp only at h1 h2 h3 h4
    obtain ⟨n, rfl⟩ := list_one h2
    rw [argT0]
    exact ⟨by rw [numsText_one]; exact number_ne n, nums [n]⟩
  · rw [argT1]
    refine ⟨by simp, fun b hb => ?_⟩
    rcases List.mem_append.1 hb with hb | hb
    · rcases List.mem_append.1 hb with hb | hb
      · first | exact lt1 b hb | exact lt2 b hb | exact lt3 b hb | exact lt4 b hb | exact lt5 b hb
      · exact nums l b hb
    · first | exact lt1 b hb | exact lt2 b hb | exact lt3 b hb | exact lt4 b hb | exact lt5 b hb
  · obtain ⟨h1, h2, h3, h4⟩ := validArg_2 h rfl
    rw [argT2]
    refine ⟨by simp, fun b hb => ?_⟩
    rcases List.mem_append.1 hb with hb | hb
    · rcases List.mem_append.1 hb with hb | hb
      · have := name_chars h1 b hb; omega
      · first | exact lt1 b hb | exact lt2 b hb | exact lt3 b hb | exact lt4 b hb | exact lt5 b hb
    · exact nums l b hb
  · obtain ⟨h1, h2, h3, h4⟩ := validArg_3 h rfl
    rw [argT3]
    refine ⟨by simp, fun b hb => ?_⟩
    rcases List.mem_append.1 hb with hb | hb
    · rcases List.mem_append.1 hb with hb | hb
      · first | exact lt1 b hb | exact lt2 b hb | exact lt3 b hb | exact lt4 b hb | exact lt5 b hb
      · exact prs ps h4 b hb
    · first | exact lt1 b hb | exact lt2 b hb | exact lt3 b hb | exact lt4 b hb | exact lt5 b hb
theorem args_parts {c : Cal} (h : validCall c = true) : ∀ q ∈ c.args.map argText, q ≠ [] ∧ ∀ b ∈ q, b.toNat ≠ 44 := by
  intro q hq
  obtain ⟨a, ha, rfl⟩ := List.mem_map.1 hq
  exact arg_chars ((validCall_args h).1 a ha)
theorem parseCallS_text {c : Cal} (h : validCall c = true) : parseCallS (callText c) = (c, true) := by
  rw [callText, if_pos h, parseCallS, splitList_join (args_parts h), allOk_map (fun a ha => parseArgS_text ((validCall_args h).1 a ha))]
  simp only
  rw [h]
theorem parseCallS_ok {s : Str} {c : Cal} (h : parseCallS s = (c, true)) : validCall c = true ∧ callText c = s := by
  unfold parseCallS at h
  cases e : allOk parseArgS (splitList s) with
  | none => rw [e] at h; cases h
  | some l =>
    rw [e] at h
    simp only [Prod.mk.injEq] at h
    obtain ⟨rfl, hv⟩ := h
    refine ⟨hv, ?_⟩
    rw [callText, if_pos hv]
    simp only
    rw [allOk_inv (g := argText) (fun t a ht => parseArgS_ok ht) e, join_splitList]
end Go.Proofs.YtoofegkjdjlpkaaGreatDoor.M
