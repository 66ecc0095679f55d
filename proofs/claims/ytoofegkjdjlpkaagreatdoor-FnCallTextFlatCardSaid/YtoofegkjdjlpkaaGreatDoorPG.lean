/- The program's ParseCall reads what is written; the law of FnTopCall. -/
import Derived.Test.YtoofegkjdjlpkaaGreatDoorPF
set_option linter.unusedVariables false
set_option linter.unusedSimpArgs false
set_option linter.unusedSectionVars false
namespace Go.Proofs.YtoofegkjdjlpkaaGreatDoor.M
open Go Go.Proofs
set_option maxRecDepth 100000
theorem splitS_eq (s sep : Str) : splitS s sep = Lib.splitK sep 0 (Lib.count s sep) s := Lib.splitB_data ⟨⟨sep⟩⟩ 0 _ ⟨⟨s⟩⟩
theorem occ_no {s sep : Str} {c : UInt8} {t : Str} {j : Nat} (hs : sep = c :: t) (h : s[j]? ≠ some c) : Lib.occAt s sep j = false := by
  cases e : Lib.occAt s sep j with
  | false => rfl
  | true => exact absurd (Lib.occAt_head hs e) h
theorem idx_app {p rest t : Str} {c : UInt8} (hp : c ∉ p) : Lib.index (p ++ (c :: t) ++ rest) (c :: t) = p.length := by
  refine Lib.index_first (by simp) ?_ fun j hj => occ_no rfl ?_
  · unfold Lib.occAt
    rw [List.append_assoc, List.drop_left' rfl]
    exact List.isPrefixOf_iff_prefix.2 ⟨_, rfl⟩
  · rw [List.append_assoc, List.getElem?_append_left hj, List.getElem?_eq_getElem hj]
    intro e
    exact hp (Option.some.inj e ▸ List.getElem_mem hj)
theorem idx_none {p t : Str} {c : UInt8} (hp : c ∉ p) : Lib.index p (c :: t) = -1 :=
  Lib.index_none fun j hj => occ_no rfl fun e => hp (List.mem_of_getElem? e)
theorem no44 {p : Str} (h : ∀ b ∈ p, b.toNat ≠ 44) : (44 : UInt8) ∉ p := fun hm => h _ hm rfl
theorem no61 {p : Str} (h : ∀ b ∈ p, b.toNat ≠ 61) : (61 : UInt8) ∉ p := fun hm => h _ hm rfl
theorem splitS_app {p rest : Str} (h : ∀ b ∈ p, b.toNat ≠ 44) : splitS (p ++ [44, 32] ++ rest) [44, 32] = p :: splitS rest [44, 32] := by
  have hi := idx_app (rest := rest) (t := [32]) (no44 h)
  have hd : (p ++ [44, 32] ++ rest).drop (p.length + 2) = rest := List.drop_left' (by simp)
  have ht : (p ++ [44, 32] ++ rest).take p.length = p := by rw [List.append_assoc]; exact List.take_left' rfl
  rw [splitS_eq, splitS_eq, Lib.count_hit (by simp) hi, Nat.add_comm 1, Lib.splitK]
  rw [hi, if_neg (by simp), Int.toNat_natCast, Nat.add_zero, ht]
  show p :: Lib.splitK [44, 32] 0 (Lib.count ((p ++ [44, 32] ++ rest).drop (p.length + 2)) [44, 32]) ((p ++ [44, 32] ++ rest).drop (p.length + 2)) = _
  rw [hd]
theorem splitS_last {p : Str} (h : ∀ b ∈ p, b.toNat ≠ 44) : splitS p [44, 32] = [p] := by
  rw [splitS_eq, Lib.count_miss (idx_none (no44 h))]; rfl
theorem splitS_join : ∀ (p : Str) (ps : List Str), (∀ q ∈ p :: ps, ∀ b ∈ q, b.toNat ≠ 44) → splitS (joinW (p :: ps) [44, 32]) [44, 32] = p :: ps
  | p, [], h => by rw [joinW_one, splitS_last (h p (by simp))]
  | p, q :: ps, h => by
    rw [joinW_cons, splitS_app (h p (by simp)), splitS_join q ps (fun x hx => h x (by simp [List.mem_cons.1 hx]))]
theorem cutS_app {p r : Str} (h : ∀ b ∈ p, b.toNat ≠ 61) : cutS (p ++ 61 :: r) [61] = (p, r, true) := by
  have hi := idx_app (rest := r) (t := []) (no61 h)
  rw [List.append_assoc] at hi
  have hi : Lib.index (p ++ 61 :: r) [61] = p.length := hi
  have e1 : (p ++ 61 :: r).take p.length = p := List.take_left' rfl
  have e2 : (p ++ 61 :: r).drop (p.length + 1) = r := by rw [← List.drop_drop, List.drop_left' rfl]; rfl
  rw [cutS, Lib.cut, hi, if_pos (by omega), Int.toNat_natCast]
  show (_, (p ++ 61 :: r).drop (p.length + 1), _) = _
  rw [e1, e2]
theorem readPairI_text {p : Pair} (h : validPair p = true) : readPairI (pairText p) = (p, true) := by
  simp only [validPair, Bool.and_eq_true] at h
  have hc : cutS (pairText p) [61] = (p.name, number p.value, true) := cutS_app (fun b hb => by have := name_chars h.1 b hb; omega)
  rw [readPairI, hc]
  simp only
  rw [readNumI_number h.2]
  rfl
theorem enclosed_text (lo m hi : Str) : enclosed (lo ++ m ++ hi) lo hi = (m, true) := by
  have h1 : Lib.hasPrefix (lo ++ m ++ hi) lo = true := List.isPrefixOf_iff_prefix.2 ⟨m ++ hi, by simp⟩
  have h2 : Lib.trimPrefix (lo ++ m ++ hi) lo = m ++ hi := by rw [Lib.trimPrefix, if_pos h1, List.append_assoc, List.drop_left' rfl]
  have h3 : Lib.hasSuffix (m ++ hi) hi = true := List.isSuffixOf_iff_suffix.2 ⟨m, rfl⟩
  have h4 : Lib.trimSuffix (m ++ hi) hi = m := by rw [Lib.trimSuffix, if_pos h3]; exact List.take_left' (by simp)
  rw [enclosed, cutPre, cutSuf, h1, h2, h3, h4]; rfl
theorem enclosed_no {s lo hi : Str} (h : s.take lo.length ≠ lo) : (enclosed s lo hi).2 = false := by
  have : Lib.hasPrefix s lo = false := by
    cases e : Lib.hasPrefix s lo with
    | false => rfl
    | true => exact absurd (List.prefix_iff_eq_take.1 (List.isPrefixOf_iff_prefix.1 e)).symm h
  rw [enclosed, cutPre, this]; rfl
/- Fields of a text of ASCII alone. -/
def fGo : Str → Option Str → List Str
  | [], none => []
  | [], some c => [c]
  | b :: r, none => if b.toNat = 32 then fGo r none else fGo r (some [b])
  | b :: r, some c => if b.toNat = 32 then c :: fGo r none else fGo r (some (c ++ [b]))
theorem dec_ascii {l : Str} {pos : Nat} {b : UInt8} (h : l[pos]? = some b) (ha : b.toNat < 128) : Utf8.decode ⟨⟨l⟩⟩ pos = (b.toNat, 1) := by
  have hg : (ByteArray.mk ⟨l⟩).get! pos = b := by
    show (Array.mk l)[pos]! = b
    simp [h]
  unfold Utf8.decode
  simp only [Nat.add_zero, hg]
  rw [if_pos ha]
theorem spans_ascii {s : Str} (ha : ∀ b ∈ s, b.toNat < 128) : ∀ (f pos : Nat) (st : Option Nat) (acc : List (Nat × Nat)), s.length - pos ≤ f → pos ≤ s.length → (∀ a, st = some a → a ≤ pos) →
    (Lib.closeSpans ⟨⟨s⟩⟩ (Lib.spansFromP spP ⟨⟨s⟩⟩ f pos st acc)).map (fun z => (s.take z.2).drop z.1) = acc.map (fun z => (s.take z.2).drop z.1) ++ fGo (s.drop pos) (st.map fun a => (s.take pos).drop a)
  | 0, pos, st, acc, hf, hp, hst => by
    rw [List.drop_eq_nil_of_le (by omega)]
    have e : (ByteArray.mk ⟨s⟩).size = s.length := rfl
    cases st with
    | none => simp [Lib.spansFromP, Lib.closeSpans, fGo]
    | some a => simp [Lib.spansFromP, Lib.closeSpans, fGo, e, show pos = s.length by omega]
  | f + 1, pos, st, acc, hf, hp, hst => by
    have e : (ByteArray.mk ⟨s⟩).size = s.length := rfl
    unfold Lib.spansFromP
    by_cases hlt : pos < s.length
    · rw [e, if_pos hlt]
      have hx : s[pos]? = some s[pos] := List.getElem?_eq_getElem hlt
      have hd := dec_ascii hx (ha _ (List.getElem_mem hlt))
      have hdr : s.drop pos = s[pos] :: s.drop (pos + 1) := List.drop_eq_getElem_cons hlt
      rw [hd, hdr]
      simp only
      by_cases h32 : s[pos].toNat = 32
      · rw [if_pos (show spP s[pos].toNat = true from decide_eq_true h32)]
        cases st with
        | none =>
          simp only
          rw [spans_ascii ha f (pos + 1) none acc (by omega) (by omega) (fun a h => by cases h)]
          show _ ++ fGo (s.drop (pos + 1)) none = _ ++ fGo (s[pos] :: s.drop (pos + 1)) none
          rw [fGo, if_pos h32]
        | some a =>
          simp only
          rw [spans_ascii ha f (pos + 1) none _ (by omega) (by omega) (fun a h => by cases h), List.map_append, List.append_assoc]
          show _ ++ (_ ++ fGo (s.drop (pos + 1)) none) = _ ++ fGo (s[pos] :: s.drop (pos + 1)) (some ((s.take pos).drop a))
          rw [fGo, if_pos h32]; rfl
      · rw [if_neg (by simp [spP, h32])]
        have hpa := hst
        cases st with
        | none =>
          simp only
          rw [spans_ascii ha f (pos + 1) (some pos) acc (by omega) (by omega) (fun a h => by cases h; omega)]
          have : (s.take (pos + 1)).drop pos = [s[pos]] := by rw [take_snoc hx, List.drop_left' (by rw [List.length_take]; omega)]
          show _ ++ fGo (s.drop (pos + 1)) (some ((s.take (pos + 1)).drop pos)) = _ ++ fGo (s[pos] :: s.drop (pos + 1)) none
          rw [this, fGo, if_neg h32]
        | some a =>
          have hal := hst a rfl
          simp only
          rw [spans_ascii ha f (pos + 1) (some a) acc (by omega) (by omega) (fun b h => by cases h; omega)]
          have : (s.take (pos + 1)).drop a = (s.take pos).drop a ++ [s[pos]] := by rw [take_snoc hx, List.drop_append_of_le_length (by rw [List.length_take]; omega)]
          show _ ++ fGo (s.drop (pos + 1)) (some ((s.take (pos + 1)).drop a)) = _ ++ fGo (s[pos] :: s.drop (pos + 1)) (some ((s.take pos).drop a))
          rw [this, fGo, if_neg h32]
    · rw [e, if_neg hlt, List.drop_eq_nil_of_le (by omega)]
      cases st with
      | none => simp [Lib.closeSpans, fGo]
      | some a => simp [Lib.closeSpans, fGo, e, show pos = s.length by omega]
theorem fieldsS_ascii {s : Str} (ha : ∀ b ∈ s, b.toNat < 128) : fieldsS s = fGo s none := by
  have h := spans_ascii ha s.length 0 none [] (by omega) (by omega) (fun a h => by cases h)
  have e : fieldsS s = (Lib.closeSpans ⟨⟨s⟩⟩ (Lib.spansFromP spP ⟨⟨s⟩⟩ s.length 0 none [])).map (fun z => (s.take z.2).drop z.1) := by
    unfold fieldsS Lib.goFieldsP Lib.spansOfP
    rw [List.map_map]
    exact List.map_congr_left fun z _ => by simp only [Function.comp]; rw [extract_mk]
  rw [e, h]; simp
theorem fGo_some : ∀ (p : Str), (∀ b ∈ p, b.toNat ≠ 32) → ∀ (c rest : Str), fGo (p ++ 32 :: rest) (some c) = (c ++ p) :: fGo rest none
  | [], _, c, rest => by rw [List.nil_append, fGo, if_pos (by decide), List.append_nil]
  | b :: p, h, c, rest => by rw [List.cons_append, fGo, if_neg (h b (by simp)), fGo_some p (fun x hx => h x (by simp [hx]))]; simp
theorem fGo_last : ∀ (p : Str), (∀ b ∈ p, b.toNat ≠ 32) → ∀ (c : Str), fGo p (some c) = [c ++ p]
  | [], _, c => by simp [fGo]
  | b :: p, h, c => by rw [fGo, if_neg (h b (by simp)), fGo_last p (fun x hx => h x (by simp [hx]))]; simp
theorem fGo_join : ∀ (ps : List Str), (∀ q ∈ ps, q ≠ [] ∧ ∀ b ∈ q, b.toNat ≠ 32) → fGo (joinW ps [32]) none = ps
  | [], _ => rfl
  | [p], h => by
    obtain ⟨hne, hp⟩ := h p (by simp)
    rw [joinW_one]
    cases p with
    | nil => exact absurd rfl hne
    | cons b p => rw [fGo, if_neg (hp b (by simp)), fGo_last p (fun x hx => hp x (by simp [hx]))]; rfl
  | p :: q :: ps, h => by
    obtain ⟨hne, hp⟩ := h p (by simp)
    rw [joinW_cons, List.append_assoc]
    cases p with
    | nil => exact absurd rfl hne
    | cons b p =>
      show fGo (b :: (p ++ 32 :: joinW (q :: ps) [32])) none = _
      rw [fGo, if_neg (hp b (by simp)), fGo_some p (fun x hx => hp x (by simp [hx])), fGo_join (q :: ps) (fun x hx => h x (by simp [List.mem_cons.1 hx]))]; rfl
theorem join_chars {P : UInt8 → Prop} {sep : Str} (hs : ∀ b ∈ sep, P b) : ∀ (qs : List Str), (∀ q ∈ qs, ∀ b ∈ q, P b) → ∀ b ∈ joinW qs sep, P b
  | [], _, b, hb => by cases hb
  | [q], h, b, hb => by rw [joinW_one] at hb; exact h q (by simp) b hb
  | q :: q' :: qs, h, b, hb => by
    rw [joinW_cons] at hb
    rcases List.mem_append.1 hb with hb | hb
    · rcases List.mem_append.1 hb with hb | hb
      · exact h q (by simp) b hb
      · exact hs b hb
    · exact join_chars hs (q' :: qs) (fun x hx => h x (by simp [List.mem_cons.1 hx])) b hb
theorem nums_ascii (l : List Int) : ∀ b ∈ numsText l, b.toNat < 128 :=
  join_chars (by decide) _ fun q hq b hb => by
    obtain ⟨n, _, rfl⟩ := List.mem_map.1 hq
    have := number_chars n b hb; omega
theorem pairs_ascii {l : List Pair} (h : validPairs l = true) : ∀ b ∈ pairsText l, b.toNat < 128 :=
  join_chars (by decide) _ fun q hq b hb => by
    obtain ⟨p, hp, rfl⟩ := List.mem_map.1 hq
    have hv := List.all_eq_true.1 h p hp
    simp only [validPair, Bool.and_eq_true] at hv
    rcases List.mem_append.1 hb with hb | hb
    · have := name_chars hv.1 b hb; omega
    · rcases List.mem_cons.1 hb with rfl | hb
      · decide
      · have := number_chars _ b hb; omega
theorem readArgI_text {a : Arg} (h : validArg a = true) : readArgI (argText a) = (a, true) := by
  obtain ⟨k, nm, l, ps⟩ := a
  rcases valid_kind h with hk | hk | hk | hk <;> simp only at hk <;> subst hk
  · obtain ⟨h1, h2, h3, h4⟩ := validArg_0 h rfl
    simp only at h1 h2 h3 h4
    obtain ⟨n, rfl⟩ := list_one h2
    subst h1 h3
    have hv : isValue n = true := List.all_eq_true.1 h4 n (by simp)
    obtain ⟨b, r, hb, hc⟩ := number_head n
    have hs : b ≠ 42 := fun e => by subst e; simp at hc
    rw [argT0, numsText_one, readArgI, enclosed_no (head_no hb rfl hs), enclosed_no (head_no hb rfl hs), readNumI_number hv]
    simp
  · obtain ⟨h1, h2, h3, h4⟩ := validArg_1 h rfl
    simp only at h1 h2 h3 h4
    subst h1 h3
    have hno : (enclosed ([42, 91] ++ numsText l ++ [93]) [42, 42, 123] [125]).2 = false := enclosed_no (by simp)
    rw [argT1, readArgI, hno, enclosed_text]
    simp only [Bool.false_eq_true, if_false, if_true]
    rw [fieldsS_ascii (nums_ascii l), numsText, fGo_join _ nums_parts, allOk_map (fun n hn => readNumI_number (List.all_eq_true.1 h4 n hn))]
  · obtain ⟨h1, h2, h3, h4⟩ := validArg_2 h rfl
    simp only at h1 h2 h3 h4
    obtain ⟨n, rfl⟩ := list_one h2
    subst h3
    have hv : isValue n = true := List.all_eq_true.1 h4 n (by simp)
    have ht : argText ⟨2, nm, [n], []⟩ = pairText ⟨nm, n⟩ := by rw [argT2, numsText_one]; simp [pairText]
    obtain ⟨b, r, hb, hc⟩ := name_head h1 (61 :: number n)
    have hs : b ≠ 42 := fun e => by subst e; simp at hc
    have hb : pairText ⟨nm, n⟩ = b :: r := hb
    have hn : (readNumI (pairText ⟨nm, n⟩)).2 = false := by
      cases e : (readNumI (pairText ⟨nm, n⟩)).2 with
      | false => rfl
      | true =>
        have e2 := readNumI_ok e
        obtain ⟨b', r', hb', hc'⟩ := number_head (readNumI (pairText ⟨nm, n⟩)).1
        rw [← e2, hb] at hb'
        cases hb'
        omega
    rw [ht, readArgI, enclosed_no (head_no hb rfl hs), enclosed_no (head_no hb rfl hs), hn, readPairI_text (by simp [validPair, h1, hv])]
    simp
  · obtain ⟨h1, h2, h3, h4⟩ := validArg_3 h rfl
    simp only at h1 h2 h3 h4
    subst h1 h2
    rw [argT3, readArgI, enclosed_text]
    simp only [if_true]
    rw [fieldsS_ascii (pairs_ascii h4), pairsText, fGo_join _ (pairs_parts h4), allOk_map (fun p hp => readPairI_text (List.all_eq_true.1 h4 p hp))]
theorem callText_nil {c : Cal} (h : validCall c = true) (e : callText c = []) : c = ⟨[]⟩ := by
  obtain ⟨l⟩ := c
  cases l with
  | nil => rfl
  | cons a l =>
    rw [callText, if_pos h] at e
    exact absurd e (joinW_ne (args_parts h _ (by simp)).1)
theorem parseCallI_text {c : Cal} (h : validCall c = true) : parseCallI (callText c) = (c, true) := by
  unfold parseCallI
  split
  · rename_i e; rw [callText_nil h e]
  · rename_i e
    have hs : splitS (callText c) [44, 32] = c.args.map argText := by
      have hp := args_parts h
      rw [callText, if_pos h] at e ⊢
      cases hm : c.args.map argText with
      | nil => rw [hm] at e; exact absurd rfl e
      | cons p ps => rw [hm] at hp; exact splitS_join p ps (fun q hq => (hp q hq).2)
    rw [hs, allOk_map (fun a ha => readArgI_text ((validCall_args h).1 a ha))]
    simp only
    rw [if_pos ⟨h, trivial⟩]
theorem parseCallI_ok {s : Str} (h : (parseCallI s).2 = true) : validCall (parseCallI s).1 = true ∧ callText (parseCallI s).1 = s := by
  unfold parseCallI at h ⊢
  split
  · rename_i e; subst e; exact ⟨rfl, rfl⟩
  · rename_i e
    rw [if_neg e] at h
    cases hl : allOk readArgI (splitS s [44, 32]) with
    | none => rw [hl] at h; cases h
    | some l =>
      rw [hl] at h
      simp only at h ⊢
      split at h
      · rename_i hv; rw [if_pos hv]; exact hv
      · cases h
theorem parseCallI_bad {s : Str} (h : (parseCallI s).2 = false) : (parseCallI s).1 = ⟨[]⟩ := by
  unfold parseCallI at h ⊢
  split
  · rfl
  · rename_i e
    rw [if_neg e] at h
    cases hl : allOk readArgI (splitS s [44, 32]) with
    | none => rfl
    | some l =>
      rw [hl] at h
      simp only at h ⊢
      split
      · rename_i hv; rw [if_pos hv] at h; cases h
      · rfl
theorem parseCall_same (s : Str) : parseCallI s = ParseCallS s := by
  cases h : (parseCallI s).2 with
  | true =>
    obtain ⟨h1, h2⟩ := parseCallI_ok h
    have := parseCallS_text h1
    rw [h2] at this
    rw [ParseCallS, this]
    exact Prod.ext rfl h
  | false =>
    have hS : (parseCallS s).2 = false := by
      cases e : (parseCallS s).2 with
      | false => rfl
      | true =>
        obtain ⟨h1, h2⟩ := parseCallS_ok (s := s) (c := (parseCallS s).1) (Prod.ext rfl e)
        have := parseCallI_text h1
        rw [h2] at this
        rw [this] at h; cases h
    rw [ParseCallS, hS, if_neg (by simp)]
    exact Prod.ext (parseCallI_bad h) h
section
variable {G : Glob} (hm : pg.follows .mixedOrders = true) (hz : ∀ T, ∀ c ∈ (ttOf pg T).zero, Bd c) (hG : GF G)
include hm hz hG
theorem laws_FnTopCall.ok {a1 : Str} (hp : a1.length ≤ 1048576) : FnOK pg G 3 [.str ⟨⟨a1⟩⟩] [] (.bool (((fun (_ : Str) => true) a1))) [] false := by
  refine laws_FnTopCall.w hm hz hG ?_
  have e := parseCall_same a1
  simp only [laws_FnTopCall.f, on_Cal_B]
  rw [gd_ok hp, gd_ok hp, ← e]
  simp only [lv]
  by_cases h : (parseCallI a1).2 = true
  · obtain ⟨h1, h2⟩ := parseCallI_ok h
    have h1 : validCall ⟨(parseCallI a1).1.args⟩ = true := h1
    have h2 : callText ⟨(parseCallI a1).1.args⟩ = a1 := h2
    simp [cn_ite, h, h1, h2]
  · simp [cn_ite, h]
end
end Go.Proofs.YtoofegkjdjlpkaaGreatDoor.M
