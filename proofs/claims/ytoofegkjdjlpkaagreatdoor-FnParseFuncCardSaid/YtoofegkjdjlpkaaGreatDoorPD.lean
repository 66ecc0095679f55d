/- Texts and their readings: the plain laws. -/
import Derived.Test.YtoofegkjdjlpkaaGreatDoorPC
set_option linter.unusedVariables false
set_option linter.unusedSimpArgs false
set_option linter.unusedSectionVars false
namespace Go.Proofs.YtoofegkjdjlpkaaGreatDoor.M
open Go Go.Proofs
set_option maxRecDepth 100000
theorem numN_chars (k : Nat) : ∀ b ∈ numN k, 48 ≤ b.toNat ∧ b.toNat ≤ 57 := by
  induction k using Nat.strongRecOn with
  | _ k ih =>
    intro b hb
    rw [numN] at hb
    split at hb
    · rw [List.mem_singleton] at hb
      subst hb
      rw [UInt8.toNat_ofNat']; omega
    · rename_i h
      rcases List.mem_append.1 hb with hb | hb
      · exact ih (k / 10) (by omega) b hb
      · rw [List.mem_singleton] at hb
        subst hb
        rw [UInt8.toNat_ofNat']; omega
theorem numN_ne (k : Nat) : numN k ≠ [] := by rw [numN]; split <;> simp
theorem number_chars (n : Int) : ∀ b ∈ number n, b.toNat = 45 ∨ 48 ≤ b.toNat ∧ b.toNat ≤ 57 := by
  intro b hb
  unfold number at hb
  split at hb
  · rcases List.mem_cons.1 hb with rfl | hb
    · exact .inl rfl
    · exact .inr (numN_chars _ b hb)
  · exact .inr (numN_chars _ b hb)
theorem name_chars {s : Str} (h : isName s = true) : ∀ b ∈ s, 97 ≤ b.toNat ∧ b.toNat ≤ 122 := by
  simp only [isName, Bool.and_eq_true, List.all_eq_true] at h
  intro b hb
  have := h.1 b hb
  simpa [isLow] using this
theorem name_ne {s : Str} (h : isName s = true) : s ≠ [] := by
  have := isName_len h; intro e; rw [e] at this; simp at this
theorem numN_small {k : Nat} (h : k ≤ 99) : numN k = if k < 10 then [UInt8.ofNat (48 + k)] else [UInt8.ofNat (48 + k / 10), UInt8.ofNat (48 + k % 10)] := by
  rw [numN]
  split
  · rfl
  · rw [numN, dif_pos (by omega)]; rfl
theorem ofN {k : Nat} (h : k ≤ 9) : (UInt8.ofNat (48 + k)).toNat = 48 + k := by rw [UInt8.toNat_ofNat']; omega
/- The reference's numbers. -/
theorem digGo_num {k : Nat} (h : k ≤ 99) : digGo (numN k) 0 = some k := by
  rw [numN_small h]
  split
  · have := ofN (k := k) (by omega)
    simp only [digGo]
    rw [if_neg (by omega), this]; congr 1; omega
  · have h1 := ofN (k := k / 10) (by omega)
    have h2 := ofN (k := k % 10) (by omega)
    simp only [digGo]
    rw [if_neg (by omega), if_neg (by omega), h1, h2]; congr 1; omega
theorem isNeg_number (n : Int) : isNeg (number n) = decide (n < 0) := by
  unfold number
  split
  · rename_i h; simp [isNeg, h]
  · rename_i h
    have hne := numN_ne n.toNat
    have hc := numN_chars n.toNat
    generalize numN n.toNat = l at hne hc
    cases l with
    | nil => exact absurd rfl hne
    | cons b r =>
      have := hc b (by simp)
      simp only [isNeg]
      rw [decide_eq_false (by omega), decide_eq_false (by omega)]
theorem readNumS_number {n : Int} (h : isValue n = true) : readNumS (number n) = (n, true) := by
  have hr := isValue_rng h
  have hd : digGo ((number n).drop (if isNeg (number n) = true then 1 else 0)) 0 = some n.natAbs := by
    rw [isNeg_number]
    by_cases hn : n < 0
    · rw [decide_eq_true hn, number, if_pos hn]; exact digGo_num (by omega)
    · rw [decide_eq_false hn, number, if_neg hn]
      have := digGo_num (k := n.toNat) (by omega)
      rw [show n.natAbs = n.toNat by omega]; simpa using this
  have hs : sgn (number n) n.natAbs = n := by
    unfold sgn
    rw [isNeg_number]
    by_cases hn : n < 0
    · rw [decide_eq_true hn, if_pos rfl]; omega
    · rw [decide_eq_false hn, if_neg (by simp)]; omega
  rw [readNumS, hd]
  simp only
  rw [hs]; simp
/- The program's numbers. -/
theorem parseMag_num {k : Nat} (h : k ≤ 99) : Lib.parseMag (numN k) = .ok k := by
  rw [Lib.parseMag, if_neg (numN_ne k), numN_small h]
  split
  · have := ofN (k := k) (by omega)
    simp only [Lib.parseUint10]
    rw [if_pos (by omega), if_neg (by omega), if_neg (by omega), this]; congr 1; omega
  · have h1 := ofN (k := k / 10) (by omega)
    have h2 := ofN (k := k % 10) (by omega)
    simp only [Lib.parseUint10]
    rw [if_pos (by omega), if_neg (by omega), if_neg (by omega), if_pos (by omega), if_neg (by omega), if_neg (by omega), h1, h2]; congr 1; omega
theorem atoi_number {n : Int} (h : isValue n = true) : Lib.atoiAll (number n) = .ok n := by
  have hr := isValue_rng h
  unfold number
  split
  · rename_i hn
    have := parseMag_num (k := n.natAbs) (by omega)
    simp only [Lib.atoiAll]
    rw [if_pos (by decide), this]
    simp only
    rw [if_neg (by omega), if_neg (by omega), if_pos (by decide)]
    congr 1; omega
  · rename_i hn
    have hm := parseMag_num (k := n.toNat) (by omega)
    have hne := numN_ne n.toNat
    have hc := numN_chars n.toNat
    generalize numN n.toNat = l at hm hne hc
    cases l with
    | nil => exact absurd rfl hne
    | cons b r =>
      have hb := hc b (by simp)
      simp only [Lib.atoiAll]
      rw [if_neg (by omega), hm]
      simp only
      rw [if_neg (by omega), if_neg (by omega), if_neg (by omega)]
      congr 1; omega
theorem readNumI_number {n : Int} (h : isValue n = true) : readNumI (number n) = (n, true) := by
  rw [readNumI, atoi_number h]
  simp only
  rw [← number_itoa, decide_eq_true rfl]
end Go.Proofs.YtoofegkjdjlpkaaGreatDoor.M
