/- Join, Itoa, Split, FieldsFunc. -/
import Derived.Test.YtoofegkjdjlpkaaGreatDoorP3
set_option linter.unusedVariables false
set_option linter.unusedSimpArgs false
set_option linter.unusedSectionVars false
namespace Go.Proofs.YtoofegkjdjlpkaaGreatDoor.M
open Go Go.Proofs
set_option maxRecDepth 100000
theorem arg_rows {w : World} {g : Gh} {o : Nat → Obj} {l : List Str} {v : Value} (h : VA w g o (.sl (l.map eS)) v) : ∃ A c, v = .slice A l.length c ∧ l.length ≤ c ∧ (l ≠ [] → ∃ a, A = some a ∧ a.spot = none ∧ ∀ (j : Nat) (s : Str), l[j]? = some s → w.cell? ⟨a.block, a.off + j, none⟩ = some (.string ⟨⟨s⟩⟩)) := by
  obtain ⟨A, c, es, f, rfl, hc, hr, hm, hv⟩ := vr_sl' (show VR w g o (.sl (l.map eS)) v from h)
  refine ⟨A, c, by rw [List.length_map], by rwa [List.length_map] at hc, fun hne => ?_⟩
  obtain ⟨a, h1, h2, h3, h4⟩ := hm (by simpa using hne)
  refine ⟨a, h1, h2, fun j s hj => ?_⟩
  have hjl : j < l.length := (List.getElem?_eq_some_iff.1 hj).1
  have hrow : (l.map eS)[j]? = some (eS s) := by rw [List.getElem?_map, hj]; rfl
  have hes : es = 1 := (hr _ (List.mem_of_getElem? hrow)).symm
  subst hes
  have h5 := h4 j 0 (by rw [List.length_map]; exact hjl) (by omega)
  rw [Nat.mul_one, Nat.add_zero] at h5
  rw [h5]
  have h6 := hv j _ hrow 0 (.str ⟨⟨s⟩⟩) rfl
  generalize f j 0 = x at h6
  cases h6
  rfl
def joinW (l : List Str) (sep : Str) : Str := Lib.join l sep
theorem map_str (l : List Str) : (l.map fun s => (⟨⟨s⟩⟩ : ByteArray)).map (fun x => x.data.toList) = l := by
  rw [List.map_map]; exact (List.map_congr_left fun x _ => rfl).trans (List.map_id _)
theorem cell_lt {w : World} {b k : Nat} {v : Value} (h : w.cell? ⟨b, k, none⟩ = some v) : b < w.heap.size := by
  by_cases hb : b < w.heap.size
  · exact hb
  · simp only [World.cell?] at h
    rw [Array.getElem?_eq_none (by omega)] at h
    cases h
theorem numN_dec (k : Nat) : numN k = Lib.decDigits k := by
  induction k using Nat.strongRecOn with
  | _ k ih =>
    rw [numN, Lib.decDigits]
    split
    · rfl
    · rename_i h; rw [ih (k / 10) (by omega)]
theorem number_itoa (n : Int) : number n = Lib.itoa n := by
  unfold number Lib.itoa
  split <;> rw [numN_dec]
theorem itoa_len {n : Int} (h : -9223372036854775808 ≤ n ∧ n ≤ 9223372036854775807) : (number n).length ≤ 20 := by
  unfold number
  split
  · have := numN_len n.natAbs 19 (by omega) (by omega); simp; omega
  · have := numN_len n.toNat 19 (by omega) (by omega); omega
theorem ext_size (s : ByteArray) (a b : Nat) : (s.extract a b).size ≤ s.size := by simp; omega
theorem splitB_part (sep : ByteArray) : ∀ (k : Nat) (s : ByteArray), ∀ x ∈ Lib.splitB sep 0 k s, x.size ≤ s.size
  | 0, s, x, hx => by rw [Lib.splitB.eq_1, List.mem_singleton] at hx; subst hx; exact Nat.le_refl _
  | k + 1, s, x, hx => by
    rw [Lib.splitB.eq_2] at hx
    split at hx
    · rw [List.mem_singleton] at hx; subst hx; exact Nat.le_refl _
    · rcases List.mem_cons.1 hx with rfl | hx
      · exact ext_size _ _ _
      · exact Nat.le_trans (splitB_part sep k _ x hx) (ext_size _ _ _)
def splitS (s sep : Str) : List Str := (Lib.splitB ⟨⟨sep⟩⟩ 0 (Lib.countB ⟨⟨s⟩⟩ ⟨⟨sep⟩⟩) ⟨⟨s⟩⟩).map fun x => x.data.toList
theorem splitS_part {s sep x : Str} (h : x ∈ splitS s sep) : x.length ≤ s.length := by
  obtain ⟨y, hy, rfl⟩ := List.mem_map.1 h
  exact splitB_part _ _ _ y hy
theorem bd_rowsS {l : List Str} (h1 : l.length ≤ 9223372036854775807) (h2 : ∀ s ∈ l, s.length ≤ 9223372036854775807) : Bd (.sl (l.map eS)) := by
  refine .sl _ (by rw [List.length_map]; exact h1) fun r hr c hc => ?_
  obtain ⟨s, hs, rfl⟩ := List.mem_map.1 hr
  rw [eS, List.mem_singleton] at hc
  subst hc
  exact .str _ (h2 s hs)
section
variable {G : Glob} (hm : pg.follows .mixedOrders = true) (hz : ∀ T, ∀ c ∈ (ttOf pg T).zero, Bd c) (hG : GF G)
include hm hz hG
theorem strings_Join.ok {a1 : List Str} {a2 : Str} (hp : (joinW a1 a2).length ≤ 140737488355328 ∧ a1.length ≤ 140737488355328) : FnOK pg G 71 [.sl (a1.map eS), .str ⟨⟨a2⟩⟩] [] (.str ⟨⟨joinW a1 a2⟩⟩) [] false := by
  refine lib_ok (by unfold pg; exact Tryz.func71) rfl rfl false rfl rfl rfl (fun ha => .str _ ?_) fun w g vals hw hout hsz ha hb => ?_
  · show (joinW a1 a2).length ≤ bnd63; unfold bnd63; omega
  · obtain ⟨A, c, hv, hc, hx⟩ := arg_rows (ha 0 _ rfl)
    obtain rfl := vals2 hsz hv (arg_str (ha 1 _ rfl))
    unfold pg
    by_cases hne : a1 = []
    · subst hne
      refine (Tryz.strings_Join_none A c ⟨⟨a2⟩⟩ w).mono ?_
      rintro e w' ⟨he, rfl⟩
      exact ⟨_, he, .refl _ _, g0, fun _ => rfl, fun b hb => hb.elim, .closed (.str _)⟩
    · obtain ⟨a, rfl, hs, hx⟩ := hx hne
      have h := Tryz.strings_Join a.block a.off c (a1.map fun s => ⟨⟨s⟩⟩) ⟨⟨a2⟩⟩ w (fun j x hj => ?_) ?_ (by rw [List.length_map]; exact hp.2) (by rw [List.length_map]; exact hc) (by rw [map_str]; exact hp.1)
      · rw [map_str, List.length_map] at h
        obtain ⟨b, k, sp⟩ := a
        simp only at hs
        subst hs
        refine h.mono ?_
        rintro e w' ⟨he, hB⟩
        exact ⟨_, he, hB, g0, fun _ => rfl, fun b hb => hb.elim, .closed (.str _)⟩
      · rw [List.getElem?_map, Option.map_eq_some_iff] at hj
        obtain ⟨s, hj, rfl⟩ := hj
        exact hx j s hj
      · obtain ⟨x, hx0⟩ : ∃ x, a1[0]? = some x := ⟨_, List.getElem?_eq_getElem (List.length_pos_iff.2 hne)⟩
        exact cell_lt (hx 0 x hx0)
theorem strconv_Itoa.ok {a1 : Int} (hp : -9223372036854775808 ≤ a1 ∧ a1 ≤ 9223372036854775807) : FnOK pg G 164 [.int .i64 a1] [] (.str ⟨⟨number a1⟩⟩) [] false := by
  refine lib_ok (by unfold pg; exact Tryz.func164) rfl rfl false rfl rfl rfl (fun ha => .str _ ?_) fun w g vals hw hout hsz ha hb => ?_
  · have := itoa_len hp; show (number a1).length ≤ bnd63; unfold bnd63; omega
  · obtain rfl := vals1 hsz (arg_int (ha 0 _ rfl))
    have hW := hG.pow w hw
    unfold pg at hW ⊢
    refine (Tryz.strconv_Itoa a1 hp.1 hp.2 w hW).mono ?_
    rintro e w' ⟨he, k, os, rfl⟩
    rw [number_itoa]
    exact ⟨_, he, below_grow, g0, fun _ => rfl, fun b hb => hb.elim, .closed (.str _)⟩
theorem strings_Split.ok {a1 a2 : Str} (hp : a1.length < 4294967281 ∧ 1 ≤ a2.length) : FnOK pg G 62 [.str ⟨⟨a1⟩⟩, .str ⟨⟨a2⟩⟩] [] (.sl ((splitS a1 a2).map eS)) [] true := by
  refine lib_ok (by unfold pg; exact Tryz.func62) rfl rfl true rfl rfl rfl (fun ha => ?_) fun w g vals hw hout hsz ha hb => ?_
  · refine bd_rowsS ?_ fun x hx => by have := splitS_part hx; omega
    rw [splitS, List.length_map]
    have := Lib.splitB_length_le ⟨⟨a2⟩⟩ 0 (Lib.countB ⟨⟨a1⟩⟩ ⟨⟨a2⟩⟩) ⟨⟨a1⟩⟩
    have : Lib.countB ⟨⟨a1⟩⟩ ⟨⟨a2⟩⟩ ≤ a1.length + 1 := Lib.count_le a1 a2
    omega
  · obtain rfl := vals2 hsz (arg_str (ha 0 _ rfl)) (arg_str (ha 1 _ rfl))
    obtain ⟨m, hm'⟩ := hG.max w hw
    unfold pg
    refine (Tryz.strings_Split ⟨⟨a1⟩⟩ ⟨⟨a2⟩⟩ m w hp.1 hm' hp.2).mono ?_
    rintro e w' ⟨he, rfl⟩
    have hl : (Lib.splitB ⟨⟨a2⟩⟩ 0 (Lib.countB ⟨⟨a1⟩⟩ ⟨⟨a2⟩⟩) ⟨⟨a1⟩⟩).length = Lib.countB ⟨⟨a1⟩⟩ ⟨⟨a2⟩⟩ + 1 := Lib.splitB_all ⟨⟨a2⟩⟩ hp.2 0 _ _ rfl
    refine ⟨_, he, (RowKit.Below.refl _ _).alloc (Nat.le_refl _) _, gB w.heap.size, fun _ => rfl, fun b hb => ?_, lvr_rows (by rw [splitS, List.length_map, hl]) (Nat.le_refl _) fun j s hj => ?_⟩
    · have : b = w.heap.size := hb
      subst this; exact ⟨Nat.le_refl _, by simp⟩
    · rw [splitS, List.getElem?_map, Option.map_eq_some_iff] at hj
      obtain ⟨x, hx, rfl⟩ := hj
      have e : (w.alloc (Go.Obj.cells (List.map Value.string (Lib.splitB ⟨⟨a2⟩⟩ 0 (Lib.countB ⟨⟨a1⟩⟩ ⟨⟨a2⟩⟩) ⟨⟨a1⟩⟩)).toArray 9)).heap[w.heap.size]? = some (Go.Obj.cells (List.map Value.string (Lib.splitB ⟨⟨a2⟩⟩ 0 (Lib.countB ⟨⟨a1⟩⟩ ⟨⟨a2⟩⟩) ⟨⟨a1⟩⟩)).toArray 9) := Array.getElem?_push_size
      simp only [World.cell?]
      rw [e]
      simp [hx]
end
end Go.Proofs.YtoofegkjdjlpkaaGreatDoor.M
