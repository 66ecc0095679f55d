/- The reference's reading of numbers and pairs. -/
import Derived.Test.YtoofegkjdjlpkaaGreatDoorP9
set_option linter.unusedVariables false
set_option linter.unusedSimpArgs false
set_option linter.unusedSectionVars false
namespace Go.Proofs.YtoofegkjdjlpkaaGreatDoor.M
open Go Go.Proofs
set_option maxRecDepth 100000
def indexByte (s : Str) (c : Int) : Int := findI (fun b => decide ((b.toNat : Int) = c)) s
theorem indexByte_range (s : Str) (c : Int) : -1 ≤ indexByte s c ∧ (indexByte s c < s.length ∨ indexByte s c = -1) := by
  rcases findI_range (fun b : UInt8 => decide ((b.toNat : Int) = c)) s with h | h
  · exact ⟨h.1, .inl h.2⟩
  · exact ⟨by unfold indexByte; omega, .inr h.2⟩
def digGo : Str → Nat → Option Nat
  | [], n => some n
  | b :: r, n => if b.toNat < 48 ∨ 57 < b.toNat ∨ 9 < n then none else digGo r (10 * n + (b.toNat - 48))
def isNeg : Str → Bool
  | [] => false
  | b :: _ => decide (b.toNat = 45)
def sgn (s : Str) (n : Nat) : Int := if isNeg s = true then -(n : Int) else n
def readNumS (s : Str) : Int × Bool :=
  match digGo (s.drop (if isNeg s = true then 1 else 0)) 0 with
  | none => (0, false)
  | some n => (sgn s n, decide (s = number (sgn s n)))
theorem drop_cons' {α : Type} {l : List α} {i : Int} (h0 : 0 ≤ i) (h : i < l.length) : ∃ x, l[i.toNat]? = some x ∧ l.drop i.toNat = x :: l.drop (i + 1).toNat := by
  have hlt : i.toNat < l.length := by omega
  refine ⟨l[i.toNat], List.getElem?_eq_getElem hlt, ?_⟩
  rw [show (i + 1).toNat = i.toNat + 1 by omega]
  exact List.drop_eq_getElem_cons hlt
noncomputable def spec_indexByte.b0 (a1 : Str) (a2 : Int)  (h0 : (Int) → Option (Int)) (z_ : Int) (x6 : Int) : Option (Int) := (ln' z_ (a1.length) fun v10 => (if x6 < v10 then (bt a1 x6 fun v11 => (if v11 = a2 then (some x6) else (arr .i64 (x6 + 1) fun v12 => (h0 v12)))) else (some ((-1)))))
noncomputable def spec_indexByte.f (a1 : Str) (a2 : Int) (h0 : (Int) → Option (Int)) (z_ : Int) : Option (Int) := (h0 0)
theorem pin_spec_indexByte {e : ESt} {ns : List (Nat × Nat)} {ps : List (Nat × C)} {os : List (Nat × EObj)} (hs : pinPZ (pinZ e.o (os.map Prod.fst) ns) e.s ps := by first | (cbv <;> (repeat' (first | trivial | refine And.intro ?_ ?_)) <;> (first | rfl | assumption | omega | trivial | rfl | rfl | simp [closedCell])) | fail) (ho : ∀ B : (Nat → EObj) → List (List C) → List (List C) → Prop, (∀ o rows rows', rowsZ (pinZ o (os.map Prod.fst) ns) rows rows' → B o rows rows') → pinOZ (pinZ e.o (os.map Prod.fst) ns) B e.o ns os := by intro B hB; first | (cbv <;> (repeat' (first | trivial | refine And.intro ?_ ?_ | refine pin_same hB ?_ | refine pin_nil hB ?_ | refine pin_dirty hB (by assumption) (by assumption) ?_ ?_ | exact pinL_n | refine pinL_c ?_ ?_ | (refine pz_go ?_; cbv) | (refine pinL_go ?_; cbv))) <;> (first | trivial | rfl | rfl | assumption | omega | rfl | simp [closedCell])) | fail) : PinnedZ e ns ps os := ⟨hs, ho⟩
section
variable {G : Glob} (hm : pg.follows .mixedOrders = true) (hz : ∀ T, ∀ c ∈ (ttOf pg T).zero, Bd c) (hG : GF G)
include hm hz hG
set_option maxHeartbeats 8000000 in
theorem spec_indexByte.w {a1 : Str} {a2 : Int} (inv0 : (Int) → Prop) (mu0 : (Int) → Nat) (res0 : (Int) → Int) (hb0 : ∀ (s_ : Int), inv0  s_ → spec_indexByte.b0 a1 a2  (LI (inv0 ) (mu0 ) (res0 ) (mu0  s_)) (res0  s_) s_ = some (res0  s_)) {r : Int} (H : spec_indexByte.f a1 a2 (EI (inv0 ) (mu0 ) (res0 )) r = some r) : FnOK pg G 204 [.str ⟨⟨a1⟩⟩, .int .u8 a2] [] (.int .i64 r) [] false := by
  obtain ⟨V, hV⟩ := exV
  refine fn_ok (tt0 := tyG [ty3, ty4, ty5, ty9]) (fn := Tryz.f204) (body := bodyOf Tryz.f204) (ext := []) hm (tyG_sub ⟨tt3, tt4, tt5, tt9, trivial⟩) hz 0 true [] (by unfold pg; exact Tryz.func204) rfl rfl (by simp [Tryz.f204]) (by simp [EObj.toObj]) (by cbv) ?_
  intro A F hA hF
  unfold spec_indexByte.f at H
  cbv
  repeat' (first
    | (cases H; exact fin_plain hF rfl rfl rfl rfl)
    | (with_reducible refine s_lt H (fun H => ?_) (fun H => ?_) <;> cbv)
    | (with_reducible refine s_le H (fun H => ?_) (fun H => ?_) <;> cbv)
    | (with_reducible refine s_eq H (fun H => ?_) (fun H => ?_) <;> cbv)
    | (with_reducible refine s_ne H (fun H => ?_) (fun H => ?_) <;> cbv)
    | (with_reducible refine s_ln H lnOf (fun _ H => ?_); cbv)
    | (with_reducible refine s_bt H (fun _ H => ?_); cbv)
    | (with_reducible refine s_ar H (fun _ H => ?_); cbv)
    | (with_reducible refine s_lv H (fun _ H => ?_); cbv)
    | (with_reducible refine s_loop hA H (fun s h => hb0  s h) [0, 1] [] (fun e s => [(5, .int .i64 s)]) (fun e s => []) [] pin_spec_indexByte nbOf ?_; rintro x6 H; unfold spec_indexByte.b0 at H; (try dsimp only at H); cbv)
    | (with_reducible refine s_next H pin_spec_indexByte nbOf)
    | (with_reducible refine indep_of hA ?_; cbv)
    | ((with_reducible refine side ?_); exact sideOf)
    | (with_reducible refine s_tk1 ?_; cbv)
    | (with_reducible refine And.intro ?_ ?_)
    | (intro ys hys; subst hys; rfl)
    | rfl)
end
section
variable {G : Glob} (hm : pg.follows .mixedOrders = true) (hz : ∀ T, ∀ c ∈ (ttOf pg T).zero, Bd c) (hG : GF G)
include hm hz hG
theorem spec_indexByte.ok {a1 : Str} {a2 : Int}  : FnOK pg G 204 [.str ⟨⟨a1⟩⟩, .int .u8 a2] [] (.int .i64 ((indexByte a1 a2))) [] false := by
  have A := @spec_indexByte.w G hm hz hG a1 a2 (rgI (a1) (fun i => i) (fun _ => True)) (rgM (a1) (fun i => i)) (rgR (a1) (fun i => i) (fun r i => idxOr i (r.findIdx? (fun b => decide ((b.toNat : Int) = a2))))) (rangeS (a1) (fun i => i) (fun _ => True) (fun r i => idxOr i (r.findIdx? (fun b => decide ((b.toNat : Int) = a2)))) (fun rec z s => spec_indexByte.b0 a1 a2  rec z s) ?_ ?_)
  · exact A (EI_fin (rg0 trivial rfl) rfl)
  · intro rec s _ h0 h1
    simp only [spec_indexByte.b0]
    refine ln_ok fun hB => ?_
    simp (disch := first | assumption | omega | (simp; done) | (simp; omega)) only [if_true, if_false, reduceIte, lv, lj, ln_at, cn_t, cn_f, cn_tf, cn_ft, cn_xx, gd_ok, arr_ok, arr_ok8, arr_ok32, arr_oku, ia_ok, bt_ok, EI_ok, LI_ok, h1, Int.lt_irrefl]
    rfl
  · intro rec s x r _ h0 h1 hx hl hr
    simp only [spec_indexByte.b0]
    refine ln_ok fun hB => ?_
    simp (disch := first | assumption | omega | (simp; done) | (simp; omega)) only [if_true, if_false, reduceIte, lv, lj, ln_at, cn_t, cn_f, cn_tf, cn_ft, cn_xx, gd_ok, arr_ok, arr_ok8, arr_ok32, arr_oku, ia_ok, bt_ok, EI_ok, LI_ok, h1, gD hx, hr _ trivial rfl, idxOr_cons]
    by_cases h : (x.toNat : Int) = a2 <;> simp [h]
end
noncomputable def spec_readNumber.b0 (a1 : Str) (x3 : Int) (h0 : (Int × Int) → Option (Int × Bool)) (z_ : Int × Bool) (x14 : Int) (x15 : Int) : Option (Int × Bool) := (ln' z_ (a1.length) fun v25 => (if x15 < v25 then (bt a1 x15 fun v26 => (if v26 < 48 then (some (0, false)) else (bt a1 x15 fun v27 => (if 57 < v27 then (some (0, false)) else (if 9 < x14 then (some (0, false)) else (arr .i64 (10 * x14) fun v28 => (bt a1 x15 fun v29 => (arr .u8 (v29 - 48) fun v30 => (arr .i64 (v30) fun v31 => (arr .i64 (v28 + v31) fun v32 => (arr .i64 (x15 + 1) fun v33 => (h0 (v32, v33))))))))))))) else (lj 1 (fun J1 => (if x3 = 1 then (arr .i64 (0 - x14) fun v36 => (J1 v36)) else (J1 x14))) (fun x35 => (gd (-1000000 ≤ x35 ∧ x35 ≤ 1000000) (lv (number x35) fun v37 => (if a1 = v37 then (some (x35, true)) else (some (x35, false)))))))))
noncomputable def spec_readNumber.f (a1 : Str) (h0 : Int → (Int × Int) → Option (Int × Bool)) (z_ : Int × Bool) : Option (Int × Bool) := (lj 0 (fun J0 => (if a1 = ([] : Str) then (J0 0) else (bt a1 0 fun v4 => (if v4 = 45 then (J0 1) else (J0 0))))) (fun x3 => (h0 x3 (0, x3))))
section
variable {G : Glob} (hm : pg.follows .mixedOrders = true) (hz : ∀ T, ∀ c ∈ (ttOf pg T).zero, Bd c) (hG : GF G)
include hm hz hG
set_option maxHeartbeats 8000000 in
theorem spec_readNumber.w {a1 : Str} (inv0 : Int → (Int × Int) → Prop) (mu0 : Int → (Int × Int) → Nat) (res0 : Int → (Int × Int) → Int × Bool) (hb0 : ∀ (x3 : Int), ∀ (s_ : Int × Int), inv0 x3 s_ → spec_readNumber.b0 a1 x3 (LI (inv0 x3) (mu0 x3) (res0 x3) (mu0 x3 s_)) (res0 x3 s_) s_.1 s_.2 = some (res0 x3 s_)) {r : Int × Bool} (H : spec_readNumber.f a1 (fun x3 => EI (inv0 x3) (mu0 x3) (res0 x3)) r = some r) : FnOK pg G 193 [.str ⟨⟨a1⟩⟩] [] (.tup [.int .i64 (r.1), .bool (r.2)]) [] false := by
  obtain ⟨V, hV⟩ := exV
  refine fn_ok (tt0 := tyG [ty3, ty4, ty5, ty9]) (fn := Tryz.f193) (body := bodyOf Tryz.f193) (ext := []) hm (tyG_sub ⟨tt3, tt4, tt5, tt9, trivial⟩) hz 0 true [4, 13] (by unfold pg; exact Tryz.func193) rfl rfl (by simp [Tryz.f193]) (by simp [EObj.toObj]) (by cbv) ?_
  intro A F hA hF
  unfold spec_readNumber.f at H
  cbv
  repeat' (first
    | (with_reducible refine s_gd H (fun hg H => ?_))
    | (cases H; exact fin_plain hF rfl rfl rfl rfl)
    | (with_reducible refine s_lt H (fun H => ?_) (fun H => ?_) <;> cbv)
    | (with_reducible refine s_le H (fun H => ?_) (fun H => ?_) <;> cbv)
    | (with_reducible refine s_eq H (fun H => ?_) (fun H => ?_) <;> cbv)
    | (with_reducible refine s_ne H (fun H => ?_) (fun H => ?_) <;> cbv)
    | (with_reducible refine s_ln H lnOf (fun _ H => ?_); cbv)
    | (with_reducible refine s_bt H (fun _ H => ?_); cbv)
    | (with_reducible refine s_ar H (fun _ H => ?_); cbv)
    | (with_reducible refine s_lv H (fun _ H => ?_); cbv)
    | (with_reducible refine s_loop hA H (fun s h => hb0 _ s h) [0, 4] [] (fun e s => [(5, .int .i64 (s.1)), (6, .int .i64 (s.2))]) (fun e s => []) [] pin_spec_indexByte nbOf ?_; rintro ⟨x14, x15⟩ H; unfold spec_readNumber.b0 at H; (try dsimp only at H); cbv)
    | (with_reducible refine s_next H pin_spec_indexByte nbOf)
    | (with_reducible refine s_joint 0 hA H [0] [] (fun e s => [(4, .int .i64 s)]) (fun e s => []) (fun J0 H => ?_) ?_; rotate_left; (rintro x3 H; (try dsimp only at H); cbv); rotate_left; cbv)
    | (with_reducible refine s_meet H [] pin_spec_indexByte nbOf)
    | (with_reducible refine s_joint 1 hA H [0] [] (fun e s => [(5, .int .i64 s)]) (fun e s => []) (fun J1 H => ?_) ?_; rotate_left; (rintro x35 H; (try dsimp only at H); cbv); rotate_left; cbv)
    | (with_reducible refine s_meet H [] pin_spec_indexByte nbOf)
    | (with_reducible refine s_cs hA H (by (first | (have hk_ := spec_number.ok hm hz hG hg; with_unfolding_all exact hk_) | (with_unfolding_all exact spec_number.ok hm hz hG (by first | assumption | omega)))) rfl (fun _ H => ?_); cbv)
    | (with_reducible refine indep_of hA ?_; cbv)
    | ((with_reducible refine side ?_); exact sideOf)
    | (with_reducible refine s_tk1 ?_; cbv)
    | (with_reducible refine And.intro ?_ ?_)
    | (intro ys hys; subst hys; rfl)
    | rfl)
end
section
variable {G : Glob} (hm : pg.follows .mixedOrders = true) (hz : ∀ T, ∀ c ∈ (ttOf pg T).zero, Bd c) (hG : GF G)
include hm hz hG
theorem spec_readNumber.ok {a1 : Str}  : FnOK pg G 193 [.str ⟨⟨a1⟩⟩] [] (.tup [.int .i64 ((readNumS a1).1), .bool ((readNumS a1).2)]) [] false := by
  refine spec_readNumber.w hm hz hG
    (fun a (s : Int × Int) => a = (if isNeg a1 = true then 1 else 0) ∧ a ≤ s.2 ∧ s.2 ≤ a1.length ∧ 0 ≤ s.1 ∧ s.1 ≤ 99 ∧ digGo (a1.drop s.2.toNat) s.1.toNat = digGo (a1.drop a.toNat) 0) (fun _ s => a1.length - s.2.toNat) (fun _ _ => readNumS a1) ?_ ?_
  · rintro a ⟨n, i⟩ ⟨ha, hi, hk, hn, hn9, hp⟩
    simp only at hi hk hn hn9 hp
    have ha0 : 0 ≤ a := by rw [ha]; split <;> omega
    have hat : a.toNat = if isNeg a1 = true then 1 else 0 := by rw [ha]; split <;> rfl
    simp only [spec_readNumber.b0]
    refine ln_ok fun hB => ite_ok (fun hlt => ?_) (fun hlt => ?_)
    · obtain ⟨x, hx, hd⟩ := drop_cons' (by omega : 0 ≤ i) hlt
      have hgx := gD hx
      rw [hd] at hp
      have hxl := x.toNat_lt
      rw [bt_ok (by omega), hgx]
      have bad : (x.toNat < 48 ∨ 57 < x.toNat ∨ 9 < n.toNat) → some ((0, false) : Int × Bool) = some (readNumS a1) := fun hb => by
        rw [digGo, if_pos hb] at hp
        rw [readNumS, ← hat, ← hp]
      refine ite_ok (fun h1 => bad (by omega)) (fun h1 => ?_)
      rw [bt_ok (by omega), hgx]
      refine ite_ok (fun h2 => bad (by omega)) (fun h2 => ?_)
      refine ite_ok (fun h3 => bad (by omega)) (fun h3 => ?_)
      rw [arr_ok (by omega), bt_ok (by omega), hgx, arr_ok8 (by omega), arr_ok (by omega), arr_ok (by omega), arr_ok (by omega)]
      refine LI_ok ⟨⟨ha, by simp only; omega, by simp only; omega, by simp only; omega, by simp only; omega, ?_⟩, by simp only; omega⟩
      simp only
      rw [digGo, if_neg (by omega)] at hp
      rw [← hp]
      congr 1
      omega
    · rw [List.drop_eq_nil_of_le (by omega), digGo] at hp
      have key : ∀ v : Int, v = sgn a1 n.toNat → (gd (-1000000 ≤ v ∧ v ≤ 1000000) (lv (number v) fun v37 => if a1 = v37 then some (v, true) else some (v, false))) = some (readNumS a1) := fun v hv => by
        have : -99 ≤ v ∧ v ≤ 99 := by rw [hv, sgn]; split <;> omega
        rw [gd_ok (by omega), readNumS, ← hat, ← hp]
        simp only [lv, ← hv]
        by_cases h : a1 = number v
        · rw [if_pos h, decide_eq_true h]
        · rw [if_neg h, decide_eq_false h]
      simp only [lj]
      refine ite_ok (fun h1 => ?_) (fun h1 => ?_)
      · rw [arr_ok (by omega)]
        refine key _ ?_
        have : isNeg a1 = true := by
          cases h : isNeg a1
          · rw [h] at ha; simp at ha; omega
          · rfl
        rw [sgn, if_pos this]; omega
      · refine key _ ?_
        have : ¬ isNeg a1 = true := fun h => by rw [if_pos h] at ha; omega
        rw [sgn, if_neg this]; omega
  · simp only [spec_readNumber.f, lj]
    have go : ∀ a : Int, a = (if isNeg a1 = true then 1 else 0) → a ≤ a1.length → EI (fun s : Int × Int => a = (if isNeg a1 = true then 1 else 0) ∧ a ≤ s.2 ∧ s.2 ≤ a1.length ∧ 0 ≤ s.1 ∧ s.1 ≤ 99 ∧ digGo (a1.drop s.2.toNat) s.1.toNat = digGo (a1.drop a.toNat) 0) (fun s => a1.length - s.2.toNat) (fun _ => readNumS a1) (0, a) = some (readNumS a1) := fun a ha hl =>
      EI_fin ⟨ha, Int.le_refl _, hl, Int.le_refl _, by simp, rfl⟩ rfl
    refine ite_ok (fun h => ?_) (fun h => ?_)
    · refine go 0 ?_ (by omega)
      subst h; rfl
    · obtain ⟨b, r, rfl⟩ := List.exists_cons_of_ne_nil h
      rw [bt_ok (by simp)]
      have hb : (List.getD (b :: r) (Int.toNat 0) 0) = b := rfl
      rw [hb]
      refine ite_ok (fun h1 => ?_) (fun h1 => ?_)
      · refine go 1 ?_ (by simp; omega)
        rw [if_pos (by simp only [isNeg, decide_eq_true_eq]; omega)]
      · refine go 0 ?_ (by simp; omega)
        rw [if_neg (by simp only [isNeg, decide_eq_true_eq]; omega)]
end
section
variable {G : Glob} (hm : pg.follows .mixedOrders = true) (hz : ∀ T, ∀ c ∈ (ttOf pg T).zero, Bd c) (hG : GF G)
include hm hz hG
end
section
variable {G : Glob} (hm : pg.follows .mixedOrders = true) (hz : ∀ T, ∀ c ∈ (ttOf pg T).zero, Bd c) (hG : GF G)
include hm hz hG
end
def between (s lo hi : Str) : Str × Bool :=
  if s.length < lo.length + hi.length then ([], false)
  else if s.take lo.length = lo then
    if s.drop (s.length - hi.length) = hi then ((s.take (s.length - hi.length)).drop lo.length, true) else ([], false)
  else ([], false)
section
variable {G : Glob} (hm : pg.follows .mixedOrders = true) (hz : ∀ T, ∀ c ∈ (ttOf pg T).zero, Bd c) (hG : GF G)
include hm hz hG
end
section
variable {G : Glob} (hm : pg.follows .mixedOrders = true) (hz : ∀ T, ∀ c ∈ (ttOf pg T).zero, Bd c) (hG : GF G)
include hm hz hG
end
end Go.Proofs.YtoofegkjdjlpkaaGreatDoor.M
