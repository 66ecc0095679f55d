/- The generators' reader. -/
import Derived.Test.YtoofegkjdjlpkaaGreatDoorPG
set_option linter.unusedVariables false
set_option linter.unusedSimpArgs false
set_option linter.unusedSectionVars false
namespace Go.Proofs.YtoofegkjdjlpkaaGreatDoor.M
open Go Go.Proofs
set_option maxRecDepth 100000
theorem lj_ok {S R : Type} {n : Nat} {A : (S → Option R) → Option R} {B : S → Option R} {z : R} (I : S → Prop) (hA : ∀ J : S → Option R, (∀ s, I s → J s = some z) → A J = some z) (hB : ∀ s, I s → B s = some z) : lj n A B = some z := hA B hB
def bytesOK (c : List Int) : Prop := ∀ b ∈ c, 0 ≤ b ∧ b ≤ 255
def RO (n : Nat) (r : Rd) : Prop := r.bs.length ≤ 2000 ∧ (∀ b ∈ r.bs, 0 ≤ b ∧ b ≤ 255) ∧ 0 ≤ r.at_ ∧ r.at_ + n ≤ 1000000
theorem RO.le {n m : Nat} {r : Rd} (h : RO n r) (hm : m ≤ n) : RO m r := ⟨h.1, h.2.1, h.2.2.1, by have := h.2.2.2; omega⟩
def mixV (r : Rd) : Int := r.bs.getD (Int.tmod r.at_ r.bs.length).toNat 0 * 131 + r.bs.getD (Int.tmod (r.at_ * 7 + 3) r.bs.length).toNat 0 * 1117 + r.at_ * 29 + Int.tdiv r.at_ r.bs.length * 53
def pickI (r : Rd) (n : Int) : Int :=
  if n < 1 then 0 else if r.bs = [] then 0 else if r.at_ < r.bs.length then Int.tmod (r.bs.getD r.at_.toNat 0) n else Int.tmod (xorI (mixV r) (Int.tdiv (mixV r) 64)) n
def pickV (r : Rd) (n : Int) : Int × Rd := (pickI r n, ⟨r.bs, r.at_ + 1⟩)
theorem pickV_1 (r : Rd) (n : Int) : (pickV r n).1 = pickI r n := rfl
theorem RO_pick {n : Nat} {r : Rd} {m : Int} (h : RO (n + 1) r) : RO n (pickV r m).2 := ⟨h.1, h.2.1, by have := h.2.2.1; show 0 ≤ r.at_ + 1; omega, by have := h.2.2.2; show r.at_ + 1 + n ≤ _; omega⟩
theorem getB {l : List Int} (h : ∀ b ∈ l, 0 ≤ b ∧ b ≤ 255) {k : Nat} (hk : k < l.length) : l[k]? = some (l.getD k 0) ∧ 0 ≤ l.getD k 0 ∧ l.getD k 0 ≤ 255 := by
  have := List.getElem?_eq_getElem hk
  rw [List.getD_eq_getElem?_getD, this]
  exact ⟨rfl, h _ (List.getElem_mem hk)⟩
theorem xorI_nn {x y : Int} (hx : 0 ≤ x) (hx' : x < 4611686018427387904) (hy : 0 ≤ y) (hy' : y < 4611686018427387904) : 0 ≤ xorI x y := by
  unfold xorI
  have e : ((BitVec.ofInt IntKind.i64.bits x ^^^ BitVec.ofInt IntKind.i64.bits y).toNat : Int) < 4611686018427387904 := by
    rw [BitVec.toNat_xor]
    have h1 : (BitVec.ofInt IntKind.i64.bits x).toNat < 2 ^ 62 := by
      rw [BitVec.toNat_ofInt]
      have : x % ((2 ^ IntKind.i64.bits : Nat) : Int) = x := Int.emod_eq_of_lt hx (by have : ((2 ^ IntKind.i64.bits : Nat) : Int) = 18446744073709551616 := rfl; omega)
      rw [this]; omega
    have h2 : (BitVec.ofInt IntKind.i64.bits y).toNat < 2 ^ 62 := by
      rw [BitVec.toNat_ofInt]
      have : y % ((2 ^ IntKind.i64.bits : Nat) : Int) = y := Int.emod_eq_of_lt hy (by have : ((2 ^ IntKind.i64.bits : Nat) : Int) = 18446744073709551616 := rfl; omega)
      rw [this]; omega
    have := Nat.xor_lt_two_pow h1 h2
    omega
  rw [wrap_range (show rangeP .i64 _ from ⟨by omega, by omega⟩)]
  omega
theorem modR {x n : Int} (hx : 0 ≤ x) (hn : 0 < n) : 0 ≤ Int.tmod x n ∧ Int.tmod x n < n := ⟨Int.tmod_nonneg _ hx, Int.tmod_lt_of_pos _ hn⟩
theorem mixV_rng {r : Rd} (h : RO 1 r) (h0 : 0 < r.bs.length) : 0 ≤ mixV r ∧ mixV r < 1000000000 := by
  obtain ⟨h1, h2, h3, h4⟩ := h
  unfold mixV
  obtain ⟨m1, m2⟩ := modR (x := r.at_) (n := r.bs.length) h3 (by omega)
  obtain ⟨m3, m4⟩ := modR (x := r.at_ * 7 + 3) (n := r.bs.length) (by omega) (by omega)
  obtain ⟨_, g2, g3⟩ := getB h2 (k := (Int.tmod r.at_ r.bs.length).toNat) (by omega)
  obtain ⟨_, g4, g5⟩ := getB h2 (k := (Int.tmod (r.at_ * 7 + 3) r.bs.length).toNat) (by omega)
  have d1 : 0 ≤ Int.tdiv r.at_ r.bs.length := Int.tdiv_nonneg h3 (by omega)
  have d2 : Int.tdiv r.at_ r.bs.length ≤ r.at_ := Int.tdiv_le_self _ h3
  omega
theorem pickI_rng {r : Rd} {n : Int} (h : RO 1 r) (hn : 1 ≤ n) : 0 ≤ pickI r n ∧ pickI r n < n := by
  unfold pickI
  rw [if_neg (by omega)]
  split
  · omega
  · rename_i h0
    have h0 : 0 < r.bs.length := List.length_pos_iff.2 h0
    split
    · exact modR (getB h.2.1 (by have := h.2.2.1; omega)).2.1 (by omega)
    · obtain ⟨m1, m2⟩ := mixV_rng h h0
      exact modR (xorI_nn m1 (by omega) (Int.tdiv_nonneg m1 (by omega)) (by have := Int.tdiv_le_self 64 m1; omega)) (by omega)
noncomputable def spec_reader_pick.f (a1 : List Int) (a2 : Int) (a3 : Int)  (z_ : Int × Rd) : Option (Int × Rd) := (arr .i64 (a2 + 1) fun v5 => (if a3 < 1 then (some (0, ⟨a1, v5⟩)) else (ln' z_ (a1.length) fun v6 => (if v6 = 0 then (some (0, ⟨a1, v5⟩)) else (arr .i64 (v5 - 1) fun v7 => (ln' z_ (a1.length) fun v8 => (if v7 < v8 then (ixIu8 a1 v7 fun v9 => (arr .i64 (v9) fun v10 => (gd (a3 ≠ 0) (lv (Int.tmod v10 a3) fun v11 => (some (v11, ⟨a1, v5⟩)))))) else (ln' z_ (a1.length) fun v12 => (gd (v12 ≠ 0) (lv (Int.tmod v7 v12) fun v13 => (ixIu8 a1 v13 fun v14 => (arr .i64 (v14) fun v15 => (arr .i64 (v15 * 131) fun v16 => (arr .i64 (v7 * 7) fun v17 => (arr .i64 (v17 + 3) fun v18 => (ln' z_ (a1.length) fun v19 => (gd (v19 ≠ 0) (lv (Int.tmod v18 v19) fun v20 => (ixIu8 a1 v20 fun v21 => (arr .i64 (v21) fun v22 => (arr .i64 (v22 * 1117) fun v23 => (arr .i64 (v16 + v23) fun v24 => (arr .i64 (v7 * 29) fun v25 => (arr .i64 (v24 + v25) fun v26 => (ln' z_ (a1.length) fun v27 => (gd (v27 ≠ 0) (arr .i64 (Int.tdiv v7 v27) fun v28 => (arr .i64 (v28 * 53) fun v29 => (arr .i64 (v26 + v29) fun v30 => (arr .i64 (Int.tdiv v30 64) fun v31 => (lv (xorI v30 v31) fun v32 => (gd (a3 ≠ 0) (lv (Int.tmod v32 a3) fun v33 => (some (v33, ⟨a1, v5⟩)))))))))))))))))))))))))))))))))))
section
variable {G : Glob} (hm : pg.follows .mixedOrders = true) (hz : ∀ T, ∀ c ∈ (ttOf pg T).zero, Bd c) (hG : GF G)
include hm hz hG
theorem spec_reader_pick.w {a1 : List Int} {a2 : Int} {a3 : Int}  {r : Int × Rd} (H : spec_reader_pick.f a1 a2 a3  r = some r) : FnOK pg G 81 [.ptr 0 0 2 0 0, .int .i64 a3] (([⟨0, true, 2, .one [.sl (a1.map eIu8), .int .i64 a2]⟩] : List EObj).map EObj.toObj) (.int .i64 (r.1)) (([⟨0, true, 2, .one [.sl ((r.2.bs).map eIu8), .int .i64 (r.2.at_)]⟩] : List EObj).map EObj.toObj) true := by
  obtain ⟨V, hV⟩ := exV
  have e0_Iu8 : V.rIu8 [] = [] := hV.rIu8 []
  have e1_Iu8 : ∀ x r, V.rIu8 (x :: r) = eIu8 x :: V.rIu8 r := fun x r => by rw [hV.rIu8, hV.rIu8]; rfl
  simp only [← hV.rIu8]
  refine fn_okW (tt0 := tyG [ty3, ty4, ty5, ty32, ty90, ty145]) (fn := Tryz.f81) (body := bodyOf Tryz.f81) (ext := [⟨0, true, 2, .one [.sl (V.rIu8 a1), .int .i64 a2]⟩]) (ext' := [⟨0, true, 2, .one [.sl (V.rIu8 (r.2.bs)), .int .i64 (r.2.at_)]⟩]) hm (tyG_sub ⟨tt3, tt4, tt5, tt32, tt90, tt145, trivial⟩) hz 0 false [] (by unfold pg; exact Tryz.func81) rfl rfl (by simp [Tryz.f81]) (by simp [EObj.toObj]) (by cbv) ?_
  intro A F hA hF
  unfold spec_reader_pick.f at H
  cbv
  repeat' (first
    | (with_reducible refine s_gd H (fun hg H => ?_))
    | (cases H; exact fin_W hF rfl (by simp [expIds, posCells, C.cells, idOf]) (by cbv <;> rfl) (by simp [idsF, cellsV, C.cells, idOf]) ⟨by cbv <;> rfl, rfl, rfl, rfl, rfl, (by intro z hz; simp [ED.rows] at hz; subst hz; rfl), trivial⟩)
    | (with_reducible refine s_lt H (fun H => ?_) (fun H => ?_) <;> cbv)
    | (with_reducible refine s_le H (fun H => ?_) (fun H => ?_) <;> cbv)
    | (with_reducible refine s_eq H (fun H => ?_) (fun H => ?_) <;> cbv)
    | (with_reducible refine s_ne H (fun H => ?_) (fun H => ?_) <;> cbv)
    | (with_reducible refine s_ln H lnOf (fun _ H => ?_); cbv)
    | (with_reducible refine s_ixIu8 hV H (fun _ H => ?_); cbv)
    | (with_reducible refine s_ar H (fun _ H => ?_); cbv)
    | (with_reducible refine s_lv H (fun _ H => ?_); cbv)
    | (with_reducible refine indep_of hA ?_; cbv)
    | ((with_reducible refine side ?_); exact sideOf)
    | (with_reducible refine s_tkG hV.rIu8 hV.nIu8 ?_; cbv)
    | (with_reducible refine s_tk1 ?_; cbv)
    | (with_reducible refine And.intro ?_ ?_)
    | (intro ys hys; subst hys; rfl)
    | rfl
    | (first | exact True.intro | omega | exact clIu8 hV _)
    | (intro h_; cases h_; done)
    | (with_reducible refine s_pl ?_; with_unfolding_all simp [plainV, plainA, plainC, plRIu8 hV])
    | (intro ys hys; subst hys))
end
section
variable {G : Glob} (hm : pg.follows .mixedOrders = true) (hz : ∀ T, ∀ c ∈ (ttOf pg T).zero, Bd c) (hG : GF G)
include hm hz hG
theorem spec_reader_pick.ok {a1 : List Int} {a2 : Int} {a3 : Int} (hp : RO 1 ⟨a1, a2⟩) : FnOK pg G 81 [.ptr 0 0 2 0 0, .int .i64 a3] (([⟨0, true, 2, .one [.sl (a1.map eIu8), .int .i64 a2]⟩] : List EObj).map EObj.toObj) (.int .i64 ((pickV ⟨a1, a2⟩ a3).1)) (([⟨0, true, 2, .one [.sl (((pickV ⟨a1, a2⟩ a3).2.bs).map eIu8), .int .i64 ((pickV ⟨a1, a2⟩ a3).2.at_)]⟩] : List EObj).map EObj.toObj) true := by
  have hmx := mixV_rng hp
  obtain ⟨h1, h2, h3, h4⟩ := hp
  simp only at h1 h2 h3 h4
  refine spec_reader_pick.w hm hz hG ?_
  simp only [spec_reader_pick.f, pickV, pickI]
  rw [arr_ok (by omega)]
  by_cases c1 : a3 < 1
  · rw [if_pos c1, if_pos c1]
  rw [if_neg c1, if_neg c1, ln_at (by omega)]
  by_cases c2 : a1 = []
  · subst c2; rfl
  have hl : 0 < a1.length := List.length_pos_iff.2 c2
  rw [if_neg (by omega), if_neg c2, arr_ok (by omega), ln_at (by omega), show a2 + 1 - 1 = a2 by omega]
  by_cases c3 : a2 < a1.length
  · rw [if_pos c3, if_pos c3]
    obtain ⟨g1, g2, g3⟩ := getB h2 (k := a2.toNat) (by omega)
    rw [ixIu8_ok h3 g1, arr_ok (by omega), gd_ok (by omega)]; rfl
  · rw [if_neg c3, if_neg c3]
    have hmx := hmx hl
    unfold mixV at hmx ⊢
    simp only at hmx ⊢
    obtain ⟨m1, m2⟩ := modR (x := a2) (n := a1.length) h3 (by omega)
    obtain ⟨m3, m4⟩ := modR (x := a2 * 7 + 3) (n := a1.length) (by omega) (by omega)
    obtain ⟨g1, g2, g3⟩ := getB h2 (k := (Int.tmod a2 a1.length).toNat) (by omega)
    obtain ⟨g4, g5, g6⟩ := getB h2 (k := (Int.tmod (a2 * 7 + 3) a1.length).toNat) (by omega)
    have d1 : 0 ≤ Int.tdiv a2 a1.length := Int.tdiv_nonneg h3 (by omega)
    have d2 : Int.tdiv a2 a1.length ≤ a2 := Int.tdiv_le_self _ h3
    simp only [lv]
    have t1 := Int.tdiv_nonneg hmx.1 (by omega : (0 : Int) ≤ 64)
    have t2 := Int.tdiv_le_self 64 hmx.1
    rw [ln_at (by omega), gd_ok (by omega), ixIu8_ok m1 g1, arr_ok (by omega), arr_ok (by omega), arr_ok (by omega), arr_ok (by omega), ln_at (by omega), gd_ok (by omega), ixIu8_ok m3 g4, arr_ok (by omega), arr_ok (by omega), arr_ok (by omega), arr_ok (by omega), arr_ok (by omega), ln_at (by omega), gd_ok (by omega), arr_ok (by omega), arr_ok (by omega), arr_ok (by omega), arr_ok (by omega), gd_ok (by omega)]
end
def newRd (c : List Int) : Rd := ⟨c.take 2000, 0⟩
theorem RO_new {c : List Int} (h : ∀ b ∈ c, 0 ≤ b ∧ b ≤ 255) {n : Nat} (hn : n ≤ 1000000) : RO n (newRd c) := ⟨by simp [newRd]; omega, fun b hb => h b (List.mem_of_mem_take hb), Int.le_refl _, by simp [newRd]; omega⟩
noncomputable def spec_newReader.f (a1 : List Int)  (z_ : Rd) : Option (Rd) := (ln' z_ (a1.length) fun v2 => (if 2000 < v2 then (gd (0 ≤ (2000 : Int) ∧ 2000 ≤ a1.length) (lv (a1.take 2000) fun v3 => (some ⟨v3, 0⟩))) else (some ⟨a1, 0⟩)))
section
variable {G : Glob} (hm : pg.follows .mixedOrders = true) (hz : ∀ T, ∀ c ∈ (ttOf pg T).zero, Bd c) (hG : GF G)
include hm hz hG
theorem spec_newReader.w {a1 : List Int}  {r : Rd} (H : spec_newReader.f a1  r = some r) : FnOK pg G 77 [.sl (a1.map eIu8)] [] (.frp [.sl ((r.bs).map eIu8), .int .i64 (r.at_)]) [] true := by
  obtain ⟨V, hV⟩ := exV
  have e0_Iu8 : V.rIu8 [] = [] := hV.rIu8 []
  have e1_Iu8 : ∀ x r, V.rIu8 (x :: r) = eIu8 x :: V.rIu8 r := fun x r => by rw [hV.rIu8, hV.rIu8]; rfl
  simp only [← hV.rIu8]
  refine fn_ok (tt0 := tyG [ty3, ty4, ty5, ty32, ty90, ty145]) (fn := Tryz.f77) (body := bodyOf Tryz.f77) (ext := []) hm (tyG_sub ⟨tt3, tt4, tt5, tt32, tt90, tt145, trivial⟩) hz 0 true [] (by unfold pg; exact Tryz.func77) rfl rfl (by simp [Tryz.f77]) (by simp [EObj.toObj]) (by cbv) ?_
  intro A F hA hF
  unfold spec_newReader.f at H
  cbv
  repeat' (first
    | (with_reducible refine s_gd H (fun hg H => ?_))
    | (cases H; (try simp only [e0_Iu8, e1_Iu8, eIu8] at hF); with_reducible refine fin_ref hF rfl (by simp [expIds, posCells, C.cells, idOf]) ?_; cbv)
    | (with_reducible refine s_lt H (fun H => ?_) (fun H => ?_) <;> cbv)
    | (with_reducible refine s_le H (fun H => ?_) (fun H => ?_) <;> cbv)
    | (with_reducible refine s_eq H (fun H => ?_) (fun H => ?_) <;> cbv)
    | (with_reducible refine s_ne H (fun H => ?_) (fun H => ?_) <;> cbv)
    | (with_reducible refine s_ln H lnOf (fun _ H => ?_); cbv)
    | (with_reducible refine s_tkL hV.rIu8 H (fun _ H => ?_); cbv)
    | (with_reducible refine s_tdL hV.rIu8 H (fun _ H => ?_); cbv)
    | (with_reducible refine s_tkLn hV.rIu8 (by with_unfolding_all rfl) H (fun _ H => ?_); cbv)
    | (with_reducible refine s_lv H (fun _ H => ?_); cbv)
    | (with_reducible refine s_lvn (by with_unfolding_all rfl) H (fun _ H => ?_); cbv)
    | (with_reducible refine indep_of hA ?_; cbv)
    | ((with_reducible refine side ?_); exact sideOf)
    | (with_reducible refine s_tkG hV.rIu8 hV.nIu8 ?_; cbv)
    | (with_reducible refine s_tkP hV.rIu8 ?_; cbv)
    | (with_reducible refine s_drP hV.rIu8 hV.nIu8 ?_; cbv)
    | (with_reducible refine s_eqn ?_; cbv)
    | (with_reducible refine s_eqn2 ?_; cbv)
    | (with_reducible refine s_tk1 ?_; cbv)
    | (with_reducible refine And.intro ?_ ?_)
    | (intro ys hys; subst hys; rfl)
    | rfl
    | (intro h_; cases h_; done)
    | (with_reducible refine s_pl ?_; with_unfolding_all simp [plainV, plainA, plainC, plRIu8 hV])
    | (intro ys hys; subst hys))
end
section
variable {G : Glob} (hm : pg.follows .mixedOrders = true) (hz : ∀ T, ∀ c ∈ (ttOf pg T).zero, Bd c) (hG : GF G)
include hm hz hG
theorem spec_newReader.ok {a1 : List Int}  : FnOK pg G 77 [.sl (a1.map eIu8)] [] (.frp [.sl (((newRd a1).bs).map eIu8), .int .i64 ((newRd a1).at_)]) [] true := by
  refine spec_newReader.w hm hz hG ?_
  simp only [spec_newReader.f, newRd, lv]
  refine ln_ok fun hB => ite_ok (fun h => ?_) (fun h => ?_)
  · rw [gd_ok (by omega)]
  · rw [List.take_of_length_le (by omega)]
end
def rOf (r : Rd) (l : List Str) : Str × Rd := (l.getD (pickI r l.length).toNat [], (pickV r l.length).2)
def on_I_Rd {R : Type} (v : Int × Rd) (f : Int → (List Int) → Int → Option R) : Option R := f (v.1) (v.2.bs) (v.2.at_)
section
variable {A : Bx} {P : Program} {G : Glob} {own : Nat} {o : Nat → EObj} {g : FuncId} {K : C → List (Nat × EObj) → Prop} {R : Type} {r : R} {V : Vx} {v : Int × Rd} {f : Int → (List Int) → Int → Option R}
variable {U : List C → List EObj → (C → List (Nat × EObj) → Prop) → Prop} {bs : List C} {ext : List EObj} {ids tops : List Nat}
theorem s_vI_Rd_1 (hV : IsV V) (hU : U = callW P G own o g ids tops) (H : on_I_Rd v f = some r) (hok : FnOK P G g bs (ext.map EObj.toObj) (.int .i64 (v.1)) (([⟨0, true, 2, .one [.sl ((v.2.bs).map eIu8), .int .i64 (v.2.at_)]⟩] : List EObj).map EObj.toObj) true) (ht : topsF o ids tops) (h : ∀ c0 c1 c2, f c0 c1 c2 = some r → K (.int .i64 c0) (putBackE o ids (([⟨0, true, 2, .one [.sl (V.rIu8 c1), .int .i64 c2]⟩] : List EObj).map EObj.toObj) ++ freezeE o tops ++ [])) : U bs ext K := by
  rw [hU]
  refine ⟨_, _, hok, fun x hx r hr => ?_, topsF_sound ht, ?_⟩
  · simp only [List.mem_singleton] at hx; subst hx; simp [ED.rows] at hr; subst hr; rfl
  · have := h (v.1) (v.2.bs) (v.2.at_) H
    simp only [hV.rIu8] at this
    exact this
end
noncomputable def spec_reader_of.f (a1 : List Int) (a2 : Int) (a3 : List Str)  (z_ : Str × Rd) : Option (Str × Rd) := (ln' z_ (a3.length) fun v4 => (gd (RO 1 ⟨a1, a2⟩) (on_I_Rd (pickV (⟨a1, a2⟩) v4) fun v5 v6 v7 => (ixS a3 v5 fun v8 => (some (v8, ⟨v6, v7⟩))))))
section
variable {G : Glob} (hm : pg.follows .mixedOrders = true) (hz : ∀ T, ∀ c ∈ (ttOf pg T).zero, Bd c) (hG : GF G)
include hm hz hG
theorem spec_reader_of.w {a1 : List Int} {a2 : Int} {a3 : List Str}  {r : Str × Rd} (H : spec_reader_of.f a1 a2 a3  r = some r) : FnOK pg G 110 [.ptr 0 0 2 0 0, .sl (a3.map eS)] (([⟨0, true, 2, .one [.sl (a1.map eIu8), .int .i64 a2]⟩] : List EObj).map EObj.toObj) (.str ⟨⟨(r.1)⟩⟩) (([⟨0, true, 2, .one [.sl ((r.2.bs).map eIu8), .int .i64 (r.2.at_)]⟩] : List EObj).map EObj.toObj) true := by
  obtain ⟨V, hV⟩ := exV
  have e0_S : V.rS [] = [] := hV.rS []
  have e1_S : ∀ x r, V.rS (x :: r) = eS x :: V.rS r := fun x r => by rw [hV.rS, hV.rS]; rfl
  have e0_Iu8 : V.rIu8 [] = [] := hV.rIu8 []
  have e1_Iu8 : ∀ x r, V.rIu8 (x :: r) = eIu8 x :: V.rIu8 r := fun x r => by rw [hV.rIu8, hV.rIu8]; rfl
  simp only [← hV.rS, ← hV.rIu8]
  refine fn_okW (tt0 := tyG [ty3, ty9, ty71, ty90]) (fn := Tryz.f110) (body := bodyOf Tryz.f110) (ext := [⟨0, true, 2, .one [.sl (V.rIu8 a1), .int .i64 a2]⟩]) (ext' := [⟨0, true, 2, .one [.sl (V.rIu8 (r.2.bs)), .int .i64 (r.2.at_)]⟩]) hm (tyG_sub ⟨tt3, tt9, tt71, tt90, trivial⟩) hz 0 false [] (by unfold pg; exact Tryz.func110) rfl rfl (by simp [Tryz.f110]) (by simp [EObj.toObj]) (by cbv) ?_
  intro A F hA hF
  unfold spec_reader_of.f at H
  cbv
  repeat' (first
    | (with_reducible refine s_gd H (fun hg H => ?_))
    | (cases H; exact fin_W hF rfl (by simp [expIds, posCells, C.cells, idOf]) (by cbv <;> rfl) (by simp [idsF, cellsV, C.cells, idOf]) ⟨by cbv <;> rfl, rfl, rfl, rfl, rfl, (by intro z hz; simp [ED.rows] at hz; subst hz; rfl), trivial⟩)
    | (with_reducible refine s_ln H lnOf (fun _ H => ?_); cbv)
    | (with_reducible refine s_ixS hV H (fun _ H => ?_); cbv)
    | (with_reducible refine s_lv H (fun _ H => ?_); cbv)
    | (with_reducible refine s_vI_Rd_1 hV (by assumption) H (by (try simp only [hV.rS, hV.rIu8]); (first | (have hk_ := spec_reader_pick.ok hm hz hG hg; with_unfolding_all exact hk_) | (with_unfolding_all exact spec_reader_pick.ok hm hz hG (by first | assumption | omega)))) (by first | (cbv <;> (repeat' (first | trivial | refine And.intro ?_ ?_)) <;> (first | rfl | exact clS hV _ | with_unfolding_all exact clIu8 hV _ | simp [closedCell])) | fail) (fun _ _ _ H => ?_); cbv)
    | (with_reducible refine callT_wp hA rfl (fun U hU => ?_); cbv)
    | (with_reducible refine indep_of hA ?_; cbv)
    | ((with_reducible refine side ?_); exact sideOf)
    | (with_reducible refine s_tkG hV.rS hV.nS ?_; cbv)
    | (with_reducible refine s_tkG hV.rIu8 hV.nIu8 ?_; cbv)
    | (with_reducible refine s_tk1 ?_; cbv)
    | (with_reducible refine And.intro ?_ ?_)
    | (intro ys hys; subst hys; rfl)
    | rfl
    | (first | exact True.intro | omega | exact clS hV _ | exact clIu8 hV _)
    | (intro h_; cases h_; done)
    | (with_reducible refine s_pl ?_; with_unfolding_all simp [plainV, plainA, plainC, plRS hV, plRIu8 hV])
    | (intro ys hys; subst hys))
end
section
variable {G : Glob} (hm : pg.follows .mixedOrders = true) (hz : ∀ T, ∀ c ∈ (ttOf pg T).zero, Bd c) (hG : GF G)
include hm hz hG
theorem spec_reader_of.ok {a1 : List Int} {a2 : Int} {a3 : List Str} (hp : RO 1 ⟨a1, a2⟩ ∧ 1 ≤ a3.length ∧ a3.length ≤ 1000) : FnOK pg G 110 [.ptr 0 0 2 0 0, .sl (a3.map eS)] (([⟨0, true, 2, .one [.sl (a1.map eIu8), .int .i64 a2]⟩] : List EObj).map EObj.toObj) (.str ⟨⟨((rOf ⟨a1, a2⟩ a3).1)⟩⟩) (([⟨0, true, 2, .one [.sl (((rOf ⟨a1, a2⟩ a3).2.bs).map eIu8), .int .i64 ((rOf ⟨a1, a2⟩ a3).2.at_)]⟩] : List EObj).map EObj.toObj) true := by
  obtain ⟨hp, h1, h2⟩ := hp
  refine spec_reader_of.w hm hz hG ?_
  obtain ⟨p1, p2⟩ := pickI_rng hp (n := a3.length) (by omega)
  have hk : (pickI ⟨a1, a2⟩ a3.length).toNat < a3.length := by omega
  simp only [spec_reader_of.f, on_I_Rd, rOf, pickV]
  rw [ln_at (by omega), gd_ok hp, ixS_ok p1 (List.getElem?_eq_getElem hk), List.getD_eq_getElem?_getD, List.getElem?_eq_getElem hk]; rfl
end
def rOne (r : Rd) (l : List Int) : Int × Rd := (l.getD (pickI r l.length).toNat 0, (pickV r l.length).2)
noncomputable def spec_reader_one.f (a1 : List Int) (a2 : Int) (a3 : List Int)  (z_ : Int × Rd) : Option (Int × Rd) := (ln' z_ (a3.length) fun v4 => (gd (RO 1 ⟨a1, a2⟩) (on_I_Rd (pickV (⟨a1, a2⟩) v4) fun v5 v6 v7 => (ixI a3 v5 fun v8 => (some (v8, ⟨v6, v7⟩))))))
section
variable {G : Glob} (hm : pg.follows .mixedOrders = true) (hz : ∀ T, ∀ c ∈ (ttOf pg T).zero, Bd c) (hG : GF G)
include hm hz hG
theorem spec_reader_one.w {a1 : List Int} {a2 : Int} {a3 : List Int}  {r : Int × Rd} (H : spec_reader_one.f a1 a2 a3  r = some r) : FnOK pg G 143 [.ptr 0 0 2 0 0, .sl (a3.map eI)] (([⟨0, true, 2, .one [.sl (a1.map eIu8), .int .i64 a2]⟩] : List EObj).map EObj.toObj) (.int .i64 (r.1)) (([⟨0, true, 2, .one [.sl ((r.2.bs).map eIu8), .int .i64 (r.2.at_)]⟩] : List EObj).map EObj.toObj) true := by
  obtain ⟨V, hV⟩ := exV
  have e0_I : V.rI [] = [] := hV.rI []
  have e1_I : ∀ x r, V.rI (x :: r) = eI x :: V.rI r := fun x r => by rw [hV.rI, hV.rI]; rfl
  have e0_Iu8 : V.rIu8 [] = [] := hV.rIu8 []
  have e1_Iu8 : ∀ x r, V.rIu8 (x :: r) = eIu8 x :: V.rIu8 r := fun x r => by rw [hV.rIu8, hV.rIu8]; rfl
  simp only [← hV.rI, ← hV.rIu8]
  refine fn_okW (tt0 := tyG [ty3, ty36, ty90]) (fn := Tryz.f143) (body := bodyOf Tryz.f143) (ext := [⟨0, true, 2, .one [.sl (V.rIu8 a1), .int .i64 a2]⟩]) (ext' := [⟨0, true, 2, .one [.sl (V.rIu8 (r.2.bs)), .int .i64 (r.2.at_)]⟩]) hm (tyG_sub ⟨tt3, tt36, tt90, trivial⟩) hz 0 false [] (by unfold pg; exact Tryz.func143) rfl rfl (by simp [Tryz.f143]) (by simp [EObj.toObj]) (by cbv) ?_
  intro A F hA hF
  unfold spec_reader_one.f at H
  cbv
  repeat' (first
    | (with_reducible refine s_gd H (fun hg H => ?_))
    | (cases H; exact fin_W hF rfl (by simp [expIds, posCells, C.cells, idOf]) (by cbv <;> rfl) (by simp [idsF, cellsV, C.cells, idOf]) ⟨by cbv <;> rfl, rfl, rfl, rfl, rfl, (by intro z hz; simp [ED.rows] at hz; subst hz; rfl), trivial⟩)
    | (with_reducible refine s_ln H lnOf (fun _ H => ?_); cbv)
    | (with_reducible refine s_ixI hV H (fun _ H => ?_); cbv)
    | (with_reducible refine s_lv H (fun _ H => ?_); cbv)
    | (with_reducible refine s_vI_Rd_1 hV (by assumption) H (by (try simp only [hV.rI, hV.rIu8]); (first | (have hk_ := spec_reader_pick.ok hm hz hG hg; with_unfolding_all exact hk_) | (with_unfolding_all exact spec_reader_pick.ok hm hz hG (by first | assumption | omega)))) (by first | (cbv <;> (repeat' (first | trivial | refine And.intro ?_ ?_)) <;> (first | rfl | exact clI hV _ | with_unfolding_all exact clIu8 hV _ | simp [closedCell])) | fail) (fun _ _ _ H => ?_); cbv)
    | (with_reducible refine callT_wp hA rfl (fun U hU => ?_); cbv)
    | (with_reducible refine indep_of hA ?_; cbv)
    | ((with_reducible refine side ?_); exact sideOf)
    | (with_reducible refine s_tkG hV.rI hV.nI ?_; cbv)
    | (with_reducible refine s_tkG hV.rIu8 hV.nIu8 ?_; cbv)
    | (with_reducible refine s_tk1 ?_; cbv)
    | (with_reducible refine And.intro ?_ ?_)
    | (intro ys hys; subst hys; rfl)
    | rfl
    | (first | exact True.intro | omega | exact clI hV _ | exact clIu8 hV _)
    | (intro h_; cases h_; done)
    | (with_reducible refine s_pl ?_; with_unfolding_all simp [plainV, plainA, plainC, plRI hV, plRIu8 hV])
    | (intro ys hys; subst hys))
end
section
variable {G : Glob} (hm : pg.follows .mixedOrders = true) (hz : ∀ T, ∀ c ∈ (ttOf pg T).zero, Bd c) (hG : GF G)
include hm hz hG
theorem spec_reader_one.ok {a1 : List Int} {a2 : Int} {a3 : List Int} (hp : RO 1 ⟨a1, a2⟩ ∧ 1 ≤ a3.length ∧ a3.length ≤ 1000) : FnOK pg G 143 [.ptr 0 0 2 0 0, .sl (a3.map eI)] (([⟨0, true, 2, .one [.sl (a1.map eIu8), .int .i64 a2]⟩] : List EObj).map EObj.toObj) (.int .i64 ((rOne ⟨a1, a2⟩ a3).1)) (([⟨0, true, 2, .one [.sl (((rOne ⟨a1, a2⟩ a3).2.bs).map eIu8), .int .i64 ((rOne ⟨a1, a2⟩ a3).2.at_)]⟩] : List EObj).map EObj.toObj) true := by
  obtain ⟨hp, h1, h2⟩ := hp
  refine spec_reader_one.w hm hz hG ?_
  obtain ⟨p1, p2⟩ := pickI_rng hp (n := a3.length) (by omega)
  have hk : (pickI ⟨a1, a2⟩ a3.length).toNat < a3.length := by omega
  simp only [spec_reader_one.f, on_I_Rd, rOne, pickV]
  rw [ln_at (by omega), gd_ok hp, ixI_ok p1 (List.getElem?_eq_getElem hk), List.getD_eq_getElem?_getD, List.getElem?_eq_getElem hk]; rfl
end
theorem RO_of {n : Nat} {r : Rd} {l : List Str} (h : RO (n + 1) r) : RO n (rOf r l).2 := RO_pick (m := l.length) h
theorem RO_one {n : Nat} {r : Rd} {l : List Int} (h : RO (n + 1) r) : RO n (rOne r l).2 := RO_pick (m := l.length) h
theorem rOne_mem {r : Rd} {l : List Int} (h : RO 1 r) (hl : 1 ≤ l.length) : (rOne r l).1 ∈ l := by
  obtain ⟨p1, p2⟩ := pickI_rng h (n := l.length) (by omega)
  have hk : (pickI r l.length).toNat < l.length := by omega
  simp only [rOne, List.getD_eq_getElem?_getD, List.getElem?_eq_getElem hk]
  exact List.getElem_mem hk
theorem rOf_mem {r : Rd} {l : List Str} (h : RO 1 r) (hl : 1 ≤ l.length) : (rOf r l).1 ∈ l := by
  obtain ⟨p1, p2⟩ := pickI_rng h (n := l.length) (by omega)
  have hk : (pickI r l.length).toNat < l.length := by omega
  simp only [rOf, List.getD_eq_getElem?_getD, List.getElem?_eq_getElem hk]
  exact List.getElem_mem hk
end Go.Proofs.YtoofegkjdjlpkaaGreatDoor.M
