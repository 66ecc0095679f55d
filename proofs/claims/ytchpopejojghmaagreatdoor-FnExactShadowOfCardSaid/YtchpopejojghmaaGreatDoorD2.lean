/- The data; words for printed functions; the steps of a walk. Printed by gend.py. -/
import Derived.Test.YtchpopejojghmaaGreatDoorTT
import Derived.Test.YtchpopejojghmaaGreatDoorE13
set_option linter.unusedVariables false
set_option linter.unusedSimpArgs false
set_option linter.unusedSectionVars false
namespace Go.Proofs.YtchpopejojghmaaGreatDoor.M
open Go Go.Proofs
abbrev Str := List UInt8
structure Pair where
 name : Str
 value : Int
 deriving DecidableEq
structure Arg where
 kind : Int
 name : Str
 list : List Int
 pairs : List Pair
 deriving DecidableEq
structure Param where
 name : Str
 kind : Int
 hasDefault : Bool
 dflt : Int
 deriving DecidableEq
structure Flat where
 places : List Int
 names : List Pair
 deriving DecidableEq
structure Cal where
 args : List Arg
 deriving DecidableEq
structure Sig where
 params : List Param
 deriving DecidableEq
structure Prob where
 kind : Int
 name : Str
 deriving DecidableEq
structure Slot where
 given : Bool
 list : List Int
 pairs : List Pair
 deriving DecidableEq
structure Bind where
 slots : List Slot
 deriving DecidableEq
structure Part where
 sig : Sig
 flat : Flat
 deriving DecidableEq
structure Place where
 hole : Bool
 value : Int
 deriving DecidableEq
structure Holes where
 places : List Place
 names : List Pair
 deriving DecidableEq
structure Shape where
 count : Int
 names : List Str
 deriving DecidableEq
structure Turn where
 src : Str
 dst : Str
 deriving DecidableEq
structure Fnc where
 name : Str
 sig : Sig
 deriving DecidableEq
structure Txs where
 list : List Str
 deriving DecidableEq
structure Prs where
 list : List Param
 deriving DecidableEq
structure Rd where
 bs : List Int
 at_ : Int
 deriving DecidableEq
theorem eta_Pair (x : Pair) : (⟨x.name, x.value⟩ : Pair) = x := rfl
theorem eta_Param (x : Param) : (⟨x.name, x.kind, x.hasDefault, x.dflt⟩ : Param) = x := rfl
theorem eta_Sig (x : Sig) : (⟨x.params⟩ : Sig) = x := rfl
def eI (x : Int) : List C := [.int .i64 x]
def eS (x : Str) : List C := [.str ⟨⟨x⟩⟩]
def eB (x : Bool) : List C := [.bool x]
def eIu8 (x : Int) : List C := [.int .u8 x]
def ePair (x : Pair) : List C := [.str ⟨⟨x.name⟩⟩, .int .i64 x.value]
def eArg (x : Arg) : List C := [.int .i64 x.kind, .str ⟨⟨x.name⟩⟩, .sl (x.list.map eI), .sl (x.pairs.map ePair)]
def eParam (x : Param) : List C := [.str ⟨⟨x.name⟩⟩, .int .i64 x.kind, .bool x.hasDefault, .int .i64 x.dflt]
def eSig (x : Sig) : List C := [.sl (x.params.map eParam)]
def eProb (x : Prob) : List C := [.int .i64 x.kind, .str ⟨⟨x.name⟩⟩]
def eSlot (x : Slot) : List C := [.bool x.given, .sl (x.list.map eI), .sl (x.pairs.map ePair)]
def ePlace (x : Place) : List C := [.bool x.hole, .int .i64 x.value]
def eTurn (x : Turn) : List C := [.str ⟨⟨x.src⟩⟩, .str ⟨⟨x.dst⟩⟩]
def eFnc (x : Fnc) : List C := [.str ⟨⟨x.name⟩⟩, .sl (x.sig.params.map eParam)]
def eTxs (x : Txs) : List C := [.sl (x.list.map eS)]
def ePrs (x : Prs) : List C := [.sl (x.list.map eParam)]
structure Vx where
 rI : List Int → List (List C)
 nI : List Int → Nat
 rS : List Str → List (List C)
 nS : List Str → Nat
 rB : List Bool → List (List C)
 nB : List Bool → Nat
 rIu8 : List Int → List (List C)
 nIu8 : List Int → Nat
 rPair : List Pair → List (List C)
 nPair : List Pair → Nat
 rArg : List Arg → List (List C)
 nArg : List Arg → Nat
 rParam : List Param → List (List C)
 nParam : List Param → Nat
 rSig : List Sig → List (List C)
 nSig : List Sig → Nat
 rProb : List Prob → List (List C)
 nProb : List Prob → Nat
 rSlot : List Slot → List (List C)
 nSlot : List Slot → Nat
 rPlace : List Place → List (List C)
 nPlace : List Place → Nat
 rTurn : List Turn → List (List C)
 nTurn : List Turn → Nat
 rFnc : List Fnc → List (List C)
 nFnc : List Fnc → Nat
 rTxs : List Txs → List (List C)
 nTxs : List Txs → Nat
 rPrs : List Prs → List (List C)
 nPrs : List Prs → Nat
structure IsV (V : Vx) : Prop where
 rI : ∀ l, V.rI l = l.map eI
 nI : ∀ l, V.nI l = l.length
 rS : ∀ l, V.rS l = l.map eS
 nS : ∀ l, V.nS l = l.length
 rB : ∀ l, V.rB l = l.map eB
 nB : ∀ l, V.nB l = l.length
 rIu8 : ∀ l, V.rIu8 l = l.map eIu8
 nIu8 : ∀ l, V.nIu8 l = l.length
 rPair : ∀ l, V.rPair l = l.map ePair
 nPair : ∀ l, V.nPair l = l.length
 rArg : ∀ l, V.rArg l = l.map eArg
 nArg : ∀ l, V.nArg l = l.length
 rParam : ∀ l, V.rParam l = l.map eParam
 nParam : ∀ l, V.nParam l = l.length
 rSig : ∀ l, V.rSig l = l.map eSig
 nSig : ∀ l, V.nSig l = l.length
 rProb : ∀ l, V.rProb l = l.map eProb
 nProb : ∀ l, V.nProb l = l.length
 rSlot : ∀ l, V.rSlot l = l.map eSlot
 nSlot : ∀ l, V.nSlot l = l.length
 rPlace : ∀ l, V.rPlace l = l.map ePlace
 nPlace : ∀ l, V.nPlace l = l.length
 rTurn : ∀ l, V.rTurn l = l.map eTurn
 nTurn : ∀ l, V.nTurn l = l.length
 rFnc : ∀ l, V.rFnc l = l.map eFnc
 nFnc : ∀ l, V.nFnc l = l.length
 rTxs : ∀ l, V.rTxs l = l.map eTxs
 nTxs : ∀ l, V.nTxs l = l.length
 rPrs : ∀ l, V.rPrs l = l.map ePrs
 nPrs : ∀ l, V.nPrs l = l.length
theorem exV : ∃ V, IsV V := ⟨⟨fun l => l.map eI, fun l => l.length, fun l => l.map eS, fun l => l.length, fun l => l.map eB, fun l => l.length, fun l => l.map eIu8, fun l => l.length, fun l => l.map ePair, fun l => l.length, fun l => l.map eArg, fun l => l.length, fun l => l.map eParam, fun l => l.length, fun l => l.map eSig, fun l => l.length, fun l => l.map eProb, fun l => l.length, fun l => l.map eSlot, fun l => l.length, fun l => l.map ePlace, fun l => l.length, fun l => l.map eTurn, fun l => l.length, fun l => l.map eFnc, fun l => l.length, fun l => l.map eTxs, fun l => l.length, fun l => l.map ePrs, fun l => l.length⟩, ⟨fun _ => rfl, fun _ => rfl, fun _ => rfl, fun _ => rfl, fun _ => rfl, fun _ => rfl, fun _ => rfl, fun _ => rfl, fun _ => rfl, fun _ => rfl, fun _ => rfl, fun _ => rfl, fun _ => rfl, fun _ => rfl, fun _ => rfl, fun _ => rfl, fun _ => rfl, fun _ => rfl, fun _ => rfl, fun _ => rfl, fun _ => rfl, fun _ => rfl, fun _ => rfl, fun _ => rfl, fun _ => rfl, fun _ => rfl, fun _ => rfl, fun _ => rfl, fun _ => rfl, fun _ => rfl⟩⟩
section
variable {R α : Type}
noncomputable def gd (p : Prop) (x : Option R) : Option R := @ite _ p (Classical.propDecidable p) x none
def lv (v : α) (f : α → Option R) : Option R := f v
def cn (b : Bool) (x y : Option R) : Option R := match b with | true => x | false => y
noncomputable def nq (l : List α) (A B : Option R) : Option R := @ite _ (l = [] → A = B) (Classical.propDecidable _) B none
noncomputable def arr (k : IntKind) (t : Int) (f : Int → Option R) : Option R := gd (rangeP k t) (f t)
noncomputable def ln' (z : R) (m : Nat) (f : Int → Option R) : Option R := @ite _ (m ≤ 9223372036854775807) (Classical.propDecidable _) (f m) (some z)
noncomputable def ia (m : Nat) (n : Int) (f : Nat → Option R) : Option R := gd (0 ≤ n ∧ n.toNat < m) (f n.toNat)
noncomputable def bt (s : Str) (n : Int) (f : Int → Option R) : Option R := gd (0 ≤ n ∧ n.toNat < s.length) (f (s.getD n.toNat 0).toNat)
def lj {S : Type} (n : Nat) (A : (S → Option R) → Option R) (B : S → Option R) : Option R := A B
noncomputable def EI {S : Type} (inv : S → Prop) (mu : S → Nat) (res : S → R) (s : S) : Option R := gd (inv s) (some (res s))
noncomputable def LI {S : Type} (inv : S → Prop) (mu : S → Nat) (res : S → R) (m : Nat) (s : S) : Option R := gd (inv s ∧ mu s < m) (some (res s))
theorem nq_ok {l : List α} {A B : Option R} (h : l = [] → A = B) : nq l A B = B := if_pos h
theorem cn_ite {b : Bool} {x y : Option R} : cn b x y = if b = true then x else y := by cases b <;> rfl
theorem cn_t {x y : Option R} : cn true x y = x := rfl
theorem cn_f {x y : Option R} : cn false x y = y := rfl
theorem cn_tf {b : Bool} : cn b (some true) (some false) = some b := by cases b <;> rfl
theorem cn_ft {b : Bool} : cn b (some false) (some true) = some (!b) := by cases b <;> rfl
theorem cn_xx {b : Bool} {x : Option R} : cn b x x = x := by cases b <;> rfl
theorem gd_ok {p : Prop} {x : Option R} (h : p) : gd p x = x := if_pos h
theorem gd_eq {p : Prop} {x : Option R} {r : R} (H : gd p x = some r) : p ∧ x = some r := by
 unfold gd at H
 by_cases h : p
 ·rw [if_pos h] at H; exact ⟨h, H⟩
 ·rw [if_neg h] at H; cases H
theorem ln_ok {z : R} {m : Nat} {f : Int → Option R} (h : m ≤ 9223372036854775807 → f m = some z) : ln' z m f = some z := by
 unfold ln'
 by_cases hm : m ≤ 9223372036854775807
 ·rw [if_pos hm]; exact h hm
 ·rw [if_neg hm]
theorem ln_at {z : R} {m : Nat} {f : Int → Option R} (h : m ≤ 9223372036854775807) : ln' z m f = f m := if_pos h
theorem ite_ok {α : Type} {c : Prop} [Decidable c] {A B z : α} (h1 : c → A = z) (h0 : ¬c → B = z) : (if c then A else B) = z := by
 by_cases h : c
 ·rw [if_pos h]; exact h1 h
 ·rw [if_neg h]; exact h0 h
theorem arr_ok {t : Int} {f : Int → Option R} (h : -9223372036854775808 ≤ t ∧ t ≤ 9223372036854775807) : arr .i64 t f = f t := gd_ok h
theorem arr_ok8 {t : Int} {f : Int → Option R} (h : 0 ≤ t ∧ t ≤ 255) : arr .u8 t f = f t := gd_ok h
theorem arr_ok32 {t : Int} {f : Int → Option R} (h : -2147483648 ≤ t ∧ t ≤ 2147483647) : arr .i32 t f = f t := gd_ok h
theorem arr_oku {t : Int} {f : Int → Option R} (h : 0 ≤ t ∧ t ≤ 18446744073709551615) : arr .u64 t f = f t := gd_ok h
theorem ia_ok {m : Nat} {n : Int} {f : Nat → Option R} (h : 0 ≤ n ∧ n.toNat < m) : ia m n f = f n.toNat := gd_ok h
theorem bt_ok {s : Str} {n : Int} {f : Int → Option R} (h : 0 ≤ n ∧ n.toNat < s.length) : bt s n f = f (s.getD n.toNat 0).toNat := gd_ok h
theorem EI_ok {S : Type} {inv : S → Prop} {mu : S → Nat} {res : S → R} {s : S} (h : inv s) : EI inv mu res s = some (res s) := gd_ok h
theorem LI_ok {S : Type} {inv : S → Prop} {mu : S → Nat} {res : S → R} {m : Nat} {s : S} (h : inv s ∧ mu s < m) : LI inv mu res m s = some (res s) := gd_ok h
theorem EI_eq {S : Type} {inv : S → Prop} {mu : S → Nat} {res : S → R} {s : S} {r : R} (H : EI inv mu res s = some r) : inv s ∧ res s = r := by
 obtain ⟨h, H⟩ := gd_eq H; exact ⟨h, Option.some.inj H⟩
theorem LI_eq {S : Type} {inv : S → Prop} {mu : S → Nat} {res : S → R} {m : Nat} {s : S} {r : R} (H : LI inv mu res m s = some r) : inv s ∧ mu s < m ∧ res s = r := by
 obtain ⟨⟨h, h2⟩, H⟩ := gd_eq H; exact ⟨h, h2, Option.some.inj H⟩
/- Steps. -/
variable {r : R} {P Q G : Prop} {A B : Option R}
theorem s_lt {x y : Int} (H : (if x < y then A else B) = some r) (h1 : A = some r → P) (h0 : B = some r → Q) : (x < y → P) ∧ (y ≤ x → Q) :=
 ⟨fun h => h1 (by rwa [if_pos h] at H), fun h => h0 (by rwa [if_neg (by omega)] at H)⟩
theorem s_le {x y : Int} (H : (if x ≤ y then A else B) = some r) (h1 : A = some r → P) (h0 : B = some r → Q) : (x ≤ y → P) ∧ (y < x → Q) :=
 ⟨fun h => h1 (by rwa [if_pos h] at H), fun h => h0 (by rwa [if_neg (by omega)] at H)⟩
theorem s_eq {α : Type} [DecidableEq α] {x y : α} (H : (if x = y then A else B) = some r) (h1 : A = some r → P) (h0 : B = some r → Q) : (x = y → P) ∧ (x ≠ y → Q) :=
 ⟨fun h => h1 (by rwa [if_pos h] at H), fun h => h0 (by rwa [if_neg h] at H)⟩
theorem s_ne {α : Type} [DecidableEq α] {x y : α} (H : (if x = y then A else B) = some r) (h1 : A = some r → P) (h0 : B = some r → Q) : (x ≠ y → Q) ∧ (x = y → P) :=
 ⟨fun h => h0 (by rwa [if_neg h] at H), fun h => h1 (by rwa [if_pos h] at H)⟩
theorem s_bl {x y : List UInt8} (H : (if Op.bytesLess x y = true then A else B) = some r) (h1 : A = some r → P) (h0 : B = some r → Q) : (Op.bytesLess x y = true → P) ∧ (Op.bytesLess x y = false → Q) :=
 ⟨fun h => h1 (by rwa [if_pos h] at H), fun h => h0 (by rwa [if_neg (by simp [h])] at H)⟩
theorem s_ble {x y : List UInt8} (H : (if Op.bytesLess x y = true ∨ x = y then A else B) = some r) (h1 : A = some r → P) (h0 : B = some r → Q) : ((Op.bytesLess x y = true ∨ x = y) → P) ∧ (Op.bytesLess x y = false → x ≠ y → Q) :=
 ⟨fun h => h1 (by rwa [if_pos h] at H), fun h h' => h0 (by rwa [if_neg (by simp [h, h'])] at H)⟩
theorem s_cn {b : Bool} (H : cn b A B = some r) (h1 : b = true → A = some r → G) (h0 : b = false → B = some r → G) : G := by
 cases b
 ·exact h0 rfl H
 ·exact h1 rfl H
theorem s_nqG {e : α → List C} {v : List α → List (List C)} (hr : ∀ l, v l = l.map e) {l : List α} (H : nq l A B = some r) (h1 : A = some r → P) (h0 : B = some r → Q) : (v l = [] → P) ∧ Q := by
 unfold nq at H
 by_cases h : l = [] → A = B
 ·rw [if_pos h] at H
  refine ⟨fun hv => h1 ?_, h0 H⟩
  rw [hr, List.map_eq_nil_iff] at hv
  rw [h hv]; exact H
 ·rw [if_neg h] at H; cases H
theorem s_gd (H : gd P A = some r) (h : P → A = some r → G) : G := by obtain ⟨h1, h2⟩ := gd_eq H; exact h h1 h2
theorem s_ar {k : IntKind} {t : Int} {f : Int → Option R} {K : Int → Prop} (H : arr k t f = some r) (h : ∀ z, f z = some r → K z) : ∀ z, (rangeP k t → z = t) → K z := by
 obtain ⟨h1, h2⟩ := gd_eq H
 intro z hz
 have := hz h1
 subst this
 exact h _ h2
theorem s_lv {v : α} {f : α → Option R} {K : α → Prop} (H : lv v f = some r) (h : ∀ z, f z = some r → K z) : ∀ z, z = v → K z := fun z hz => h z (by subst hz; exact H)
theorem s_lvn {v w : α} {f : α → Option R} {K : α → Prop} (hw : w = v) (H : lv v f = some r) (h : ∀ z, f z = some r → K z) : ∀ z, z = w → K z := by subst hw; exact s_lv H h
theorem s_ln {z : R} {t m : Nat} {f : Int → Option R} {K : Int → Prop} (H : ln' z m f = some r) (e : t = m) (h : ∀ n, f n = some r → K n) : ∀ n, 0 ≤ n → n.toNat = t → (true = true → n ≤ 9223372036854775807) → K n := by
 intro n h0 hn hb
 have hb := hb rfl
 subst e
 refine h n ?_
 rw [ln_at (by omega)] at H
 have : n = (t : Int) := by omega
 subst this
 exact H
theorem s_ia {t m : Nat} {n : Int} {f : Nat → Option R} {K : Nat → Prop} (H : ia m n f = some r) (e : t = m) (h : ∀ j, f j = some r → K j) : (Side → 0 ≤ n ∧ n.toNat < t) ∧ ∀ j, j = 0 + n.toNat → K j := by
 obtain ⟨⟨h1, h2⟩, H2⟩ := gd_eq H
 subst e
 refine ⟨fun _ => ⟨h1, h2⟩, ?_⟩
 intro j hj
 rw [Nat.zero_add] at hj
 exact h j (by rw [hj]; exact H2)
theorem s_bt {s : Str} {n : Int} {f : Int → Option R} {K : Int → Prop} (H : bt s n f = some r) (h : ∀ z, f z = some r → K z) : (Side → 0 ≤ n ∧ n.toNat < s.length) ∧ ∀ (j : Nat) (b : UInt8), j = n.toNat → s[j]? = some b → ∀ z : Int, 0 ≤ z → z.toNat = b.toNat → K z := by
 obtain ⟨⟨h1, h2⟩, H⟩ := gd_eq H
 refine ⟨fun _ => ⟨h1, h2⟩, ?_⟩
 rintro j b rfl hb z h0 hz
 have e : s.getD n.toNat 0 = b := by rw [List.getD_eq_getElem?_getD, hb]; rfl
 refine h z ?_
 rw [e] at H
 have : z = (b.toNat : Int) := by omega
 rw [this]; exact H
theorem s_tk1 {row : List C} {K : List (List C) → Prop} (h : K [row]) : ∀ ys, ys = List.take 1 (List.drop 0 [row]) → K ys := by rintro ys rfl; exact h
variable {e : α → List C} {v : List α → List (List C)} {nv : List α → Nat}
theorem s_tkG (hr : ∀ l, v l = l.map e) (hn : ∀ l, nv l = l.length) {l : List α} {K : List (List C) → Prop} (h : K (v l)) : ∀ ys, ys = List.take (nv l) (List.drop 0 (v l)) → K ys := by
 rintro ys rfl; rw [List.drop_zero, hn, List.take_of_length_le (by rw [hr, List.length_map]; exact Nat.le_refl _)]; exact h
theorem s_apG (hr : ∀ l, v l = l.map e) (hn : ∀ l, nv l = l.length) {l ys : List α} {rb : List (List C)} (hy : ys.map e = rb) {f : List α → Option R} {K : List (List C) → Nat → Prop} (H : lv (l ++ ys) f = some r) (h : ∀ l', f l' = some r → K (v l') (nv l')) : ∀ zs, zs = List.take (nv l) (List.drop 0 (v l)) ++ rb → ∀ m, m = zs.length → K zs m := by
 rintro zs rfl m rfl
 have := h _ H
 rw [hr, hn, List.map_append] at this
 rw [List.drop_zero, hn, List.take_of_length_le (by rw [hr, List.length_map]; exact Nat.le_refl _), hr, ← hy]
 simpa using this
theorem s_anG (hr : ∀ l, v l = l.map e) (hn : ∀ l, nv l = l.length) {ys : List α} {rb : List (List C)} (hy : ys.map e = rb) {f : List α → Option R} {K : List (List C) → Nat → Prop} (H : lv ys f = some r) (h : ∀ l', f l' = some r → K (v l') (nv l')) : ∀ zs, zs = rb → ∀ m, m = zs.length → K zs m := by
 rintro zs rfl m rfl
 have := h _ H
 rw [hr, hn] at this
 rw [← hy]
 simpa using this
theorem s_apL (hr : ∀ l, v l = l.map e) (hn : ∀ l, nv l = l.length) {l ys : List α} {f : List α → Option R} {K : List (List C) → Nat → Prop} (H : lv (l ++ ys) f = some r) (h : ∀ l', f l' = some r → K (v l') (nv l')) : ∀ zs, zs = List.take (nv l) (List.drop 0 (v l)) ++ v ys → ∀ m, m = zs.length → K zs m :=
 s_apG hr hn (hr ys).symm H h
theorem s_ap0 (hr : ∀ l, v l = l.map e) (hn : ∀ l, nv l = l.length) {ys : List α} {rb : List (List C)} (hy : ys.map e = rb) {f : List α → Option R} {K : List (List C) → Nat → Prop} (H : lv ([] ++ ys) f = some r) (h : ∀ l', f l' = some r → K (v l') (nv l')) : ∀ zs, zs = List.take 0 (List.drop 0 []) ++ rb → ∀ m, m = zs.length → K zs m :=
 s_anG hr hn (by rw [List.nil_append, hy]; rfl) H h
theorem s_tkL (hr : ∀ l, v l = l.map e) {l : List α} {n : Nat} {f : List α → Option R} {K : List (List C) → Prop} (H : lv (l.take n) f = some r) (h : ∀ l', f l' = some r → K (v l')) : ∀ zs, zs = (v l).take n → K zs := by
 rintro zs rfl; have := h _ H; rw [hr, List.map_take] at this; rw [hr]; exact this
theorem s_tkLn (hr : ∀ l, v l = l.map e) {l : List α} {n m : Nat} (hm : m = n) {f : List α → Option R} {K : List (List C) → Prop} (H : lv (l.take n) f = some r) (h : ∀ l', f l' = some r → K (v l')) : ∀ zs, zs = (v l).take m → K zs := by
 subst hm; exact s_tkL hr H h
theorem s_drLn (hr : ∀ l, v l = l.map e) {l : List α} {n m : Nat} (hm : m = n) {f : List α → Option R} {K : List (List C) → Prop} (H : lv (l.drop n) f = some r) (h : ∀ l', f l' = some r → K (v l')) : ∀ zs, zs = (v l).drop m → K zs := by
 subst hm; have := h _ H; rintro zs rfl; rw [hr, List.map_drop] at this; rw [hr]; exact this
theorem s_drL (hr : ∀ l, v l = l.map e) {l : List α} {n : Nat} {f : List α → Option R} {K : List (List C) → Prop} (H : lv (l.drop n) f = some r) (h : ∀ l', f l' = some r → K (v l')) : ∀ zs, zs = (v l).drop n → K zs := by
 rintro zs rfl; have := h _ H; rw [hr, List.map_drop] at this; rw [hr]; exact this
theorem s_tdL (hr : ∀ l, v l = l.map e) {l : List α} {n m : Nat} {f : List α → Option R} {K : List (List C) → Prop} (H : lv ((l.take n).drop m) f = some r) (h : ∀ l', f l' = some r → K (v l')) : ∀ zs, zs = ((v l).take n).drop m → K zs := by
 rintro zs rfl; have := h _ H; rw [hr, List.map_drop, List.map_take] at this; rw [hr]; exact this
theorem s_mkL (hr : ∀ l, v l = l.map e) (hn : ∀ l, nv l = l.length) {x : α} {z : List C} (hz : e x = z) {k : Nat} {f : List α → Option R} {K : List (List C) → Nat → Prop} (H : lv (List.replicate k x) f = some r) (h : ∀ l', f l' = some r → K (v l') (nv l')) : ∀ (j : Nat) rows, j = k → rows = List.replicate j z → ∀ m, m = rows.length → K rows m := by
 rintro j rows rfl rfl m rfl
 have := h _ H
 rw [hr, hn, List.map_replicate, hz] at this
 simpa using this
end
theorem indep_of {fx : Bool} {rg : Option Nat} {P : Program} {G : Glob} {A : Bx} (hA : IsBx fx rg P G A) {ops : Array Oper} {log : List (List Nat × List Nat)} (h : indep ops log.reverse = true) : A.indep ops log := by rw [hA.indep]; exact h
theorem pin_same {B : (Nat → EObj) → List (List C) → List (List C) → Prop} {ks : List Nat} {ns : List (Nat × Nat)} (hB : ∀ o rows rows', rowsZ (pinZ o ks ns) rows rows' → B o rows rows') {o : Nat → EObj} {rows : List (List C)} (hc : ∀ r ∈ rows, r.all closedCell = true) : B o rows rows :=
 hB _ _ _ (rows_same rfl hc)
theorem pin_nil {B : (Nat → EObj) → List (List C) → List (List C) → Prop} {ks : List Nat} {ns : List (Nat × Nat)} (hB : ∀ o rows rows', rowsZ (pinZ o ks ns) rows rows' → B o rows rows') {o : Nat → EObj} {rows : List (List C)} (h : rows = []) : B o [] rows :=
 hB _ _ _ (rows_same h (fun r hr => by cases hr))
theorem pin_dirty {B : (Nat → EObj) → List (List C) → List (List C) → Prop} {ks : List Nat} {ns : List (Nat × Nat)} (hB : ∀ o rows rows', rowsZ (pinZ o ks ns) rows rows' → B o rows rows') {o : Nat → EObj} {zs rows : List (List C)} {k : Nat} {row row' : List C} (hd : zs = rows.set k row) (hk : ∀ r', rows[k]? = some r' → r' = row') (hc : ∀ r ∈ rows, r.all closedCell = true) (h : pinL (pinZ o ks ns) row row') : B o zs rows := by
 refine hB _ _ _ ?_
 cases e : rows[k]? with
 | some r' => exact rows_dirty hd (by rw [e, hk _ e]) hc h
 | none =>
  have : zs = rows := by rw [hd]; exact List.set_eq_of_length_le (List.getElem?_eq_none_iff.1 e)
  rw [this]; exact rows_same rfl hc
theorem pinL_c {q : C → C → Prop} {c c' : C} {l l' : List C} (h1 : q c c') (h2 : pinL q l l') : pinL q (c :: l) (c' :: l') := ⟨h1, h2⟩
theorem pinL_n {q : C → C → Prop} : pinL q [] [] := trivial
theorem pz_go {o : Nat → EObj} {ks : List Nat} {ns : List (Nat × Nat)} {c c' : C} (h : pinZ o ks ns c c') : pinZ o ks ns c c' := h
theorem pzr {o : Nat → EObj} {ks : List Nat} {ns : List (Nat × Nat)} {id g es n : Nat} {rows : List (List C)} (hg : (o id).gen = g) (hk : ks.contains id = false) (hd : (o id).dat = .many rows) (hn : n = rows.length) (hc : ∀ r ∈ rows, r.all closedCell = true) : pinZ o ks ns (.ref id g es 0 n) (.sl rows) := by
 unfold pinZ
 simp only
 rw [if_pos hg, hk]
 simp only [Bool.false_eq_true, if_false]
 rw [hd]
 simp only
 exact ⟨⟨by omega, hc⟩, by rw [List.drop_zero, List.take_of_length_le (by omega)]⟩
theorem pinL_go {q : C → C → Prop} {a b : List C} (h : pinL q a b) : pinL q a b := h
theorem s_pl {p : Prop} (h : p) : false = false → p := fun _ => h
theorem s_eqL {t : List (List C)} {K : List (List C) → Prop} (h : K t) : ∀ ys, ys = t → K ys := by rintro ys rfl; exact h
theorem s_eqn {t : Nat} {K : Nat → Prop} (h : K t) : ∀ n : Nat, n = t → K n := by rintro n rfl; exact h
theorem s_eqn2 {t u : Nat} {K : Nat → Nat → Prop} (h : K t u) : ∀ b n : Nat, b = t → n = u → K b n := by rintro b n rfl rfl; exact h
section
variable {α : Type} {e : α → List C} {v : List α → List (List C)} {nv : List α → Nat}
theorem s_tkP (hr : ∀ l, v l = l.map e) {l : List α} {n : Nat} {K : List (List C) → Prop} (h : K (v (l.take n))) : ∀ ys, ys = List.take n (List.drop 0 (v l)) → K ys := by
 rintro ys rfl; rw [List.drop_zero, hr, ← List.map_take, ← hr]; exact h
theorem s_drP (hr : ∀ l, v l = l.map e) (hn : ∀ l, nv l = l.length) {l : List α} {k : Nat} {K : List (List C) → Prop} (h : K (v (l.drop k))) : ∀ ys, ys = List.take (nv l - k) (List.drop (0 + k) (v l)) → K ys := by
 rintro ys rfl; rw [Nat.zero_add, hr, ← List.map_drop, hn, List.take_of_length_le (by simp), ← hr]; exact h
end
def topsF (o : Nat → EObj) (ids : List Nat) : List Nat → Prop
 | [] => True
 | i :: r => (ids.contains i = false ∧ match (o i).dat with | .many rows => ∀ x ∈ rows, x.all closedCell = true | .one c => c.all closedCell = true) ∧ topsF o ids r
theorem topsF_sound {o : Nat → EObj} {ids : List Nat} : ∀ {l : List Nat}, topsF o ids l → ∀ i ∈ l, i ∉ ids ∧ ∀ r ∈ (o i).dat.rows, r.all closedCell = true
 | a :: l, h, i, hi => by
  rcases List.mem_cons.1 hi with rfl | hi
  ·refine ⟨fun hm => ?_, ?_⟩
   ·have := h.1.1
    rw [List.contains_iff_mem.2 hm] at this
    cases this
   ·have h2 := h.1.2
    cases hd : (o i).dat with
    | many rows => rw [hd] at h2; exact h2
    | one c => rw [hd] at h2; intro r hr; simp only [ED.rows, List.mem_singleton] at hr; subst hr; exact h2
  ·exact topsF_sound h.2 i hi
def keepS (e : ESt) (ts : List Nat) : List (Nat × C) := ts.map fun t => (t, rgV (toO e.o) (e.s t))
def keepO (e : ESt) (is : List Nat) : List (Nat × EObj) := is.map fun i => (i, ⟨0, (e.o i).rw, (e.o i).es, match (e.o i).dat with | .one r => .one (r.map (rgC (toO e.o))) | .many rows => .many rows⟩)
def ovL : List C → List (Nat × C) → List C
 | r, [] => r
 | r, (j, c) :: l => ovL (r.set j c) l
def ovO (e : ESt) (i : Nat) (l : List (Nat × C)) : Nat × EObj := (i, ⟨0, (e.o i).rw, (e.o i).es, match (e.o i).dat with | .one r => .one (ovL (r.map (rgC (toO e.o))) l) | .many rows => .many rows⟩)
section
variable {A : Bx} {P : Program} {G : Glob} {fx : Bool} {R : Type} {r : R} {S : Type}
theorem s_loop {n : Nat} (hA : IsBx fx (some n) P G A) {inv : S → Prop} {mu : S → Nat} {res : S → R} {s0 : S} (H : EI inv mu res s0 = some r) {bodyF : S → Option R} (hb : ∀ s, inv s → bodyF s = some (res s)) (ks ko : List Nat) (pins : ESt → S → List (Nat × C)) (objs : ESt → S → List (Nat × EObj)) (ns : List (Nat × Nat)) {body : (Ex → ESt → Prop) → ESt → Prop} {Q : Ex → ESt → Prop} {e : ESt}
  (hp : PinnedZ e ns (pins e s0 ++ keepS e ks) (objs e s0 ++ keepO e ko)) (hN : ∀ i, i < n → ((objs e s0 ++ keepO e ko).map Prod.fst).contains i = true ∧ (e.o i).gen = 0 ∧ ns.lookup i = none)
  (hr : ∀ s, bodyF s = some r → body (fun ex s' => match ex with | .nml => ∃ x', (inv x' ∧ res x' = r) ∧ mu x' < mu s ∧ Wk (some n) s'.toSt (pinS (pins e x' ++ keepS e ks) (objs e x' ++ keepO e ko)).toSt | ex => Q ex s') (pinS (pins e s ++ keepS e ks) (objs e s ++ keepO e ko))) : A.loop body Q e :=
 loop_pinsZ hA (fun s => pins e s ++ keepS e ks) (fun s => objs e s ++ keepO e ko) (fun s => inv s ∧ res s = r) mu ns s0 (EI_eq H) hp hN fun s hs => hr s ((hb s hs.1).trans (congrArg some hs.2))
theorem s_next {n : Nat} {inv : S → Prop} {mu : S → Nat} {res : S → R} {m : Nat} {s' : S} (H : LI inv mu res m s' = some r) {pins : S → List (Nat × C)} {objs : S → List (Nat × EObj)} {e : ESt} (hp : PinnedZ e [] (pins s') (objs s')) (hN : ∀ i, i < n → ((objs s').map Prod.fst).contains i = true ∧ (e.o i).gen = 0 ∧ ([] : List (Nat × Nat)).lookup i = none) : ∃ x', (inv x' ∧ res x' = r) ∧ mu x' < m ∧ Wk (some n) e.toSt (pinS (pins x') (objs x')).toSt := by
 obtain ⟨h1, h2, h3⟩ := LI_eq H
 exact ⟨s', ⟨h1, h3⟩, h2, pinZ_wkN hp hN⟩
theorem s_nextM {n : Nat} (mvs : List (Nat × Nat)) (hmv : (mvs.all fun p => p.1 != p.2) = true) {inv : S → Prop} {mu : S → Nat} {res : S → R} {m : Nat} {s' : S} (H : LI inv mu res m s' = some r) {pins : S → List (Nat × C)} {objs : S → List (Nat × EObj)} {e : ESt} (hp : PinnedZ (mvEs mvs e) [] (pins s') (objs s')) (hN : ∀ i, i < n → ((objs s').map Prod.fst).contains i = true ∧ ((mvEs mvs e).o i).gen = 0 ∧ ([] : List (Nat × Nat)).lookup i = none) : ∃ x', (inv x' ∧ res x' = r) ∧ mu x' < m ∧ Wk (some n) e.toSt (pinS (pins x') (objs x')).toSt := by
 obtain ⟨h1, h2, h3⟩ := LI_eq H
 exact ⟨s', ⟨h1, h3⟩, h2, mvEs_wk hmv (pinZ_wkN hp hN)⟩
theorem s_joint (n : Nat) {m : Nat} (hA : IsBx fx (some m) P G A) {AA : (S → Option R) → Option R} {B : S → Option R} (H : lj n AA B = some r) (ks ko : List Nat) (pins : ESt → S → List (Nat × C)) (objs : ESt → S → List (Nat × EObj)) {a b : (Ex → ESt → Prop) → ESt → Prop} {Q : Ex → ESt → Prop} {e : ESt}
  (ha : ∀ J : S → Option R, AA J = some r → a (fun ex s' => match ex with | .nml => ∃ x, J x = some r ∧ Wk (some m) s'.toSt (pinS (pins e x ++ keepS e ks) (objs e x ++ keepO e ko)).toSt | ex => Q ex s') e)
  (hb : ∀ s, B s = some r → b Q (pinS (pins e s ++ keepS e ks) (objs e s ++ keepO e ko))) : A.seq a b Q e :=
 seq_pinsN hA (fun s => pins e s ++ keepS e ks) (fun s => objs e s ++ keepO e ko) (fun s => B s = some r) (ha B H) hb
theorem s_meet {n : Nat} {J : S → Option R} {s' : S} (H : J s' = some r) {pins : S → List (Nat × C)} {objs : S → List (Nat × EObj)} {e : ESt} (ns : List (Nat × Nat)) (hp : PinnedZ e ns (pins s') (objs s')) (hN : ∀ i, i < n → ((objs s').map Prod.fst).contains i = true ∧ (e.o i).gen = 0 ∧ ns.lookup i = none) : ∃ x', J x' = some r ∧ Wk (some n) e.toSt (pinS (pins x') (objs x')).toSt := ⟨s', H, pinZ_wkN hp hN⟩
end
section
variable {A : Bx} {P : Program} {G : Glob} {rg : Option Nat} {own : Nat} {o : Nat → EObj} {g : FuncId} {vs : List C} {sh : Bool} {K : C → List (Nat × EObj) → Prop} {R : Type} {r : R} {X Y : Option R}
theorem s_cb (hA : IsBx true rg P G A) {b : Bool} (H : cn b X Y = some r) (hok : FnOK P G g vs [] (.bool b) [] sh) (hc : vs.all closedArg = true) (h1 : X = some r → K (.bool true) []) (h0 : Y = some r → K (.bool false) []) : A.call own o g vs K := by
 refine callT_plain hA hok hc ?_
 cases b
 ·exact h0 H
 ·exact h1 H
theorem s_ci (hA : IsBx true rg P G A) {k : IntKind} {z : Int} {f : Int → Option R} (H : lv z f = some r) (hok : FnOK P G g vs [] (.int k z) [] sh) (hc : vs.all closedArg = true) (h : ∀ n, f n = some r → K (.int k n) []) : A.call own o g vs K :=
 callT_plain hA hok hc (h z H)
theorem s_cs (hA : IsBx true rg P G A) {l : Str} {f : Str → Option R} (H : lv l f = some r) (hok : FnOK P G g vs [] (.str ⟨⟨l⟩⟩) [] sh) (hc : vs.all closedArg = true) (h : ∀ n, f n = some r → K (.str ⟨⟨n⟩⟩) []) : A.call own o g vs K :=
 callT_plain hA hok hc (h l H)
variable {U : List C → List EObj → (C → List (Nat × EObj) → Prop) → Prop} {bs : List C} {ext : List EObj}
theorem s_rb (hR : U = callR P G own o g) {b : Bool} (H : cn b X Y = some r) (hok : FnOK P G g bs (ext.map EObj.toObj) (.bool b) (ext.map EObj.toObj) false) (h1 : X = some r → K (.bool true) []) (h0 : Y = some r → K (.bool false) []) : U bs ext K := by
 refine callR_of hR hok ?_
 cases b
 ·exact h0 H
 ·exact h1 H
theorem s_ri (hR : U = callR P G own o g) {k : IntKind} {z : Int} {f : Int → Option R} (H : lv z f = some r) (hok : FnOK P G g bs (ext.map EObj.toObj) (.int k z) (ext.map EObj.toObj) false) (h : ∀ n, f n = some r → K (.int k n) []) : U bs ext K :=
 callR_of hR hok (h z H)
end
section
variable {R : Type} {r : R} {V : Vx}
def ixI (l : List Int) (n : Int) (f : Int → Option R) : Option R := match l[n.toNat]? with | some x => if 0 ≤ n then f (x) else none | none => none
theorem ixI_ok {l : List Int} {n : Int} {f : Int → Option R} {x : Int} (h : 0 ≤ n) (e : l[n.toNat]? = some x) : ixI l n f = f (x) := by simp only [ixI, e, if_pos h]
theorem vrI (hV : IsV V) {l : List Int} {j : Nat} {row : List C} (h : (V.rI l)[j]? = some row) : ∃ x, l[j]? = some x ∧ row = [.int .i64 x] := by
 rw [hV.rI, List.getElem?_map, Option.map_eq_some_iff] at h
 obtain ⟨x, hx, rfl⟩ := h
 exact ⟨x, hx, by simp only [ eI]⟩
theorem wI (hV : IsV V) (l : List Int) : ∀ row ∈ V.rI l, row.length = 1 := by
 intro row h; rw [hV.rI] at h; obtain ⟨x, _, rfl⟩ := List.mem_map.1 h; rfl
theorem plRI (hV : IsV V) (l : List Int) : (V.rI l).all (List.all · plain1) = true := by
 rw [hV.rI, List.all_map, List.all_eq_true]; intro x _; rfl
theorem nrI (hV : IsV V) (l : List Int) : V.nI l = (V.rI l).length := by rw [hV.nI, hV.rI, List.length_map]
theorem nrsI (hV : IsV V) {l k : List Int} (h : V.nI k = V.nI l) : V.nI l = (V.rI k).length := by rw [← h, nrI hV]
theorem clI (hV : IsV V) (l : List Int) : ∀ row ∈ V.rI l, row.all closedCell = true := by
 intro row h; rw [hV.rI] at h; obtain ⟨x, _, rfl⟩ := List.mem_map.1 h; rfl
theorem s_ixI (hV : IsV V) {l : List Int} {n : Int} {f : Int → Option R} {K : List C → Prop} (H : ixI l n f = some r) (h : ∀ c0, f c0 = some r → K [.int .i64 c0]) : (Side → 0 ≤ n ∧ n.toNat < (V.rI l).length) ∧ ∀ (j : Nat) (row : List C), j = n.toNat → (V.rI l)[j]? = some row → K row := by
 unfold ixI at H
 cases e : l[n.toNat]? with
 | none => rw [e] at H; cases H
 | some x =>
  rw [e] at H
  simp only at H
  by_cases hn : 0 ≤ n
  ·rw [if_pos hn] at H
   refine ⟨fun _ => ⟨hn, by rw [hV.rI, List.length_map]; exact (List.getElem?_eq_some_iff.1 e).1⟩, ?_⟩
   rintro j row rfl hr
   obtain ⟨y, hy, rfl⟩ := vrI hV hr
   rw [e] at hy; cases hy
   exact h _ H
  ·rw [if_neg hn] at H; cases H
theorem s_setI (hV : IsV V) {l : List Int} {j : Nat} {c0 : Int} {f : List Int → Option R} {K : List (List C) → Prop} (H : lv (l.set j c0) f = some r) (h : ∀ l', V.nI l' = V.nI l → f l' = some r → K (V.rI l')) : ∀ zs, zs = (V.rI l).set j [.int .i64 c0] → K zs := by
 rintro zs rfl
 have := h _ (by rw [hV.nI, hV.nI, List.length_set]) H
 rw [hV.rI, List.map_set] at this
 rw [hV.rI]; exact this
theorem s_apI (hV : IsV V) {l : List Int} {c0 : Int} {f : List Int → Option R} {K : List (List C) → Nat → Prop} (H : lv (l ++ [c0]) f = some r) (h : ∀ l', f l' = some r → K (V.rI l') (V.nI l')) : ∀ zs, zs = List.take (V.nI l) (List.drop 0 (V.rI l)) ++ [[.int .i64 c0]] → ∀ m, m = zs.length → K zs m :=
 s_apG hV.rI hV.nI (ys := [c0]) (by simp [eI]) H h
theorem s_bnI (hV : IsV V) {c0 : Int} {f : List Int → Option R} {K : List (List C) → Nat → Prop} (H : lv [c0] f = some r) (h : ∀ l', f l' = some r → K (V.rI l') (V.nI l')) : ∀ zs, zs = [[.int .i64 c0]] → ∀ m, m = zs.length → K zs m :=
 s_anG hV.rI hV.nI (ys := [c0]) (by simp [eI]) H h
end
section
variable {R : Type} {r : R} {V : Vx}
def ixS (l : List Str) (n : Int) (f : Str → Option R) : Option R := match l[n.toNat]? with | some x => if 0 ≤ n then f (x) else none | none => none
def rnS (l : List Str) (j : Nat) (f : Str → Option R) : Option R := match l[j]? with | some x => f (x) | none => none
theorem ixS_ok {l : List Str} {n : Int} {f : Str → Option R} {x : Str} (h : 0 ≤ n) (e : l[n.toNat]? = some x) : ixS l n f = f (x) := by simp only [ixS, e, if_pos h]
theorem rnS_ok {l : List Str} {j : Nat} {f : Str → Option R} {x : Str} (e : l[j]? = some x) : rnS l j f = f (x) := by simp only [rnS, e]
theorem vrS (hV : IsV V) {l : List Str} {j : Nat} {row : List C} (h : (V.rS l)[j]? = some row) : ∃ x, l[j]? = some x ∧ row = [.str ⟨⟨x⟩⟩] := by
 rw [hV.rS, List.getElem?_map, Option.map_eq_some_iff] at h
 obtain ⟨x, hx, rfl⟩ := h
 exact ⟨x, hx, by simp only [ eS]⟩
theorem wS (hV : IsV V) (l : List Str) : ∀ row ∈ V.rS l, row.length = 1 := by
 intro row h; rw [hV.rS] at h; obtain ⟨x, _, rfl⟩ := List.mem_map.1 h; rfl
theorem plRS (hV : IsV V) (l : List Str) : (V.rS l).all (List.all · plain1) = true := by
 rw [hV.rS, List.all_map, List.all_eq_true]; intro x _; rfl
theorem nrS (hV : IsV V) (l : List Str) : V.nS l = (V.rS l).length := by rw [hV.nS, hV.rS, List.length_map]
theorem nrsS (hV : IsV V) {l k : List Str} (h : V.nS k = V.nS l) : V.nS l = (V.rS k).length := by rw [← h, nrS hV]
theorem clS (hV : IsV V) (l : List Str) : ∀ row ∈ V.rS l, row.all closedCell = true := by
 intro row h; rw [hV.rS] at h; obtain ⟨x, _, rfl⟩ := List.mem_map.1 h; rfl
theorem s_ixS (hV : IsV V) {l : List Str} {n : Int} {f : Str → Option R} {K : List C → Prop} (H : ixS l n f = some r) (h : ∀ c0, f c0 = some r → K [.str ⟨⟨c0⟩⟩]) : (Side → 0 ≤ n ∧ n.toNat < (V.rS l).length) ∧ ∀ (j : Nat) (row : List C), j = n.toNat → (V.rS l)[j]? = some row → K row := by
 unfold ixS at H
 cases e : l[n.toNat]? with
 | none => rw [e] at H; cases H
 | some x =>
  rw [e] at H
  simp only at H
  by_cases hn : 0 ≤ n
  ·rw [if_pos hn] at H
   refine ⟨fun _ => ⟨hn, by rw [hV.rS, List.length_map]; exact (List.getElem?_eq_some_iff.1 e).1⟩, ?_⟩
   rintro j row rfl hr
   obtain ⟨y, hy, rfl⟩ := vrS hV hr
   rw [e] at hy; cases hy
   exact h _ H
  ·rw [if_neg hn] at H; cases H
theorem s_rnS (hV : IsV V) {l : List Str} {j : Nat} {f : Str → Option R} {K : List C → Prop} (H : rnS l j f = some r) (h : ∀ c0, f c0 = some r → K [.str ⟨⟨c0⟩⟩]) : (Side → j < (V.rS l).length) ∧ ∀ (row : List C), (V.rS l)[j]? = some row → K row := by
 unfold rnS at H
 cases e : l[j]? with
 | none => rw [e] at H; cases H
 | some x =>
  rw [e] at H
  simp only at H
  refine ⟨fun _ => by rw [hV.rS, List.length_map]; exact (List.getElem?_eq_some_iff.1 e).1, ?_⟩
  rintro row hr
  obtain ⟨y, hy, rfl⟩ := vrS hV hr
  rw [e] at hy; cases hy
  exact h _ H
theorem s_apS (hV : IsV V) {l : List Str} {c0 : Str} {f : List Str → Option R} {K : List (List C) → Nat → Prop} (H : lv (l ++ [c0]) f = some r) (h : ∀ l', f l' = some r → K (V.rS l') (V.nS l')) : ∀ zs, zs = List.take (V.nS l) (List.drop 0 (V.rS l)) ++ [[.str ⟨⟨c0⟩⟩]] → ∀ m, m = zs.length → K zs m :=
 s_apG hV.rS hV.nS (ys := [c0]) (by simp [eS]) H h
theorem s_bnS (hV : IsV V) {c0 : Str} {f : List Str → Option R} {K : List (List C) → Nat → Prop} (H : lv [c0] f = some r) (h : ∀ l', f l' = some r → K (V.rS l') (V.nS l')) : ∀ zs, zs = [[.str ⟨⟨c0⟩⟩]] → ∀ m, m = zs.length → K zs m :=
 s_anG hV.rS hV.nS (ys := [c0]) (by simp [eS]) H h
end
section
variable {R : Type} {r : R} {V : Vx}
theorem wB (hV : IsV V) (l : List Bool) : ∀ row ∈ V.rB l, row.length = 1 := by
 intro row h; rw [hV.rB] at h; obtain ⟨x, _, rfl⟩ := List.mem_map.1 h; rfl
theorem nrB (hV : IsV V) (l : List Bool) : V.nB l = (V.rB l).length := by rw [hV.nB, hV.rB, List.length_map]
theorem nrsB (hV : IsV V) {l k : List Bool} (h : V.nB k = V.nB l) : V.nB l = (V.rB k).length := by rw [← h, nrB hV]
theorem clB (hV : IsV V) (l : List Bool) : ∀ row ∈ V.rB l, row.all closedCell = true := by
 intro row h; rw [hV.rB] at h; obtain ⟨x, _, rfl⟩ := List.mem_map.1 h; rfl
end
section
variable {R : Type} {r : R} {V : Vx}
theorem wIu8 (hV : IsV V) (l : List Int) : ∀ row ∈ V.rIu8 l, row.length = 1 := by
 intro row h; rw [hV.rIu8] at h; obtain ⟨x, _, rfl⟩ := List.mem_map.1 h; rfl
theorem nrIu8 (hV : IsV V) (l : List Int) : V.nIu8 l = (V.rIu8 l).length := by rw [hV.nIu8, hV.rIu8, List.length_map]
theorem nrsIu8 (hV : IsV V) {l k : List Int} (h : V.nIu8 k = V.nIu8 l) : V.nIu8 l = (V.rIu8 k).length := by rw [← h, nrIu8 hV]
theorem clIu8 (hV : IsV V) (l : List Int) : ∀ row ∈ V.rIu8 l, row.all closedCell = true := by
 intro row h; rw [hV.rIu8] at h; obtain ⟨x, _, rfl⟩ := List.mem_map.1 h; rfl
end
section
variable {R : Type} {r : R} {V : Vx}
def ixPair (l : List Pair) (n : Int) (f : Str → Int → Option R) : Option R := match l[n.toNat]? with | some x => if 0 ≤ n then f (x.name) (x.value) else none | none => none
theorem ixPair_ok {l : List Pair} {n : Int} {f : Str → Int → Option R} {x : Pair} (h : 0 ≤ n) (e : l[n.toNat]? = some x) : ixPair l n f = f (x.name) (x.value) := by simp only [ixPair, e, if_pos h]
theorem vrPair (hV : IsV V) {l : List Pair} {j : Nat} {row : List C} (h : (V.rPair l)[j]? = some row) : ∃ x, l[j]? = some x ∧ row = [.str ⟨⟨x.name⟩⟩, .int .i64 x.value] := by
 rw [hV.rPair, List.getElem?_map, Option.map_eq_some_iff] at h
 obtain ⟨x, hx, rfl⟩ := h
 exact ⟨x, hx, by simp only [ ePair]⟩
theorem wPair (hV : IsV V) (l : List Pair) : ∀ row ∈ V.rPair l, row.length = 2 := by
 intro row h; rw [hV.rPair] at h; obtain ⟨x, _, rfl⟩ := List.mem_map.1 h; rfl
theorem plRPair (hV : IsV V) (l : List Pair) : (V.rPair l).all (List.all · plain1) = true := by
 rw [hV.rPair, List.all_map, List.all_eq_true]; intro x _; rfl
theorem nrPair (hV : IsV V) (l : List Pair) : V.nPair l = (V.rPair l).length := by rw [hV.nPair, hV.rPair, List.length_map]
theorem nrsPair (hV : IsV V) {l k : List Pair} (h : V.nPair k = V.nPair l) : V.nPair l = (V.rPair k).length := by rw [← h, nrPair hV]
theorem clPair (hV : IsV V) (l : List Pair) : ∀ row ∈ V.rPair l, row.all closedCell = true := by
 intro row h; rw [hV.rPair] at h; obtain ⟨x, _, rfl⟩ := List.mem_map.1 h; rfl
theorem s_ixPair (hV : IsV V) {l : List Pair} {n : Int} {f : Str → Int → Option R} {K : List C → Prop} (H : ixPair l n f = some r) (h : ∀ c0 c1, f c0 c1 = some r → K [.str ⟨⟨c0⟩⟩, .int .i64 c1]) : (Side → 0 ≤ n ∧ n.toNat < (V.rPair l).length) ∧ ∀ (j : Nat) (row : List C), j = n.toNat → (V.rPair l)[j]? = some row → K row := by
 unfold ixPair at H
 cases e : l[n.toNat]? with
 | none => rw [e] at H; cases H
 | some x =>
  rw [e] at H
  simp only at H
  by_cases hn : 0 ≤ n
  ·rw [if_pos hn] at H
   refine ⟨fun _ => ⟨hn, by rw [hV.rPair, List.length_map]; exact (List.getElem?_eq_some_iff.1 e).1⟩, ?_⟩
   rintro j row rfl hr
   obtain ⟨y, hy, rfl⟩ := vrPair hV hr
   rw [e] at hy; cases hy
   exact h _ _ H
  ·rw [if_neg hn] at H; cases H
theorem s_setPair (hV : IsV V) {l : List Pair} {j : Nat} {c0 : Str} {c1 : Int} {f : List Pair → Option R} {K : List (List C) → Prop} (H : lv (l.set j ⟨c0, c1⟩) f = some r) (h : ∀ l', V.nPair l' = V.nPair l → f l' = some r → K (V.rPair l')) : ∀ zs, zs = (V.rPair l).set j [.str ⟨⟨c0⟩⟩, .int .i64 c1] → K zs := by
 rintro zs rfl
 have := h _ (by rw [hV.nPair, hV.nPair, List.length_set]) H
 rw [hV.rPair, List.map_set] at this
 rw [hV.rPair]; exact this
theorem s_apPair (hV : IsV V) {l : List Pair} {c0 : Str} {c1 : Int} {f : List Pair → Option R} {K : List (List C) → Nat → Prop} (H : lv (l ++ [⟨c0, c1⟩]) f = some r) (h : ∀ l', f l' = some r → K (V.rPair l') (V.nPair l')) : ∀ zs, zs = List.take (V.nPair l) (List.drop 0 (V.rPair l)) ++ [[.str ⟨⟨c0⟩⟩, .int .i64 c1]] → ∀ m, m = zs.length → K zs m :=
 s_apG hV.rPair hV.nPair (ys := [⟨c0, c1⟩]) (by simp [ePair]) H h
theorem s_bnPair (hV : IsV V) {c0 : Str} {c1 : Int} {f : List Pair → Option R} {K : List (List C) → Nat → Prop} (H : lv [⟨c0, c1⟩] f = some r) (h : ∀ l', f l' = some r → K (V.rPair l') (V.nPair l')) : ∀ zs, zs = [[.str ⟨⟨c0⟩⟩, .int .i64 c1]] → ∀ m, m = zs.length → K zs m :=
 s_anG hV.rPair hV.nPair (ys := [⟨c0, c1⟩]) (by simp [ePair]) H h
end
section
variable {R : Type} {r : R} {V : Vx}
theorem wArg (hV : IsV V) (l : List Arg) : ∀ row ∈ V.rArg l, row.length = 4 := by
 intro row h; rw [hV.rArg] at h; obtain ⟨x, _, rfl⟩ := List.mem_map.1 h; rfl
theorem nrArg (hV : IsV V) (l : List Arg) : V.nArg l = (V.rArg l).length := by rw [hV.nArg, hV.rArg, List.length_map]
theorem nrsArg (hV : IsV V) {l k : List Arg} (h : V.nArg k = V.nArg l) : V.nArg l = (V.rArg k).length := by rw [← h, nrArg hV]
theorem clArg (hV : IsV V) (l : List Arg) : ∀ row ∈ V.rArg l, row.all closedCell = true := by
 intro row h; rw [hV.rArg] at h; obtain ⟨x, _, rfl⟩ := List.mem_map.1 h; rfl
end
section
variable {R : Type} {r : R} {V : Vx}
def ixParam (l : List Param) (n : Int) (f : Str → Int → Bool → Int → Option R) : Option R := match l[n.toNat]? with | some x => if 0 ≤ n then f (x.name) (x.kind) (x.hasDefault) (x.dflt) else none | none => none
def rnParam (l : List Param) (j : Nat) (f : Str → Int → Bool → Int → Option R) : Option R := match l[j]? with | some x => f (x.name) (x.kind) (x.hasDefault) (x.dflt) | none => none
theorem ixParam_ok {l : List Param} {n : Int} {f : Str → Int → Bool → Int → Option R} {x : Param} (h : 0 ≤ n) (e : l[n.toNat]? = some x) : ixParam l n f = f (x.name) (x.kind) (x.hasDefault) (x.dflt) := by simp only [ixParam, e, if_pos h]
theorem rnParam_ok {l : List Param} {j : Nat} {f : Str → Int → Bool → Int → Option R} {x : Param} (e : l[j]? = some x) : rnParam l j f = f (x.name) (x.kind) (x.hasDefault) (x.dflt) := by simp only [rnParam, e]
theorem vrParam (hV : IsV V) {l : List Param} {j : Nat} {row : List C} (h : (V.rParam l)[j]? = some row) : ∃ x, l[j]? = some x ∧ row = [.str ⟨⟨x.name⟩⟩, .int .i64 x.kind, .bool x.hasDefault, .int .i64 x.dflt] := by
 rw [hV.rParam, List.getElem?_map, Option.map_eq_some_iff] at h
 obtain ⟨x, hx, rfl⟩ := h
 exact ⟨x, hx, by simp only [ eParam]⟩
theorem wParam (hV : IsV V) (l : List Param) : ∀ row ∈ V.rParam l, row.length = 4 := by
 intro row h; rw [hV.rParam] at h; obtain ⟨x, _, rfl⟩ := List.mem_map.1 h; rfl
theorem plRParam (hV : IsV V) (l : List Param) : (V.rParam l).all (List.all · plain1) = true := by
 rw [hV.rParam, List.all_map, List.all_eq_true]; intro x _; rfl
theorem nrParam (hV : IsV V) (l : List Param) : V.nParam l = (V.rParam l).length := by rw [hV.nParam, hV.rParam, List.length_map]
theorem nrsParam (hV : IsV V) {l k : List Param} (h : V.nParam k = V.nParam l) : V.nParam l = (V.rParam k).length := by rw [← h, nrParam hV]
theorem clParam (hV : IsV V) (l : List Param) : ∀ row ∈ V.rParam l, row.all closedCell = true := by
 intro row h; rw [hV.rParam] at h; obtain ⟨x, _, rfl⟩ := List.mem_map.1 h; rfl
theorem s_ixParam (hV : IsV V) {l : List Param} {n : Int} {f : Str → Int → Bool → Int → Option R} {K : List C → Prop} (H : ixParam l n f = some r) (h : ∀ c0 c1 c2 c3, f c0 c1 c2 c3 = some r → K [.str ⟨⟨c0⟩⟩, .int .i64 c1, .bool c2, .int .i64 c3]) : (Side → 0 ≤ n ∧ n.toNat < (V.rParam l).length) ∧ ∀ (j : Nat) (row : List C), j = n.toNat → (V.rParam l)[j]? = some row → K row := by
 unfold ixParam at H
 cases e : l[n.toNat]? with
 | none => rw [e] at H; cases H
 | some x =>
  rw [e] at H
  simp only at H
  by_cases hn : 0 ≤ n
  ·rw [if_pos hn] at H
   refine ⟨fun _ => ⟨hn, by rw [hV.rParam, List.length_map]; exact (List.getElem?_eq_some_iff.1 e).1⟩, ?_⟩
   rintro j row rfl hr
   obtain ⟨y, hy, rfl⟩ := vrParam hV hr
   rw [e] at hy; cases hy
   exact h _ _ _ _ H
  ·rw [if_neg hn] at H; cases H
theorem s_rnParam (hV : IsV V) {l : List Param} {j : Nat} {f : Str → Int → Bool → Int → Option R} {K : List C → Prop} (H : rnParam l j f = some r) (h : ∀ c0 c1 c2 c3, f c0 c1 c2 c3 = some r → K [.str ⟨⟨c0⟩⟩, .int .i64 c1, .bool c2, .int .i64 c3]) : (Side → j < (V.rParam l).length) ∧ ∀ (row : List C), (V.rParam l)[j]? = some row → K row := by
 unfold rnParam at H
 cases e : l[j]? with
 | none => rw [e] at H; cases H
 | some x =>
  rw [e] at H
  simp only at H
  refine ⟨fun _ => by rw [hV.rParam, List.length_map]; exact (List.getElem?_eq_some_iff.1 e).1, ?_⟩
  rintro row hr
  obtain ⟨y, hy, rfl⟩ := vrParam hV hr
  rw [e] at hy; cases hy
  exact h _ _ _ _ H
theorem s_setParam (hV : IsV V) {l : List Param} {j : Nat} {c0 : Str} {c1 : Int} {c2 : Bool} {c3 : Int} {f : List Param → Option R} {K : List (List C) → Prop} (H : lv (l.set j ⟨c0, c1, c2, c3⟩) f = some r) (h : ∀ l', V.nParam l' = V.nParam l → f l' = some r → K (V.rParam l')) : ∀ zs, zs = (V.rParam l).set j [.str ⟨⟨c0⟩⟩, .int .i64 c1, .bool c2, .int .i64 c3] → K zs := by
 rintro zs rfl
 have := h _ (by rw [hV.nParam, hV.nParam, List.length_set]) H
 rw [hV.rParam, List.map_set] at this
 rw [hV.rParam]; exact this
theorem s_apParam (hV : IsV V) {l : List Param} {c0 : Str} {c1 : Int} {c2 : Bool} {c3 : Int} {f : List Param → Option R} {K : List (List C) → Nat → Prop} (H : lv (l ++ [⟨c0, c1, c2, c3⟩]) f = some r) (h : ∀ l', f l' = some r → K (V.rParam l') (V.nParam l')) : ∀ zs, zs = List.take (V.nParam l) (List.drop 0 (V.rParam l)) ++ [[.str ⟨⟨c0⟩⟩, .int .i64 c1, .bool c2, .int .i64 c3]] → ∀ m, m = zs.length → K zs m :=
 s_apG hV.rParam hV.nParam (ys := [⟨c0, c1, c2, c3⟩]) (by simp [eParam]) H h
theorem s_bnParam (hV : IsV V) {c0 : Str} {c1 : Int} {c2 : Bool} {c3 : Int} {f : List Param → Option R} {K : List (List C) → Nat → Prop} (H : lv [⟨c0, c1, c2, c3⟩] f = some r) (h : ∀ l', f l' = some r → K (V.rParam l') (V.nParam l')) : ∀ zs, zs = [[.str ⟨⟨c0⟩⟩, .int .i64 c1, .bool c2, .int .i64 c3]] → ∀ m, m = zs.length → K zs m :=
 s_anG hV.rParam hV.nParam (ys := [⟨c0, c1, c2, c3⟩]) (by simp [eParam]) H h
end
section
variable {R : Type} {r : R} {V : Vx}
def ixSig (l : List Sig) (n : Int) (f : List Param → Option R) : Option R := match l[n.toNat]? with | some x => if 0 ≤ n then f (x.params) else none | none => none
def rnSig (l : List Sig) (j : Nat) (f : List Param → Option R) : Option R := match l[j]? with | some x => f (x.params) | none => none
theorem ixSig_ok {l : List Sig} {n : Int} {f : List Param → Option R} {x : Sig} (h : 0 ≤ n) (e : l[n.toNat]? = some x) : ixSig l n f = f (x.params) := by simp only [ixSig, e, if_pos h]
theorem rnSig_ok {l : List Sig} {j : Nat} {f : List Param → Option R} {x : Sig} (e : l[j]? = some x) : rnSig l j f = f (x.params) := by simp only [rnSig, e]
theorem vrSig (hV : IsV V) {l : List Sig} {j : Nat} {row : List C} (h : (V.rSig l)[j]? = some row) : ∃ x, l[j]? = some x ∧ row = [.sl (V.rParam x.params)] := by
 rw [hV.rSig, List.getElem?_map, Option.map_eq_some_iff] at h
 obtain ⟨x, hx, rfl⟩ := h
 exact ⟨x, hx, by simp only [hV.rParam, eSig]⟩
theorem wSig (hV : IsV V) (l : List Sig) : ∀ row ∈ V.rSig l, row.length = 1 := by
 intro row h; rw [hV.rSig] at h; obtain ⟨x, _, rfl⟩ := List.mem_map.1 h; rfl
theorem nrSig (hV : IsV V) (l : List Sig) : V.nSig l = (V.rSig l).length := by rw [hV.nSig, hV.rSig, List.length_map]
theorem nrsSig (hV : IsV V) {l k : List Sig} (h : V.nSig k = V.nSig l) : V.nSig l = (V.rSig k).length := by rw [← h, nrSig hV]
theorem clSig (hV : IsV V) (l : List Sig) : ∀ row ∈ V.rSig l, row.all closedCell = true := by
 intro row h; rw [hV.rSig] at h; obtain ⟨x, _, rfl⟩ := List.mem_map.1 h; rfl
theorem s_ixSig (hV : IsV V) {l : List Sig} {n : Int} {f : List Param → Option R} {K : List C → Prop} (H : ixSig l n f = some r) (h : ∀ c0, f c0 = some r → K [.sl (V.rParam c0)]) : (Side → 0 ≤ n ∧ n.toNat < (V.rSig l).length) ∧ ∀ (j : Nat) (row : List C), j = n.toNat → (V.rSig l)[j]? = some row → K row := by
 unfold ixSig at H
 cases e : l[n.toNat]? with
 | none => rw [e] at H; cases H
 | some x =>
  rw [e] at H
  simp only at H
  by_cases hn : 0 ≤ n
  ·rw [if_pos hn] at H
   refine ⟨fun _ => ⟨hn, by rw [hV.rSig, List.length_map]; exact (List.getElem?_eq_some_iff.1 e).1⟩, ?_⟩
   rintro j row rfl hr
   obtain ⟨y, hy, rfl⟩ := vrSig hV hr
   rw [e] at hy; cases hy
   exact h _ H
  ·rw [if_neg hn] at H; cases H
theorem s_rnSig (hV : IsV V) {l : List Sig} {j : Nat} {f : List Param → Option R} {K : List C → Prop} (H : rnSig l j f = some r) (h : ∀ c0, f c0 = some r → K [.sl (V.rParam c0)]) : (Side → j < (V.rSig l).length) ∧ ∀ (row : List C), (V.rSig l)[j]? = some row → K row := by
 unfold rnSig at H
 cases e : l[j]? with
 | none => rw [e] at H; cases H
 | some x =>
  rw [e] at H
  simp only at H
  refine ⟨fun _ => by rw [hV.rSig, List.length_map]; exact (List.getElem?_eq_some_iff.1 e).1, ?_⟩
  rintro row hr
  obtain ⟨y, hy, rfl⟩ := vrSig hV hr
  rw [e] at hy; cases hy
  exact h _ H
theorem s_setSig (hV : IsV V) {l : List Sig} {j : Nat} {c0 : List Param} {f : List Sig → Option R} {K : List (List C) → Prop} (H : lv (l.set j ⟨c0⟩) f = some r) (h : ∀ l', V.nSig l' = V.nSig l → f l' = some r → K (V.rSig l')) : ∀ zs, zs = (V.rSig l).set j [.sl (V.rParam c0)] → K zs := by
 rintro zs rfl
 have := h _ (by rw [hV.nSig, hV.nSig, List.length_set]) H
 rw [hV.rSig, List.map_set] at this
 rw [hV.rSig]; simp only [hV.rParam]; exact this
theorem s_apZSig (hV : IsV V) {l : List Sig} {c0 : List Param} {row : List C} {f : List Sig → Option R} {K : List (List C) → Nat → Prop} (H : lv (l ++ [⟨c0⟩]) f = some r) (h : ∀ (l' : List Sig) (k : Nat), f l' = some r → (∀ r', (V.rSig l')[k]? = some r' → r' = [.sl (V.rParam c0)]) → ∀ zs, zs = (V.rSig l').set k row → K zs (V.nSig l')) : ∀ zs, zs = List.take (V.nSig l) (List.drop 0 (V.rSig l)) ++ [row] → ∀ m, m = zs.length → K zs m := by
 rintro zs rfl m rfl
 have e1 : V.rSig (l ++ [⟨c0⟩]) = l.map eSig ++ [[.sl (V.rParam c0)]] := by rw [hV.rSig, List.map_append]; simp [eSig, hV.rParam]
 have H : f (l ++ [⟨c0⟩]) = some r := H
 have := h _ l.length H (fun r' hr' => by rw [e1] at hr'; simpa using hr'.symm) _ rfl
 rw [e1, hV.nSig] at this
 simpa [hV.nSig, hV.rSig, List.take_of_length_le, List.set_append] using this
theorem s_bnZSig (hV : IsV V) {c0 : List Param} {row : List C} {f : List Sig → Option R} {K : List (List C) → Nat → Prop} (H : lv [⟨c0⟩] f = some r) (h : ∀ (l' : List Sig) (k : Nat), f l' = some r → (∀ r', (V.rSig l')[k]? = some r' → r' = [.sl (V.rParam c0)]) → ∀ zs, zs = (V.rSig l').set k row → K zs (V.nSig l')) : ∀ zs, zs = [row] → ∀ m, m = zs.length → K zs m := by
 rintro zs rfl m rfl
 have e1 : V.rSig [⟨c0⟩] = [[.sl (V.rParam c0)]] := by rw [hV.rSig]; simp [eSig, hV.rParam]
 have H : f [⟨c0⟩] = some r := H
 have := h _ 0 H (fun r' hr' => by rw [e1] at hr'; simpa using hr'.symm) _ rfl
 rw [e1, hV.nSig] at this
 simpa [] using this
theorem s_a0ZSig (hV : IsV V) {c0 : List Param} {row : List C} {f : List Sig → Option R} {K : List (List C) → Nat → Prop} (H : lv ([] ++ [⟨c0⟩]) f = some r) (h : ∀ (l' : List Sig) (k : Nat), f l' = some r → (∀ r', (V.rSig l')[k]? = some r' → r' = [.sl (V.rParam c0)]) → ∀ zs, zs = (V.rSig l').set k row → K zs (V.nSig l')) : ∀ zs, zs = List.take 0 (List.drop 0 []) ++ [row] → ∀ m, m = zs.length → K zs m := by
 rintro zs rfl m rfl
 have e1 : V.rSig [⟨c0⟩] = [[.sl (V.rParam c0)]] := by rw [hV.rSig]; simp [eSig, hV.rParam]
 have H : f [⟨c0⟩] = some r := H
 have := h _ 0 H (fun r' hr' => by rw [e1] at hr'; simpa using hr'.symm) _ rfl
 rw [e1, hV.nSig] at this
 simpa [] using this
theorem s_setZSig (hV : IsV V) {l : List Sig} {j : Nat} {c0 : List Param} {row : List C} {f : List Sig → Option R} {K : List (List C) → Prop} (H : lv (l.set j ⟨c0⟩) f = some r) (h : ∀ l' : List Sig, V.nSig l' = V.nSig l → f l' = some r → (∀ r', (V.rSig l')[j]? = some r' → r' = [.sl (V.rParam c0)]) → ∀ zs, zs = (V.rSig l').set j row → K zs) : ∀ zs, zs = (V.rSig l).set j row → K zs := by
 rintro zs rfl
 have e1 : V.rSig (l.set j ⟨c0⟩) = (V.rSig l).set j [.sl (V.rParam c0)] := by rw [hV.rSig, hV.rSig, List.map_set]; simp [eSig, hV.rParam]
 have := h _ (by rw [hV.nSig, hV.nSig, List.length_set]) H (fun r' hr' => by rw [e1, List.getElem?_set] at hr'; simp at hr'; exact hr'.2.symm) _ rfl
 rw [e1] at this
 simpa using this
end
section
variable {R : Type} {r : R} {V : Vx}
theorem wProb (hV : IsV V) (l : List Prob) : ∀ row ∈ V.rProb l, row.length = 2 := by
 intro row h; rw [hV.rProb] at h; obtain ⟨x, _, rfl⟩ := List.mem_map.1 h; rfl
theorem plRProb (hV : IsV V) (l : List Prob) : (V.rProb l).all (List.all · plain1) = true := by
 rw [hV.rProb, List.all_map, List.all_eq_true]; intro x _; rfl
theorem nrProb (hV : IsV V) (l : List Prob) : V.nProb l = (V.rProb l).length := by rw [hV.nProb, hV.rProb, List.length_map]
theorem nrsProb (hV : IsV V) {l k : List Prob} (h : V.nProb k = V.nProb l) : V.nProb l = (V.rProb k).length := by rw [← h, nrProb hV]
theorem clProb (hV : IsV V) (l : List Prob) : ∀ row ∈ V.rProb l, row.all closedCell = true := by
 intro row h; rw [hV.rProb] at h; obtain ⟨x, _, rfl⟩ := List.mem_map.1 h; rfl
theorem s_setProb (hV : IsV V) {l : List Prob} {j : Nat} {c0 : Int} {c1 : Str} {f : List Prob → Option R} {K : List (List C) → Prop} (H : lv (l.set j ⟨c0, c1⟩) f = some r) (h : ∀ l', V.nProb l' = V.nProb l → f l' = some r → K (V.rProb l')) : ∀ zs, zs = (V.rProb l).set j [.int .i64 c0, .str ⟨⟨c1⟩⟩] → K zs := by
 rintro zs rfl
 have := h _ (by rw [hV.nProb, hV.nProb, List.length_set]) H
 rw [hV.rProb, List.map_set] at this
 rw [hV.rProb]; exact this
theorem s_apProb (hV : IsV V) {l : List Prob} {c0 : Int} {c1 : Str} {f : List Prob → Option R} {K : List (List C) → Nat → Prop} (H : lv (l ++ [⟨c0, c1⟩]) f = some r) (h : ∀ l', f l' = some r → K (V.rProb l') (V.nProb l')) : ∀ zs, zs = List.take (V.nProb l) (List.drop 0 (V.rProb l)) ++ [[.int .i64 c0, .str ⟨⟨c1⟩⟩]] → ∀ m, m = zs.length → K zs m :=
 s_apG hV.rProb hV.nProb (ys := [⟨c0, c1⟩]) (by simp [eProb]) H h
theorem s_bnProb (hV : IsV V) {c0 : Int} {c1 : Str} {f : List Prob → Option R} {K : List (List C) → Nat → Prop} (H : lv [⟨c0, c1⟩] f = some r) (h : ∀ l', f l' = some r → K (V.rProb l') (V.nProb l')) : ∀ zs, zs = [[.int .i64 c0, .str ⟨⟨c1⟩⟩]] → ∀ m, m = zs.length → K zs m :=
 s_anG hV.rProb hV.nProb (ys := [⟨c0, c1⟩]) (by simp [eProb]) H h
end
section
variable {R : Type} {r : R} {V : Vx}
def ixSlot (l : List Slot) (n : Int) (f : Bool → List Int → List Pair → Option R) : Option R := match l[n.toNat]? with | some x => if 0 ≤ n then f (x.given) (x.list) (x.pairs) else none | none => none
def rnSlot (l : List Slot) (j : Nat) (f : Bool → List Int → List Pair → Option R) : Option R := match l[j]? with | some x => f (x.given) (x.list) (x.pairs) | none => none
theorem ixSlot_ok {l : List Slot} {n : Int} {f : Bool → List Int → List Pair → Option R} {x : Slot} (h : 0 ≤ n) (e : l[n.toNat]? = some x) : ixSlot l n f = f (x.given) (x.list) (x.pairs) := by simp only [ixSlot, e, if_pos h]
theorem rnSlot_ok {l : List Slot} {j : Nat} {f : Bool → List Int → List Pair → Option R} {x : Slot} (e : l[j]? = some x) : rnSlot l j f = f (x.given) (x.list) (x.pairs) := by simp only [rnSlot, e]
theorem vrSlot (hV : IsV V) {l : List Slot} {j : Nat} {row : List C} (h : (V.rSlot l)[j]? = some row) : ∃ x, l[j]? = some x ∧ row = [.bool x.given, .sl (V.rI x.list), .sl (V.rPair x.pairs)] := by
 rw [hV.rSlot, List.getElem?_map, Option.map_eq_some_iff] at h
 obtain ⟨x, hx, rfl⟩ := h
 exact ⟨x, hx, by simp only [hV.rI, hV.rPair, eSlot]⟩
theorem wSlot (hV : IsV V) (l : List Slot) : ∀ row ∈ V.rSlot l, row.length = 3 := by
 intro row h; rw [hV.rSlot] at h; obtain ⟨x, _, rfl⟩ := List.mem_map.1 h; rfl
theorem nrSlot (hV : IsV V) (l : List Slot) : V.nSlot l = (V.rSlot l).length := by rw [hV.nSlot, hV.rSlot, List.length_map]
theorem nrsSlot (hV : IsV V) {l k : List Slot} (h : V.nSlot k = V.nSlot l) : V.nSlot l = (V.rSlot k).length := by rw [← h, nrSlot hV]
theorem clSlot (hV : IsV V) (l : List Slot) : ∀ row ∈ V.rSlot l, row.all closedCell = true := by
 intro row h; rw [hV.rSlot] at h; obtain ⟨x, _, rfl⟩ := List.mem_map.1 h; rfl
theorem s_ixSlot (hV : IsV V) {l : List Slot} {n : Int} {f : Bool → List Int → List Pair → Option R} {K : List C → Prop} (H : ixSlot l n f = some r) (h : ∀ c0 c1 c2, f c0 c1 c2 = some r → K [.bool c0, .sl (V.rI c1), .sl (V.rPair c2)]) : (Side → 0 ≤ n ∧ n.toNat < (V.rSlot l).length) ∧ ∀ (j : Nat) (row : List C), j = n.toNat → (V.rSlot l)[j]? = some row → K row := by
 unfold ixSlot at H
 cases e : l[n.toNat]? with
 | none => rw [e] at H; cases H
 | some x =>
  rw [e] at H
  simp only at H
  by_cases hn : 0 ≤ n
  ·rw [if_pos hn] at H
   refine ⟨fun _ => ⟨hn, by rw [hV.rSlot, List.length_map]; exact (List.getElem?_eq_some_iff.1 e).1⟩, ?_⟩
   rintro j row rfl hr
   obtain ⟨y, hy, rfl⟩ := vrSlot hV hr
   rw [e] at hy; cases hy
   exact h _ _ _ H
  ·rw [if_neg hn] at H; cases H
theorem s_rnSlot (hV : IsV V) {l : List Slot} {j : Nat} {f : Bool → List Int → List Pair → Option R} {K : List C → Prop} (H : rnSlot l j f = some r) (h : ∀ c0 c1 c2, f c0 c1 c2 = some r → K [.bool c0, .sl (V.rI c1), .sl (V.rPair c2)]) : (Side → j < (V.rSlot l).length) ∧ ∀ (row : List C), (V.rSlot l)[j]? = some row → K row := by
 unfold rnSlot at H
 cases e : l[j]? with
 | none => rw [e] at H; cases H
 | some x =>
  rw [e] at H
  simp only at H
  refine ⟨fun _ => by rw [hV.rSlot, List.length_map]; exact (List.getElem?_eq_some_iff.1 e).1, ?_⟩
  rintro row hr
  obtain ⟨y, hy, rfl⟩ := vrSlot hV hr
  rw [e] at hy; cases hy
  exact h _ _ _ H
theorem s_setSlot (hV : IsV V) {l : List Slot} {j : Nat} {c0 : Bool} {c1 : List Int} {c2 : List Pair} {f : List Slot → Option R} {K : List (List C) → Prop} (H : lv (l.set j ⟨c0, c1, c2⟩) f = some r) (h : ∀ l', V.nSlot l' = V.nSlot l → f l' = some r → K (V.rSlot l')) : ∀ zs, zs = (V.rSlot l).set j [.bool c0, .sl (V.rI c1), .sl (V.rPair c2)] → K zs := by
 rintro zs rfl
 have := h _ (by rw [hV.nSlot, hV.nSlot, List.length_set]) H
 rw [hV.rSlot, List.map_set] at this
 rw [hV.rSlot]; simp only [hV.rI, hV.rPair]; exact this
theorem s_apZSlot (hV : IsV V) {l : List Slot} {c0 : Bool} {c1 : List Int} {c2 : List Pair} {row : List C} {f : List Slot → Option R} {K : List (List C) → Nat → Prop} (H : lv (l ++ [⟨c0, c1, c2⟩]) f = some r) (h : ∀ (l' : List Slot) (k : Nat), f l' = some r → (∀ r', (V.rSlot l')[k]? = some r' → r' = [.bool c0, .sl (V.rI c1), .sl (V.rPair c2)]) → ∀ zs, zs = (V.rSlot l').set k row → K zs (V.nSlot l')) : ∀ zs, zs = List.take (V.nSlot l) (List.drop 0 (V.rSlot l)) ++ [row] → ∀ m, m = zs.length → K zs m := by
 rintro zs rfl m rfl
 have e1 : V.rSlot (l ++ [⟨c0, c1, c2⟩]) = l.map eSlot ++ [[.bool c0, .sl (V.rI c1), .sl (V.rPair c2)]] := by rw [hV.rSlot, List.map_append]; simp [eSlot, hV.rI, hV.rPair]
 have H : f (l ++ [⟨c0, c1, c2⟩]) = some r := H
 have := h _ l.length H (fun r' hr' => by rw [e1] at hr'; simpa using hr'.symm) _ rfl
 rw [e1, hV.nSlot] at this
 simpa [hV.nSlot, hV.rSlot, List.take_of_length_le, List.set_append] using this
theorem s_bnZSlot (hV : IsV V) {c0 : Bool} {c1 : List Int} {c2 : List Pair} {row : List C} {f : List Slot → Option R} {K : List (List C) → Nat → Prop} (H : lv [⟨c0, c1, c2⟩] f = some r) (h : ∀ (l' : List Slot) (k : Nat), f l' = some r → (∀ r', (V.rSlot l')[k]? = some r' → r' = [.bool c0, .sl (V.rI c1), .sl (V.rPair c2)]) → ∀ zs, zs = (V.rSlot l').set k row → K zs (V.nSlot l')) : ∀ zs, zs = [row] → ∀ m, m = zs.length → K zs m := by
 rintro zs rfl m rfl
 have e1 : V.rSlot [⟨c0, c1, c2⟩] = [[.bool c0, .sl (V.rI c1), .sl (V.rPair c2)]] := by rw [hV.rSlot]; simp [eSlot, hV.rI, hV.rPair]
 have H : f [⟨c0, c1, c2⟩] = some r := H
 have := h _ 0 H (fun r' hr' => by rw [e1] at hr'; simpa using hr'.symm) _ rfl
 rw [e1, hV.nSlot] at this
 simpa [] using this
theorem s_a0ZSlot (hV : IsV V) {c0 : Bool} {c1 : List Int} {c2 : List Pair} {row : List C} {f : List Slot → Option R} {K : List (List C) → Nat → Prop} (H : lv ([] ++ [⟨c0, c1, c2⟩]) f = some r) (h : ∀ (l' : List Slot) (k : Nat), f l' = some r → (∀ r', (V.rSlot l')[k]? = some r' → r' = [.bool c0, .sl (V.rI c1), .sl (V.rPair c2)]) → ∀ zs, zs = (V.rSlot l').set k row → K zs (V.nSlot l')) : ∀ zs, zs = List.take 0 (List.drop 0 []) ++ [row] → ∀ m, m = zs.length → K zs m := by
 rintro zs rfl m rfl
 have e1 : V.rSlot [⟨c0, c1, c2⟩] = [[.bool c0, .sl (V.rI c1), .sl (V.rPair c2)]] := by rw [hV.rSlot]; simp [eSlot, hV.rI, hV.rPair]
 have H : f [⟨c0, c1, c2⟩] = some r := H
 have := h _ 0 H (fun r' hr' => by rw [e1] at hr'; simpa using hr'.symm) _ rfl
 rw [e1, hV.nSlot] at this
 simpa [] using this
theorem s_setZSlot (hV : IsV V) {l : List Slot} {j : Nat} {c0 : Bool} {c1 : List Int} {c2 : List Pair} {row : List C} {f : List Slot → Option R} {K : List (List C) → Prop} (H : lv (l.set j ⟨c0, c1, c2⟩) f = some r) (h : ∀ l' : List Slot, V.nSlot l' = V.nSlot l → f l' = some r → (∀ r', (V.rSlot l')[j]? = some r' → r' = [.bool c0, .sl (V.rI c1), .sl (V.rPair c2)]) → ∀ zs, zs = (V.rSlot l').set j row → K zs) : ∀ zs, zs = (V.rSlot l).set j row → K zs := by
 rintro zs rfl
 have e1 : V.rSlot (l.set j ⟨c0, c1, c2⟩) = (V.rSlot l).set j [.bool c0, .sl (V.rI c1), .sl (V.rPair c2)] := by rw [hV.rSlot, hV.rSlot, List.map_set]; simp [eSlot, hV.rI, hV.rPair]
 have := h _ (by rw [hV.nSlot, hV.nSlot, List.length_set]) H (fun r' hr' => by rw [e1, List.getElem?_set] at hr'; simp at hr'; exact hr'.2.symm) _ rfl
 rw [e1] at this
 simpa using this
theorem s_apSlot (hV : IsV V) {l : List Slot} {c0 : Bool} {c1 : List Int} {c2 : List Pair} {f : List Slot → Option R} {K : List (List C) → Nat → Prop} (H : lv (l ++ [⟨c0, c1, c2⟩]) f = some r) (h : ∀ l', f l' = some r → K (V.rSlot l') (V.nSlot l')) : ∀ zs, zs = List.take (V.nSlot l) (List.drop 0 (V.rSlot l)) ++ [[.bool c0, .sl (V.rI c1), .sl (V.rPair c2)]] → ∀ m, m = zs.length → K zs m :=
 s_apG hV.rSlot hV.nSlot (ys := [⟨c0, c1, c2⟩]) (by simp [eSlot, hV.rI, hV.rPair]) H h
theorem s_bnSlot (hV : IsV V) {c0 : Bool} {c1 : List Int} {c2 : List Pair} {f : List Slot → Option R} {K : List (List C) → Nat → Prop} (H : lv [⟨c0, c1, c2⟩] f = some r) (h : ∀ l', f l' = some r → K (V.rSlot l') (V.nSlot l')) : ∀ zs, zs = [[.bool c0, .sl (V.rI c1), .sl (V.rPair c2)]] → ∀ m, m = zs.length → K zs m :=
 s_anG hV.rSlot hV.nSlot (ys := [⟨c0, c1, c2⟩]) (by simp [eSlot, hV.rI, hV.rPair]) H h
end
section
variable {R : Type} {r : R} {V : Vx}
theorem wPlace (hV : IsV V) (l : List Place) : ∀ row ∈ V.rPlace l, row.length = 2 := by
 intro row h; rw [hV.rPlace] at h; obtain ⟨x, _, rfl⟩ := List.mem_map.1 h; rfl
theorem nrPlace (hV : IsV V) (l : List Place) : V.nPlace l = (V.rPlace l).length := by rw [hV.nPlace, hV.rPlace, List.length_map]
theorem nrsPlace (hV : IsV V) {l k : List Place} (h : V.nPlace k = V.nPlace l) : V.nPlace l = (V.rPlace k).length := by rw [← h, nrPlace hV]
theorem clPlace (hV : IsV V) (l : List Place) : ∀ row ∈ V.rPlace l, row.all closedCell = true := by
 intro row h; rw [hV.rPlace] at h; obtain ⟨x, _, rfl⟩ := List.mem_map.1 h; rfl
end
section
variable {R : Type} {r : R} {V : Vx}
theorem wTurn (hV : IsV V) (l : List Turn) : ∀ row ∈ V.rTurn l, row.length = 2 := by
 intro row h; rw [hV.rTurn] at h; obtain ⟨x, _, rfl⟩ := List.mem_map.1 h; rfl
theorem nrTurn (hV : IsV V) (l : List Turn) : V.nTurn l = (V.rTurn l).length := by rw [hV.nTurn, hV.rTurn, List.length_map]
theorem nrsTurn (hV : IsV V) {l k : List Turn} (h : V.nTurn k = V.nTurn l) : V.nTurn l = (V.rTurn k).length := by rw [← h, nrTurn hV]
theorem clTurn (hV : IsV V) (l : List Turn) : ∀ row ∈ V.rTurn l, row.all closedCell = true := by
 intro row h; rw [hV.rTurn] at h; obtain ⟨x, _, rfl⟩ := List.mem_map.1 h; rfl
end
section
variable {R : Type} {r : R} {V : Vx}
theorem wFnc (hV : IsV V) (l : List Fnc) : ∀ row ∈ V.rFnc l, row.length = 2 := by
 intro row h; rw [hV.rFnc] at h; obtain ⟨x, _, rfl⟩ := List.mem_map.1 h; rfl
theorem nrFnc (hV : IsV V) (l : List Fnc) : V.nFnc l = (V.rFnc l).length := by rw [hV.nFnc, hV.rFnc, List.length_map]
theorem nrsFnc (hV : IsV V) {l k : List Fnc} (h : V.nFnc k = V.nFnc l) : V.nFnc l = (V.rFnc k).length := by rw [← h, nrFnc hV]
theorem clFnc (hV : IsV V) (l : List Fnc) : ∀ row ∈ V.rFnc l, row.all closedCell = true := by
 intro row h; rw [hV.rFnc] at h; obtain ⟨x, _, rfl⟩ := List.mem_map.1 h; rfl
end
section
variable {R : Type} {r : R} {V : Vx}
def ixTxs (l : List Txs) (n : Int) (f : List Str → Option R) : Option R := match l[n.toNat]? with | some x => if 0 ≤ n then f (x.list) else none | none => none
theorem ixTxs_ok {l : List Txs} {n : Int} {f : List Str → Option R} {x : Txs} (h : 0 ≤ n) (e : l[n.toNat]? = some x) : ixTxs l n f = f (x.list) := by simp only [ixTxs, e, if_pos h]
theorem vrTxs (hV : IsV V) {l : List Txs} {j : Nat} {row : List C} (h : (V.rTxs l)[j]? = some row) : ∃ x, l[j]? = some x ∧ row = [.sl (V.rS x.list)] := by
 rw [hV.rTxs, List.getElem?_map, Option.map_eq_some_iff] at h
 obtain ⟨x, hx, rfl⟩ := h
 exact ⟨x, hx, by simp only [hV.rS, eTxs]⟩
theorem wTxs (hV : IsV V) (l : List Txs) : ∀ row ∈ V.rTxs l, row.length = 1 := by
 intro row h; rw [hV.rTxs] at h; obtain ⟨x, _, rfl⟩ := List.mem_map.1 h; rfl
theorem nrTxs (hV : IsV V) (l : List Txs) : V.nTxs l = (V.rTxs l).length := by rw [hV.nTxs, hV.rTxs, List.length_map]
theorem nrsTxs (hV : IsV V) {l k : List Txs} (h : V.nTxs k = V.nTxs l) : V.nTxs l = (V.rTxs k).length := by rw [← h, nrTxs hV]
theorem clTxs (hV : IsV V) (l : List Txs) : ∀ row ∈ V.rTxs l, row.all closedCell = true := by
 intro row h; rw [hV.rTxs] at h; obtain ⟨x, _, rfl⟩ := List.mem_map.1 h; rfl
theorem s_ixTxs (hV : IsV V) {l : List Txs} {n : Int} {f : List Str → Option R} {K : List C → Prop} (H : ixTxs l n f = some r) (h : ∀ c0, f c0 = some r → K [.sl (V.rS c0)]) : (Side → 0 ≤ n ∧ n.toNat < (V.rTxs l).length) ∧ ∀ (j : Nat) (row : List C), j = n.toNat → (V.rTxs l)[j]? = some row → K row := by
 unfold ixTxs at H
 cases e : l[n.toNat]? with
 | none => rw [e] at H; cases H
 | some x =>
  rw [e] at H
  simp only at H
  by_cases hn : 0 ≤ n
  ·rw [if_pos hn] at H
   refine ⟨fun _ => ⟨hn, by rw [hV.rTxs, List.length_map]; exact (List.getElem?_eq_some_iff.1 e).1⟩, ?_⟩
   rintro j row rfl hr
   obtain ⟨y, hy, rfl⟩ := vrTxs hV hr
   rw [e] at hy; cases hy
   exact h _ H
  ·rw [if_neg hn] at H; cases H
theorem s_apZTxs (hV : IsV V) {l : List Txs} {c0 : List Str} {row : List C} {f : List Txs → Option R} {K : List (List C) → Nat → Prop} (H : lv (l ++ [⟨c0⟩]) f = some r) (h : ∀ (l' : List Txs) (k : Nat), f l' = some r → (∀ r', (V.rTxs l')[k]? = some r' → r' = [.sl (V.rS c0)]) → ∀ zs, zs = (V.rTxs l').set k row → K zs (V.nTxs l')) : ∀ zs, zs = List.take (V.nTxs l) (List.drop 0 (V.rTxs l)) ++ [row] → ∀ m, m = zs.length → K zs m := by
 rintro zs rfl m rfl
 have e1 : V.rTxs (l ++ [⟨c0⟩]) = l.map eTxs ++ [[.sl (V.rS c0)]] := by rw [hV.rTxs, List.map_append]; simp [eTxs, hV.rS]
 have H : f (l ++ [⟨c0⟩]) = some r := H
 have := h _ l.length H (fun r' hr' => by rw [e1] at hr'; simpa using hr'.symm) _ rfl
 rw [e1, hV.nTxs] at this
 simpa [hV.nTxs, hV.rTxs, List.take_of_length_le, List.set_append] using this
theorem s_bnZTxs (hV : IsV V) {c0 : List Str} {row : List C} {f : List Txs → Option R} {K : List (List C) → Nat → Prop} (H : lv [⟨c0⟩] f = some r) (h : ∀ (l' : List Txs) (k : Nat), f l' = some r → (∀ r', (V.rTxs l')[k]? = some r' → r' = [.sl (V.rS c0)]) → ∀ zs, zs = (V.rTxs l').set k row → K zs (V.nTxs l')) : ∀ zs, zs = [row] → ∀ m, m = zs.length → K zs m := by
 rintro zs rfl m rfl
 have e1 : V.rTxs [⟨c0⟩] = [[.sl (V.rS c0)]] := by rw [hV.rTxs]; simp [eTxs, hV.rS]
 have H : f [⟨c0⟩] = some r := H
 have := h _ 0 H (fun r' hr' => by rw [e1] at hr'; simpa using hr'.symm) _ rfl
 rw [e1, hV.nTxs] at this
 simpa [] using this
theorem s_a0ZTxs (hV : IsV V) {c0 : List Str} {row : List C} {f : List Txs → Option R} {K : List (List C) → Nat → Prop} (H : lv ([] ++ [⟨c0⟩]) f = some r) (h : ∀ (l' : List Txs) (k : Nat), f l' = some r → (∀ r', (V.rTxs l')[k]? = some r' → r' = [.sl (V.rS c0)]) → ∀ zs, zs = (V.rTxs l').set k row → K zs (V.nTxs l')) : ∀ zs, zs = List.take 0 (List.drop 0 []) ++ [row] → ∀ m, m = zs.length → K zs m := by
 rintro zs rfl m rfl
 have e1 : V.rTxs [⟨c0⟩] = [[.sl (V.rS c0)]] := by rw [hV.rTxs]; simp [eTxs, hV.rS]
 have H : f [⟨c0⟩] = some r := H
 have := h _ 0 H (fun r' hr' => by rw [e1] at hr'; simpa using hr'.symm) _ rfl
 rw [e1, hV.nTxs] at this
 simpa [] using this
theorem s_apTxs (hV : IsV V) {l : List Txs} {c0 : List Str} {f : List Txs → Option R} {K : List (List C) → Nat → Prop} (H : lv (l ++ [⟨c0⟩]) f = some r) (h : ∀ l', f l' = some r → K (V.rTxs l') (V.nTxs l')) : ∀ zs, zs = List.take (V.nTxs l) (List.drop 0 (V.rTxs l)) ++ [[.sl (V.rS c0)]] → ∀ m, m = zs.length → K zs m :=
 s_apG hV.rTxs hV.nTxs (ys := [⟨c0⟩]) (by simp [eTxs, hV.rS]) H h
theorem s_bnTxs (hV : IsV V) {c0 : List Str} {f : List Txs → Option R} {K : List (List C) → Nat → Prop} (H : lv [⟨c0⟩] f = some r) (h : ∀ l', f l' = some r → K (V.rTxs l') (V.nTxs l')) : ∀ zs, zs = [[.sl (V.rS c0)]] → ∀ m, m = zs.length → K zs m :=
 s_anG hV.rTxs hV.nTxs (ys := [⟨c0⟩]) (by simp [eTxs, hV.rS]) H h
end
section
variable {R : Type} {r : R} {V : Vx}
def ixPrs (l : List Prs) (n : Int) (f : List Param → Option R) : Option R := match l[n.toNat]? with | some x => if 0 ≤ n then f (x.list) else none | none => none
theorem ixPrs_ok {l : List Prs} {n : Int} {f : List Param → Option R} {x : Prs} (h : 0 ≤ n) (e : l[n.toNat]? = some x) : ixPrs l n f = f (x.list) := by simp only [ixPrs, e, if_pos h]
theorem vrPrs (hV : IsV V) {l : List Prs} {j : Nat} {row : List C} (h : (V.rPrs l)[j]? = some row) : ∃ x, l[j]? = some x ∧ row = [.sl (V.rParam x.list)] := by
 rw [hV.rPrs, List.getElem?_map, Option.map_eq_some_iff] at h
 obtain ⟨x, hx, rfl⟩ := h
 exact ⟨x, hx, by simp only [hV.rParam, ePrs]⟩
theorem wPrs (hV : IsV V) (l : List Prs) : ∀ row ∈ V.rPrs l, row.length = 1 := by
 intro row h; rw [hV.rPrs] at h; obtain ⟨x, _, rfl⟩ := List.mem_map.1 h; rfl
theorem nrPrs (hV : IsV V) (l : List Prs) : V.nPrs l = (V.rPrs l).length := by rw [hV.nPrs, hV.rPrs, List.length_map]
theorem nrsPrs (hV : IsV V) {l k : List Prs} (h : V.nPrs k = V.nPrs l) : V.nPrs l = (V.rPrs k).length := by rw [← h, nrPrs hV]
theorem clPrs (hV : IsV V) (l : List Prs) : ∀ row ∈ V.rPrs l, row.all closedCell = true := by
 intro row h; rw [hV.rPrs] at h; obtain ⟨x, _, rfl⟩ := List.mem_map.1 h; rfl
theorem s_ixPrs (hV : IsV V) {l : List Prs} {n : Int} {f : List Param → Option R} {K : List C → Prop} (H : ixPrs l n f = some r) (h : ∀ c0, f c0 = some r → K [.sl (V.rParam c0)]) : (Side → 0 ≤ n ∧ n.toNat < (V.rPrs l).length) ∧ ∀ (j : Nat) (row : List C), j = n.toNat → (V.rPrs l)[j]? = some row → K row := by
 unfold ixPrs at H
 cases e : l[n.toNat]? with
 | none => rw [e] at H; cases H
 | some x =>
  rw [e] at H
  simp only at H
  by_cases hn : 0 ≤ n
  ·rw [if_pos hn] at H
   refine ⟨fun _ => ⟨hn, by rw [hV.rPrs, List.length_map]; exact (List.getElem?_eq_some_iff.1 e).1⟩, ?_⟩
   rintro j row rfl hr
   obtain ⟨y, hy, rfl⟩ := vrPrs hV hr
   rw [e] at hy; cases hy
   exact h _ H
  ·rw [if_neg hn] at H; cases H
theorem s_apZPrs (hV : IsV V) {l : List Prs} {c0 : List Param} {row : List C} {f : List Prs → Option R} {K : List (List C) → Nat → Prop} (H : lv (l ++ [⟨c0⟩]) f = some r) (h : ∀ (l' : List Prs) (k : Nat), f l' = some r → (∀ r', (V.rPrs l')[k]? = some r' → r' = [.sl (V.rParam c0)]) → ∀ zs, zs = (V.rPrs l').set k row → K zs (V.nPrs l')) : ∀ zs, zs = List.take (V.nPrs l) (List.drop 0 (V.rPrs l)) ++ [row] → ∀ m, m = zs.length → K zs m := by
 rintro zs rfl m rfl
 have e1 : V.rPrs (l ++ [⟨c0⟩]) = l.map ePrs ++ [[.sl (V.rParam c0)]] := by rw [hV.rPrs, List.map_append]; simp [ePrs, hV.rParam]
 have H : f (l ++ [⟨c0⟩]) = some r := H
 have := h _ l.length H (fun r' hr' => by rw [e1] at hr'; simpa using hr'.symm) _ rfl
 rw [e1, hV.nPrs] at this
 simpa [hV.nPrs, hV.rPrs, List.take_of_length_le, List.set_append] using this
theorem s_bnZPrs (hV : IsV V) {c0 : List Param} {row : List C} {f : List Prs → Option R} {K : List (List C) → Nat → Prop} (H : lv [⟨c0⟩] f = some r) (h : ∀ (l' : List Prs) (k : Nat), f l' = some r → (∀ r', (V.rPrs l')[k]? = some r' → r' = [.sl (V.rParam c0)]) → ∀ zs, zs = (V.rPrs l').set k row → K zs (V.nPrs l')) : ∀ zs, zs = [row] → ∀ m, m = zs.length → K zs m := by
 rintro zs rfl m rfl
 have e1 : V.rPrs [⟨c0⟩] = [[.sl (V.rParam c0)]] := by rw [hV.rPrs]; simp [ePrs, hV.rParam]
 have H : f [⟨c0⟩] = some r := H
 have := h _ 0 H (fun r' hr' => by rw [e1] at hr'; simpa using hr'.symm) _ rfl
 rw [e1, hV.nPrs] at this
 simpa [] using this
theorem s_a0ZPrs (hV : IsV V) {c0 : List Param} {row : List C} {f : List Prs → Option R} {K : List (List C) → Nat → Prop} (H : lv ([] ++ [⟨c0⟩]) f = some r) (h : ∀ (l' : List Prs) (k : Nat), f l' = some r → (∀ r', (V.rPrs l')[k]? = some r' → r' = [.sl (V.rParam c0)]) → ∀ zs, zs = (V.rPrs l').set k row → K zs (V.nPrs l')) : ∀ zs, zs = List.take 0 (List.drop 0 []) ++ [row] → ∀ m, m = zs.length → K zs m := by
 rintro zs rfl m rfl
 have e1 : V.rPrs [⟨c0⟩] = [[.sl (V.rParam c0)]] := by rw [hV.rPrs]; simp [ePrs, hV.rParam]
 have H : f [⟨c0⟩] = some r := H
 have := h _ 0 H (fun r' hr' => by rw [e1] at hr'; simpa using hr'.symm) _ rfl
 rw [e1, hV.nPrs] at this
 simpa [] using this
theorem s_apPrs (hV : IsV V) {l : List Prs} {c0 : List Param} {f : List Prs → Option R} {K : List (List C) → Nat → Prop} (H : lv (l ++ [⟨c0⟩]) f = some r) (h : ∀ l', f l' = some r → K (V.rPrs l') (V.nPrs l')) : ∀ zs, zs = List.take (V.nPrs l) (List.drop 0 (V.rPrs l)) ++ [[.sl (V.rParam c0)]] → ∀ m, m = zs.length → K zs m :=
 s_apG hV.rPrs hV.nPrs (ys := [⟨c0⟩]) (by simp [ePrs, hV.rParam]) H h
theorem s_bnPrs (hV : IsV V) {c0 : List Param} {f : List Prs → Option R} {K : List (List C) → Nat → Prop} (H : lv [⟨c0⟩] f = some r) (h : ∀ l', f l' = some r → K (V.rPrs l') (V.nPrs l')) : ∀ zs, zs = [[.sl (V.rParam c0)]] → ∀ m, m = zs.length → K zs m :=
 s_anG hV.rPrs hV.nPrs (ys := [⟨c0⟩]) (by simp [ePrs, hV.rParam]) H h
end
def idxOr (i : Int) : Option Nat → Int
 | some k => i + k
 | none => -1
theorem idxOr_cons {α : Type} (p : α → Bool) (x : α) (r : List α) (i : Int) : idxOr i ((x :: r).findIdx? p) = if p x = true then i else idxOr (i + 1) (r.findIdx? p) := by
 rw [List.findIdx?_cons]
 split
 ·simp [idxOr]
 ·cases r.findIdx? p with
  | none => rfl
  | some k => simp [idxOr]; omega
def findI {α : Type} (p : α → Bool) (l : List α) : Int := idxOr 0 (l.findIdx? p)
theorem findI_range {α : Type} (p : α → Bool) (l : List α) : -1 ≤ findI p l ∧ findI p l < l.length ∨ l = [] ∧ findI p l = -1 := by
 unfold findI
 cases h : l.findIdx? p with
 | none => cases l <;> simp [idxOr]; omega
 | some k => have := (List.findIdx?_eq_some_iff_getElem.1 h).1; left; simp only [idxOr]; omega
theorem findI_nn {α : Type} (p : α → Bool) (l : List α) : (0 ≤ findI p l) = (l.any p = true) := by
 unfold findI
 cases h : l.findIdx? p with
 | none => simp only [idxOr]; rw [List.findIdx?_eq_none_iff] at h; simp; exact h
 | some k =>
  obtain ⟨hk, hp, _⟩ := List.findIdx?_eq_some_iff_getElem.1 h
  simp only [idxOr, eq_iff_iff, List.any_eq_true]
  exact ⟨fun _ => ⟨_, List.getElem_mem hk, hp⟩, fun _ => by omega⟩
theorem take_snoc {α : Type} {l : List α} {k : Nat} {x : α} (h : l[k]? = some x) : l.take (k + 1) = l.take k ++ [x] := by rw [List.take_add_one, h]; rfl
theorem map_take_snoc {α β : Type} {f : α → β} {l : List α} {i : Int} {x : α} (h0 : 0 ≤ i) (h : l[i.toNat]? = some x) : (l.take i.toNat).map f ++ [f x] = (l.take (i + 1).toNat).map f := by
 rw [show (i + 1).toNat = i.toNat + 1 by omega, take_snoc h, List.map_append]; rfl
theorem take_len {α : Type} {l : List α} {i : Int} (h : i = l.length) : l.take i.toNat = l := List.take_of_length_le (by omega)
theorem map_take_le {α β : Type} {f : α → β} {l : List α} {k : Nat} : ((l.take k).map f).length ≤ l.length := by rw [List.length_map, List.length_take]; omega
theorem gD {l : List UInt8} {k : Nat} {x : UInt8} (h : l[k]? = some x) : l.getD k 0 = x := by rw [List.getD_eq_getElem?_getD, h]; rfl
def rgI {S α : Type} (l : List α) (idx : S → Int) (I : S → Prop) (s : S) : Prop := I s ∧ 0 ≤ idx s ∧ idx s ≤ l.length
def rgM {S α : Type} (l : List α) (idx : S → Int) (s : S) : Nat := l.length - (idx s).toNat
def rgR {S R α : Type} (l : List α) (idx : S → Int) (go : List α → S → R) (s : S) : R := go (l.drop (idx s).toNat) s
theorem rangeS {S R α : Type} (l : List α) (idx : S → Int) (I : S → Prop) (go : List α → S → R) (b : (S → Option R) → R → S → Option R)
  (hn : ∀ rec s, I s → 0 ≤ idx s → idx s = l.length → b rec (go [] s) s = some (go [] s))
  (hc : ∀ rec s x r, I s → 0 ≤ idx s → idx s < l.length → l[(idx s).toNat]? = some x → l.drop (idx s).toNat = x :: r → (∀ s', I s' → idx s' = idx s + 1 → rec s' = some (go r s')) → b rec (go (x :: r) s) s = some (go (x :: r) s)) :
  ∀ s, rgI l idx I s → b (LI (rgI l idx I) (rgM l idx) (rgR l idx go) (rgM l idx s)) (rgR l idx go s) s = some (rgR l idx go s) := by
 rintro s ⟨hI, h0, h1⟩
 by_cases h : idx s = l.length
 ·rw [rgR, List.drop_eq_nil_of_le (by omega)]; exact hn _ s hI h0 h
 ·have hlt : (idx s).toNat < l.length := by omega
  rw [rgR, List.drop_eq_getElem_cons hlt]
  refine hc _ s _ _ hI h0 (by omega) (List.getElem?_eq_getElem hlt) (List.drop_eq_getElem_cons hlt) fun s' hI' h' => ?_
  rw [LI_ok ⟨⟨hI', by omega, by omega⟩, by unfold rgM; omega⟩, rgR, show (idx s').toNat = (idx s).toNat + 1 by omega]
theorem rg0 {S α : Type} {l : List α} {idx : S → Int} {I : S → Prop} {s : S} (hI : I s) (h0 : idx s = 0) : rgI l idx I s := ⟨hI, by omega, by omega⟩
theorem EI_fin {S R : Type} {inv : S → Prop} {mu : S → Nat} {res : S → R} {s : S} {v : R} (h : inv s) (e : res s = v) : EI inv mu res s = some v := by rw [EI_ok h, e]
theorem nbOf {n : Nat} {Q : Nat → Prop} (h : ∀ i, i < n → Q i := by intro i hi; first | exact absurd hi (Nat.not_lt_zero i) | (obtain rfl : i = 0 := (by with_unfolding_all exact Nat.lt_one_iff.1 hi); exact ⟨by first | (cbv <;> rfl) | fail, by first | (cbv <;> rfl) | fail, by first | (cbv <;> rfl) | fail⟩)) : ∀ i, i < n → Q i := h
theorem sideOf {p : Prop} (h : p := by first | omega | (simp only [hV.nI, hV.nS, hV.nB, hV.nIu8, hV.nPair, hV.nArg, hV.nParam, hV.nSig, hV.nProb, hV.nSlot, hV.nPlace, hV.nTurn, hV.nFnc, hV.nTxs, hV.nPrs, hV.rI, hV.rS, hV.rB, hV.rIu8, hV.rPair, hV.rArg, hV.rParam, hV.rSig, hV.rProb, hV.rSlot, hV.rPlace, hV.rTurn, hV.rFnc, hV.rTxs, hV.rPrs, List.length_map, List.length_cons, List.length_nil] at *; omega) | exact wI hV _ | exact wS hV _ | exact wB hV _ | exact wIu8 hV _ | exact wPair hV _ | exact wArg hV _ | exact wParam hV _ | exact wSig hV _ | exact wProb hV _ | exact wSlot hV _ | exact wPlace hV _ | exact wTurn hV _ | exact wFnc hV _ | exact wTxs hV _ | exact wPrs hV _ | exact clI hV _ | exact clS hV _ | exact clB hV _ | exact clIu8 hV _ | exact clPair hV _ | exact clArg hV _ | exact clParam hV _ | exact clSig hV _ | exact clProb hV _ | exact clSlot hV _ | exact clPlace hV _ | exact clTurn hV _ | exact clFnc hV _ | exact clTxs hV _ | exact clPrs hV _ | exact ⟨rfl, nrI hV _⟩ | exact ⟨rfl, nrsI hV (by assumption)⟩ | exact ⟨rfl, nrS hV _⟩ | exact ⟨rfl, nrsS hV (by assumption)⟩ | exact ⟨rfl, nrB hV _⟩ | exact ⟨rfl, nrsB hV (by assumption)⟩ | exact ⟨rfl, nrIu8 hV _⟩ | exact ⟨rfl, nrsIu8 hV (by assumption)⟩ | exact ⟨rfl, nrPair hV _⟩ | exact ⟨rfl, nrsPair hV (by assumption)⟩ | exact ⟨rfl, nrArg hV _⟩ | exact ⟨rfl, nrsArg hV (by assumption)⟩ | exact ⟨rfl, nrParam hV _⟩ | exact ⟨rfl, nrsParam hV (by assumption)⟩ | exact ⟨rfl, nrSig hV _⟩ | exact ⟨rfl, nrsSig hV (by assumption)⟩ | exact ⟨rfl, nrProb hV _⟩ | exact ⟨rfl, nrsProb hV (by assumption)⟩ | exact ⟨rfl, nrSlot hV _⟩ | exact ⟨rfl, nrsSlot hV (by assumption)⟩ | exact ⟨rfl, nrPlace hV _⟩ | exact ⟨rfl, nrsPlace hV (by assumption)⟩ | exact ⟨rfl, nrTurn hV _⟩ | exact ⟨rfl, nrsTurn hV (by assumption)⟩ | exact ⟨rfl, nrFnc hV _⟩ | exact ⟨rfl, nrsFnc hV (by assumption)⟩ | exact ⟨rfl, nrTxs hV _⟩ | exact ⟨rfl, nrsTxs hV (by assumption)⟩ | exact ⟨rfl, nrPrs hV _⟩ | exact ⟨rfl, nrsPrs hV (by assumption)⟩ | (simp [closedCell]; done)) : p := h
theorem lnOf {a b : Nat} (h : a = b := by first | rfl | (simp only [hV.nI, hV.nS, hV.nB, hV.nIu8, hV.nPair, hV.nArg, hV.nParam, hV.nSig, hV.nProb, hV.nSlot, hV.nPlace, hV.nTurn, hV.nFnc, hV.nTxs, hV.nPrs, hV.rI, hV.rS, hV.rB, hV.rIu8, hV.rPair, hV.rArg, hV.rParam, hV.rSig, hV.rProb, hV.rSlot, hV.rPlace, hV.rTurn, hV.rFnc, hV.rTxs, hV.rPrs, List.length_map, List.length_cons, List.length_nil]; done) | (simp only [List.length_cons, List.length_nil]; done) | (simp only [hV.nI, hV.nS, hV.nB, hV.nIu8, hV.nPair, hV.nArg, hV.nParam, hV.nSig, hV.nProb, hV.nSlot, hV.nPlace, hV.nTurn, hV.nFnc, hV.nTxs, hV.nPrs, hV.rI, hV.rS, hV.rB, hV.rIu8, hV.rPair, hV.rArg, hV.rParam, hV.rSig, hV.rProb, hV.rSlot, hV.rPlace, hV.rTurn, hV.rFnc, hV.rTxs, hV.rPrs, List.length_map, List.length_cons, List.length_nil] at *; omega)) : a = b := h
end Go.Proofs.YtchpopejojghmaaGreatDoor.M
