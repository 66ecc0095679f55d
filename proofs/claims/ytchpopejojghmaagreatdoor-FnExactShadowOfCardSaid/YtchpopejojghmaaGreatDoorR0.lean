/- From the functions' laws to the rows: a world for the witness; what the row's list gives of an argument of plain data; a law called. -/
import Derived.Test.YtchpopejojghmaaGreatDoorCards
import Derived.Test.YtchpopejojghmaaGreatDoorTie
import Derived.Test.YtchpopejojghmaaGreatDoorO2
import Derived.Test.YtchpopejojghmaaGreatDoorL1
import Derived.Test.YtchpopejojghmaaGreatDoorTT
import Derived.WalkKit
import Derived.ProofKit
import Derived.OpenShut
import Derived.Deep.DeepHandedRow
import Derived.Deep.DeepWitnessRowRef
import Derived.Lib.LaidTab
import Derived.Shelf.Vars
import Derived.Carry
set_option linter.unusedVariables false
set_option linter.unusedSimpArgs false
namespace Go.Proofs.YtchpopejojghmaaGreatDoor.M
open Go Go.Proofs Go.RowKit Go.ChangeShapes Go.WideShapes Go.ChangeAt
theorem own : ownKnob Tryz.prog.godebug = none := by kernel_rfl
theorem hm_all : pg.follows .mixedOrders = true := by unfold pg; kernel_rfl
def smallV : Value → Bool
 | .string s => s.size == 0
 | _ => true
def smallT (ti : TypeInfo) : Bool := match ti.zero with
 | none => true
 | some z => z.cells.toList.all smallV
def stepV {β : Type} : ForInStep β → β
 | .done x => x
 | .yield x => x
theorem forIn_inv {α β : Type} (I : β → Prop) (l : List α) (f : α → β → Option (ForInStep β)) : ∀ (b r : β), I b → (∀ a b s, I b → f a b = some s → I (stepV s)) → forIn l b f = some r → I r := by
 induction l with
 | nil => intro b r hI _ h; simp at h; exact h ▸ hI
 | cons a l ih =>
  intro b r hI hf h
  simp only [List.forIn_cons, bind, Option.bind_eq_some_iff] at h
  obtain ⟨s, hs, h⟩ := h
  have := hf a b s hI hs
  cases s with
  | done x => simp at h; exact h ▸ this
  | yield x => exact ih x r this hf h
theorem ite_some {α : Type} {c : Prop} [Decidable c] {a b : Option α} {s : α} (h : (if c then a else b) = some s) : (c ∧ a = some s) ∨ (¬ c ∧ b = some s) := by
 split at h
 ·exact .inl ⟨‹_›, h⟩
 ·exact .inr ⟨‹_›, h⟩
theorem app_small {a b : Array Value} (ha : a.toList.all smallV = true) (hb : b.toList.all smallV = true) : (a ++ b).toList.all smallV = true := by
 rw [Array.toList_append, List.all_append, ha, hb]; rfl
theorem zero_step {info : TypeId → Option TypeInfo} (hi : ∀ t i, info t = some i → smallT i = true) {t : TypeId} {i : TypeInfo} (h : info t = some i) {x : Option (Array Value)} (hx : ∀ z, x = some z → z.toList.all smallV = true) {c : Prop} [Decidable c] {z : Array Value}
  (hz : (if c then none else x.bind fun a => i.zero.bind fun b => some (a ++ b.cells)) = some z) : z.toList.all smallV = true := by
 split at hz
 ·cases hz
 ·simp only [Option.bind_eq_some_iff] at hz
  obtain ⟨a, ha, b, hb, e⟩ := hz
  cases e
  have := hi _ _ h
  unfold smallT at this
  rw [hb] at this
  exact app_small (hx _ ha) this
theorem rs_small {info : TypeId → Option TypeInfo} (hi : ∀ t i, info t = some i → smallT i = true) {fs : Array Field} {i : TypeInfo} (h : Made.reckonStruct info fs = some i) : smallT i = true := by
 unfold Made.reckonStruct at h
 simp only [← Array.forIn_toList, bind, pure] at h
 obtain ⟨r, hr, h⟩ := Option.bind_eq_some_iff.1 h
 have key : ∀ z, r.2.2.2.2.2.2.2.1 = some z → z.toList.all smallV = true := by
  refine forIn_inv (fun r => ∀ z, r.2.2.2.2.2.2.2.1 = some z → z.toList.all smallV = true) _ _ _ _ ?_ ?_ hr
  ·intro z hz; cases hz; rfl
  ·intro f b s hI hs
   simp only [Option.bind_eq_some_iff] at hs
   obtain ⟨j, hj, hs⟩ := hs
   rcases ite_some hs with ⟨_, hs⟩ | ⟨_, hs⟩
   ·cases hs
   rcases ite_some hs with ⟨_, hs⟩ | ⟨_, hs⟩
   ·cases hs
   have fin : ∀ {c : Prop} [Decidable c] {x y : ForInStep (Array Field × Nat × Nat × Nat × Nat × Bool × Bool × Option (Array Value) × String)}, (if c then some x else some y) = some s → (∀ z, (stepV x).2.2.2.2.2.2.2.1 = some z → z.toList.all smallV = true) → (∀ z, (stepV y).2.2.2.2.2.2.2.1 = some z → z.toList.all smallV = true) → ∀ z, (stepV s).2.2.2.2.2.2.2.1 = some z → z.toList.all smallV = true := by
    intro c _ x y h hx hy
    split at h <;> cases h <;> assumption
   rcases ite_some hs with ⟨_, hs⟩ | ⟨_, hs⟩
   ·exact fin hs (fun z hz => zero_step hi hj hI hz) (fun z hz => zero_step hi hj hI hz)
   ·obtain ⟨_, _, hs⟩ := Option.bind_eq_some_iff.1 hs
    exact fin hs (fun z hz => zero_step hi hj hI hz) (fun z hz => zero_step hi hj hI hz)
 have e : i.zero = r.2.2.2.2.2.2.2.1.map Value.agg := by
  rcases ite_some h with ⟨_, h⟩ | ⟨_, h⟩ <;> cases h <;> rfl
 unfold smallT
 rw [e]
 cases hz : r.2.2.2.2.2.2.2.1 with
 | none => rfl
 | some z => exact key z hz
theorem rep_small {l : List Value} (h : l.all smallV = true) (n : Nat) : ((Array.replicate n l.toArray).flatten).toList.all smallV = true := by
 rw [List.all_eq_true]
 intro v hv
 simp at hv
 obtain ⟨a, ⟨_, e⟩, hv⟩ := hv
 exact List.all_eq_true.1 h v (by simpa [e] using hv)
theorem rk_small {info : TypeId → Option TypeInfo} (hi : ∀ t i, info t = some i → smallT i = true) {d : TypeDesc} {i : TypeInfo} (h : Made.reckon info d = some i) : smallT i = true := by
 unfold Made.reckon at h
 split at h
 case h_7 => exact rs_small hi h
 case h_6 =>
  rename_i n e
  simp only [bind, Option.bind_eq_some_iff, pure] at h
  obtain ⟨j, hj, s, hs, h⟩ := h
  cases h
  unfold smallT
  simp only
  split
  ·rfl
  ·rename_i z hz
   split at hz
   ·cases hz
   ·split at hz
    ·cases hz; rfl
    ·rw [Option.map_eq_some_iff] at hz
     obtain ⟨y, hy, rfl⟩ := hz
     have := hi _ _ hj
     unfold smallT at this
     rw [hy] at this
     exact rep_small this n
 all_goals try simp only [bind, Option.bind_eq_some_iff, pure] at h
 all_goals repeat' first
  | (obtain ⟨_, _, h⟩ := h)
  | (split at h)
 all_goals first
  | (cases h; done)
  | (cases h; rfl)
  | rfl
  | (simp only [Option.bind_eq_some_iff] at h; obtain ⟨_, _, h⟩ := h; cases h; rfl)
  | trace_state
theorem inf_small {T : Tables} (h0 : T.types.toList.all smallT = true) : ∀ (f : Nat) (t : TypeId) (i : TypeInfo), Made.infoAt T f t = some i → smallT i = true
 | 0, t, i, h => by cases h
 | f + 1, t, i, h => by
  unfold Made.infoAt at h
  split at h
  ·exact List.all_eq_true.1 h0 i (by rw [Array.mem_toList_iff]; exact Array.mem_of_getElem? h)
  ·obtain ⟨d, _, h⟩ := Option.bind_eq_some_iff.1 h
   exact rk_small (inf_small h0 f) h
theorem info_small {T : Tables} (h0 : T.types.toList.all smallT = true) {t : TypeId} {i : TypeInfo} (h : T.info? t = some i) : smallT i = true := by
 unfold Tables.info? at h
 split at h
 ·exact List.all_eq_true.1 h0 i (by rw [Array.mem_toList_iff]; exact Array.mem_of_getElem? h)
 ·exact inf_small h0 _ _ _ h
theorem small_all : Tryz.prog.types.toList.all smallT = true := by kernel_rfl
theorem bd_ofV1 {v : Value} (h : smallV v = true) : Bd (ofV1 v) := by
 unfold ofV1
 split
 ·exact .int _ _
 ·exact .bool _
 ·rename_i s
  simp only [smallV, beq_iff_eq] at h
  exact .str _ (by rw [h]; exact Nat.zero_le _)
 ·exact .nils
 ·exact .nilp
 ·exact .undef
theorem hz_all : ∀ T, ∀ c ∈ (ttOf pg T).zero, Bd c := by
 intro T
 have key : ∀ ti z, pg.info? T = some ti → ti.zero = some z → ∀ c ∈ z.cells.toList.map ofV1, Bd c := by
  intro ti z hi hz c hc
  unfold pg at hi
  have h2 := info_small (T := Tryz.prog.toTables) small_all hi
  unfold smallT at h2
  rw [hz] at h2
  obtain ⟨v, hv, rfl⟩ := List.mem_map.1 hc
  exact bd_ofV1 (List.all_eq_true.1 h2 v hv)
 have e0 : ∀ c ∈ noTy.zero, Bd c := fun c hc => by cases hc
 unfold ttOf
 split
 ·exact e0
 ·rename_i ti hi
  split
  ·exact e0
  ·rename_i z hz
   have k := key ti z hi hz
   split
   ·exact e0
   ·split <;> first | exact e0 | exact k | (split <;> first | exact e0 | exact k)
def libG : Glob := ⟨0, fun _ => True, fun _ _ _ _ => trivial⟩
theorem libGF : GF libG := ⟨trivial⟩
theorem laidOutT : laidOutB Tryz.prog = true := by kernel_rfl
def litV : DataW Unit → Value
 | .lit (.int k n) => .int k n
 | _ => .int .i64 0
def flatD : DataW Unit → List Value
 | .agg l => l.map litV
 | _ => []
def flatDD : DataW Unit → List Value
 | .agg l => l.flatMap flatD
 | _ => []
noncomputable def laidWorld (os : Os) : World :=
 let w0 := World.holding Tryz.prog os ⟨#[], #[], []⟩
 let put (h : Array Go.Obj) (g : Nat) (cs : Array Value) : Array Go.Obj := h.modify g fun
  | .cells _ t frozen => .cells cs t frozen
  | o => o
 let h1 := put w0.heap 0 (flatD Rows.laid_unicode_utf8_first).toArray
 let h2 := put h1 1 (flatDD Rows.laid_unicode_utf8_acceptRanges).toArray
 { w0 with heap := h2 }
abbrev laidL : List (String × DataW Unit) := Rows.fnExactFitsRow.laid
theorem laid_met (os : Os) (args : Array Value) : laidMet Tryz.prog laidL ((laidWorld os).forCall (fun _ _ => 0) ⟨#[], args, []⟩).memory :=
 laidMet_of_run' 8 (by kernel_rfl) (by kernel_rfl)
def gW (W : World) : Gh := ⟨fun b => b < W.heap.size, fun _ => none, fun _ => 0⟩
theorem Opens.fitsL {w : World} {Q : Nat → Prop} {ks : List Kn} {vs : List Value} {cs : List C} (h : Opens w Q ks vs cs) : FitsL ks cs := ⟨h.len.2, h.fits⟩
theorem bd_agg {ks : List Kn} {cs : List C} (h : FitsL ks cs) : Bd (.agg cs) := by
 refine .agg _ fun c hc => ?_
 obtain ⟨i, hi⟩ := List.getElem?_of_mem hc
 have hil : i < ks.length := by rw [← h.1]; exact (List.getElem?_eq_some_iff.1 hi).1
 exact fits_bd (h.2 i ks[i] c (List.getElem?_eq_getElem hil) hi)
set_option maxRecDepth 100000 in
theorem open_agg {H : Type} {enc : TypeId × Value → H} {W : World} {base : Nat} {v : Value} {d : DataW H} {ps : List MemPlace} {T : TypeId} {fs : Array Field} {n : Nat} {ks : List Kn} (hu : Tryz.prog.underlying T = some (.struct fs)) (hk : kinds Tryz.prog n T = some ks)
  (hval : Value.okWide Tryz.prog W .any base T v) (h : DataW.Trod enc Tryz.prog W 0 (fun _ => true) true T v d ps) : ∃ xs, FitsL ks xs ∧ VA W (gW W) (extO []) (.agg xs) v := by
 obtain ⟨cs, rfl, _⟩ := okWide_struct hu hval
 obtain ⟨fuel, hf⟩ := h
 obtain ⟨xs, hx⟩ := open_gen n T ks hk fuel _ _ hf
 refine ⟨xs, hx.fitsL, cs, rfl, ?_, fun i c hc => ?_⟩
 ·have := hx.len
  simp only [Value.cells, Array.length_toList] at this
  omega
 ·have hil : i < cs.toList.length := by
   have := hx.len
   have h2 := (List.getElem?_eq_some_iff.1 hc).1
   simp only [Value.cells] at this
   omega
  refine .closed (hx.cv i c _ hc ?_)
  simp only [Value.cells]
  rw [List.getElem?_eq_getElem hil]
  simp only [Array.length_toList] at hil
  simp [Array.getD, hil]
set_option maxRecDepth 100000 in
theorem open_one {H : Type} {enc : TypeId × Value → H} {W : World} {v : Value} {d : DataW H} {ps : List MemPlace} {T : TypeId} {n : Nat} {k : Kn} (hk : kinds Tryz.prog n T = some [k])
  (hv : v.cells = #[v]) (h : DataW.Trod enc Tryz.prog W 0 (fun _ => true) true T v d ps) : ∃ x, Fits k x ∧ CV W (fun b => b < W.heap.size) x v := by
 obtain ⟨fuel, hf⟩ := h
 rw [hv] at hf
 obtain ⟨xs, hx⟩ := open_gen n T _ hk fuel _ _ hf
 obtain ⟨_, h2⟩ := hx.len
 match xs, h2 with
 | [c], _ => exact ⟨c, hx.fits 0 _ _ rfl rfl, hx.cv 0 _ _ rfl rfl⟩
theorem va_cv {W : World} {c : C} {v : Value} (h : CV W (fun b => b < W.heap.size) c v) : VA W (gW W) (extO []) c v := by
 cases h <;> (try exact .closed (by constructor <;> assumption)) <;> trivial
theorem walkL {f : Nat} {cs : List C} (h : FnOK pg libG f cs [] (.bool true) [] false) {W : World} {vs : Array Value} (hb : ∀ a ∈ cs, Bd a) (hs : vs.size = cs.length) (hv : ∀ i c, cs[i]? = some c → VA W (gW W) (extO []) c (vs.getD i undef)) :
  Calls Tryz.prog f vs W fun e w' => e = .returned (.bool true) ∧ Below W.heap.size W w' := by
 have hx : ∀ x ∈ ([] : List Obj), BdR x.rows := fun x hx => by cases hx
 have e0 : ∀ id, (extO [] id).rw = false := fun id => rfl
 have := (h.ok hb hx).2 W (gW W) vs ⟨fun b hb => absurd hb (Nat.not_lt_zero _), trivial⟩ (fun b hb => hb) (fun id => ⟨fun _ => rfl, fun a ha => by cases ha⟩)
  ⟨fun i j a b _ hr => by rw [e0] at hr; cases hr⟩ hs hv
 unfold pg at this
 refine this.mono ?_
 rintro e w' ⟨v, he, L⟩
 obtain ⟨g', _, _, _, _, hv, _⟩ := L.res
 have ev : v = .bool true := by
  cases hv with
  | closed h => cases h; rfl
 subst ev
 exact ⟨he, L.os, L.tape, L.output, L.size, fun k hk => L.keep k hk fun id a hr => by rw [e0] at hr; cases hr⟩
end Go.Proofs.YtchpopejojghmaaGreatDoor.M
