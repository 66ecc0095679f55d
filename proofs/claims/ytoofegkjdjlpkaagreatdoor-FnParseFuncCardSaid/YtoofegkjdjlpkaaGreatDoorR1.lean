/- From the functions' laws to the rows: what the row's list gives; a world for the witness; FnTopCall's row and card. -/
import Derived.Test.YtoofegkjdjlpkaaGreatDoorPG
import Derived.Test.YtoofegkjdjlpkaaGreatDoorCards
import Derived.Test.YtoofegkjdjlpkaaGreatDoorTie
import Derived.WalkKit
import Derived.ProofKit
import Derived.OpenShut
import Derived.Deep.DeepHandedRow
import Derived.Deep.DeepWitnessRowRef
import Derived.Lib.LaidTab
import Derived.Stop.LaidErr
import Derived.Shelf.Vars
set_option linter.unusedVariables false
set_option linter.unusedSimpArgs false
namespace Go.Proofs.YtoofegkjdjlpkaaGreatDoor.M
open Go Go.Proofs Go.RowKit Go.ChangeShapes Go.WideShapes Go.ChangeAt
open Go.ChangeMaps (open_string shut_string)
theorem own : ownKnob Tryz.prog.godebug = none := by kernel_rfl
theorem gMax : (0 : Nat) < Tryz.prog.globals.size := of_decide_eq_true (by kernel_rfl)
theorem gSyn : Tryz.prog.globalNamed "strconv.ErrSyntax" = some 1 := by kernel_rfl
theorem gRan : Tryz.prog.globalNamed "strconv.ErrRange" = some 2 := by kernel_rfl
theorem gPow : Tryz.prog.globalNamed "internal/strconv.uint64pow10" = some 5 := by kernel_rfl
theorem gSynT : (Tryz.prog.globals[1]?).map (·.type) = some 120 := by kernel_rfl
theorem gRanT : (Tryz.prog.globals[2]?).map (·.type) = some 120 := by kernel_rfl
theorem gPowT : (Tryz.prog.globals[5]?).map (·.type) = some 217 := by kernel_rfl
theorem cel217 : Tryz.prog.cellsOf 217 = 20 := by kernel_rfl
theorem cel196 : Tryz.prog.cellsOf 196 = 1 := by kernel_rfl
theorem cel215 : Tryz.prog.cellsOf 215 = 1 := by kernel_rfl
theorem cel9 : Tryz.prog.cellsOf 9 = 1 := by kernel_rfl
theorem starE : "*" ++ "errors.errorString" = "*errors.errorString" := by decide
theorem rowE (u : TypeId) (h : Tryz.prog.typeName? 3 u = some "*errors.errorString") : u = 213 :=
  typeName_ptr_named (nm := "errors.errorString") (by rw [starE]; kernel_rfl) (by kernel_rfl) (by decide) u (by rw [starE]; exact h)
theorem hm_all : pg.follows .mixedOrders = true := by unfold pg; kernel_rfl
def smallV : Value → Bool
  | .string s => s.size == 0
  | _ => true
def smallT (ti : TypeInfo) : Bool := match ti.zero with
  | none => true
  | some z => z.cells.toList.all smallV
def stepV {β : Type} : ForInStep β → β
  | .done x => x
  | .yield x => x
theorem forIn_inv {α β : Type} (I : β → Prop) (l : List α) (f : α → β → Option (ForInStep β)) : ∀ (b r : β), I b → (∀ a b s, I b → f a b = some s → I (stepV s)) → forIn l b f = some r → I r := by
  induction l with
  | nil => intro b r hI _ h; simp at h; exact h ▸ hI
  | cons a l ih =>
    intro b r hI hf h
    simp only [List.forIn_cons, bind, Option.bind_eq_some_iff] at h
    obtain ⟨s, hs, h⟩ := h
    have := hf a b s hI hs
    cases s with
    | done x => simp at h; exact h ▸ this
    | yield x => exact ih x r this hf h
theorem ite_some {α : Type} {c : Prop} [Decidable c] {a b : Option α} {s : α} (h : (if c then a else b) = some s) : (c ∧ a = some s) ∨ (¬ c ∧ b = some s) := by
  split at h
  · exact .inl ⟨‹_›, h⟩
  · exact .inr ⟨‹_›, h⟩
theorem app_small {a b : Array Value} (ha : a.toList.all smallV = true) (hb : b.toList.all smallV = true) : (a ++ b).toList.all smallV = true := by
  rw [Array.toList_append, List.all_append, ha, hb]; rfl
theorem zero_step {info : TypeId → Option TypeInfo} (hi : ∀ t i, info t = some i → smallT i = true) {t : TypeId} {i : TypeInfo} (h : info t = some i) {x : Option (Array Value)} (hx : ∀ z, x = some z → z.toList.all smallV = true) {c : Prop} [Decidable c] {z : Array Value}
    (hz : (if c then none else x.bind fun a => i.zero.bind fun b => some (a ++ b.cells)) = some z) : z.toList.all smallV = true := by
  split at hz
  · cases hz
  · simp only [Option.bind_eq_some_iff] at hz
    obtain ⟨a, ha, b, hb, e⟩ := hz
    cases e
    have := hi _ _ h
    unfold smallT at this
    rw [hb] at this
    exact app_small (hx _ ha) this
theorem rs_small {info : TypeId → Option TypeInfo} (hi : ∀ t i, info t = some i → smallT i = true) {fs : Array Field} {i : TypeInfo} (h : Made.reckonStruct info fs = some i) : smallT i = true := by
  unfold Made.reckonStruct at h
  simp only [← Array.forIn_toList, bind, pure] at h
  obtain ⟨r, hr, h⟩ := Option.bind_eq_some_iff.1 h
  have key : ∀ z, r.2.2.2.2.2.2.2.1 = some z → z.toList.all smallV = true := by
    refine forIn_inv (fun r => ∀ z, r.2.2.2.2.2.2.2.1 = some z → z.toList.all smallV = true) _ _ _ _ ?_ ?_ hr
    · intro z hz; cases hz; rfl
    · intro f b s hI hs
      simp only [Option.bind_eq_some_iff] at hs
      obtain ⟨j, hj, hs⟩ := hs
      rcases ite_some hs with ⟨_, hs⟩ | ⟨_, hs⟩
      · cases hs
      rcases ite_some hs with ⟨_, hs⟩ | ⟨_, hs⟩
      · cases hs
      have fin : ∀ {c : Prop} [Decidable c] {x y : ForInStep (Array Field × Nat × Nat × Nat × Nat × Bool × Bool × Option (Array Value) × String)}, (if c then some x else some y) = some s → (∀ z, (stepV x).2.2.2.2.2.2.2.1 = some z → z.toList.all smallV = true) → (∀ z, (stepV y).2.2.2.2.2.2.2.1 = some z → z.toList.all smallV = true) → ∀ z, (stepV s).2.2.2.2.2.2.2.1 = some z → z.toList.all smallV = true := by
        intro c _ x y h hx hy
        split at h <;> cases h <;> assumption
      rcases ite_some hs with ⟨_, hs⟩ | ⟨_, hs⟩
      · exact fin hs (fun z hz => zero_step hi hj hI hz) (fun z hz => zero_step hi hj hI hz)
      · obtain ⟨_, _, hs⟩ := Option.bind_eq_some_iff.1 hs
        exact fin hs (fun z hz => zero_step hi hj hI hz) (fun z hz => zero_step hi hj hI hz)
  have e : i.zero = r.2.2.2.2.2.2.2.1.map Value.agg := by
    rcases ite_some h with ⟨_, h⟩ | ⟨_, h⟩ <;> cases h <;> rfl
  unfold smallT
  rw [e]
  cases hz : r.2.2.2.2.2.2.2.1 with
  | none => rfl
  | some z => exact key z hz
theorem rep_small {l : List Value} (h : l.all smallV = true) (n : Nat) : ((Array.replicate n l.toArray).flatten).toList.all smallV = true := by
  rw [List.all_eq_true]
  intro v hv
  simp at hv
  obtain ⟨a, ⟨_, e⟩, hv⟩ := hv
  exact List.all_eq_true.1 h v (by simpa [e] using hv)
theorem rk_small {info : TypeId → Option TypeInfo} (hi : ∀ t i, info t = some i → smallT i = true) {d : TypeDesc} {i : TypeInfo} (h : Made.reckon info d = some i) : smallT i = true := by
  unfold Made.reckon at h
  split at h
  case h_7 => exact rs_small hi h
  case h_6 =>
    rename_i n e
    simp only [bind, Option.bind_eq_some_iff, pure] at h
    obtain ⟨j, hj, s, hs, h⟩ := h
    cases h
    unfold smallT
    simp only
    split
    · rfl
    · rename_i z hz
      split at hz
      · cases hz
      · split at hz
        · cases hz; rfl
        · rw [Option.map_eq_some_iff] at hz
          obtain ⟨y, hy, rfl⟩ := hz
          have := hi _ _ hj
          unfold smallT at this
          rw [hy] at this
          exact rep_small this n
  all_goals try simp only [bind, Option.bind_eq_some_iff, pure] at h
  all_goals repeat' first
    | (obtain ⟨_, _, h⟩ := h)
    | (split at h)
  all_goals first
    | (cases h; done)
    | (cases h; rfl)
    | rfl
    | (simp only [Option.bind_eq_some_iff] at h; obtain ⟨_, _, h⟩ := h; cases h; rfl)
    | trace_state
theorem inf_small {T : Tables} (h0 : T.types.toList.all smallT = true) : ∀ (f : Nat) (t : TypeId) (i : TypeInfo), Made.infoAt T f t = some i → smallT i = true
  | 0, t, i, h => by cases h
  | f + 1, t, i, h => by
    unfold Made.infoAt at h
    split at h
    · exact List.all_eq_true.1 h0 i (by rw [Array.mem_toList_iff]; exact Array.mem_of_getElem? h)
    · obtain ⟨d, _, h⟩ := Option.bind_eq_some_iff.1 h
      exact rk_small (inf_small h0 f) h
theorem info_small {T : Tables} (h0 : T.types.toList.all smallT = true) {t : TypeId} {i : TypeInfo} (h : T.info? t = some i) : smallT i = true := by
  unfold Tables.info? at h
  split at h
  · exact List.all_eq_true.1 h0 i (by rw [Array.mem_toList_iff]; exact Array.mem_of_getElem? h)
  · exact inf_small h0 _ _ _ h
theorem small_all : Tryz.prog.types.toList.all smallT = true := by kernel_rfl
theorem bd_ofV1 {v : Value} (h : smallV v = true) : Bd (ofV1 v) := by
  unfold ofV1
  split
  · exact .int _ _
  · exact .bool _
  · rename_i s
    simp only [smallV, beq_iff_eq] at h
    exact .str _ (by rw [h]; exact Nat.zero_le _)
  · exact .nils
  · exact .nilp
  · exact .undef
theorem hz_all : ∀ T, ∀ c ∈ (ttOf pg T).zero, Bd c := by
  intro T
  have key : ∀ ti z, pg.info? T = some ti → ti.zero = some z → ∀ c ∈ z.cells.toList.map ofV1, Bd c := by
    intro ti z hi hz c hc
    unfold pg at hi
    have h2 := info_small (T := Tryz.prog.toTables) small_all hi
    unfold smallT at h2
    rw [hz] at h2
    obtain ⟨v, hv, rfl⟩ := List.mem_map.1 hc
    exact bd_ofV1 (List.all_eq_true.1 h2 v hv)
  have e0 : ∀ c ∈ noTy.zero, Bd c := fun c hc => by cases hc
  unfold ttOf
  split
  · exact e0
  · rename_i ti hi
    split
    · exact e0
    · rename_i z hz
      have k := key ti z hi hz
      split
      · exact e0
      · split <;> first | exact e0 | exact k | (split <;> first | exact e0 | exact k)
def libAt (w : World) : Prop :=
  (∃ m, w.cell? ⟨0, 0, none⟩ = some (.int .i64 m)) ∧ World.var? pg w "internal/strconv.uint64pow10" = some (Lib.pow10Tab.map fun z => Value.int .u64 z).toArray ∧
  (∃ tp p, World.var? pg w "strconv.ErrSyntax" = some #[.iface tp p]) ∧ ∃ tp p, World.var? pg w "strconv.ErrRange" = some #[.iface tp p]
theorem var_loc {w w' : World} {n : String} {g : Nat} (hg : Tryz.prog.globalNamed n = some g) (h8 : g < 8) (h : ∀ b, b < 8 → w'.heap[b]? = w.heap[b]?) : World.var? pg w' n = World.var? pg w n := by
  unfold pg World.var?
  simp only [hg, Option.bind_some]
  rw [h g h8]
def libG : Glob := ⟨8, libAt, fun w w' h ⟨⟨m, hmx⟩, hp, hs, hr⟩ => by
  refine ⟨⟨m, ?_⟩, ?_, ?_, ?_⟩
  · unfold World.cell? at hmx ⊢
    rw [show w'.heap[(⟨0, 0, none⟩ : Addr).block]? = w.heap[(⟨0, 0, none⟩ : Addr).block]? from h 0 (by omega)]
    exact hmx
  · rw [var_loc gPow (by omega) h]; exact hp
  · rw [var_loc gSyn (by omega) h]; exact hs
  · rw [var_loc gRan (by omega) h]; exact hr⟩
theorem libGF : GF libG := ⟨fun _ h => h.1, fun _ h => h.2.1, fun _ h => h.2.2.1, fun _ h => h.2.2.2⟩
theorem libAt_of {W : World} {d32 d64 acc : DataW Unit} {n32 n64 nac : String} {r : List (String × DataW Unit)} (hsh : W.ShapedOpen Tryz.prog)
    (hL : laidMet Tryz.prog ((n32, d32) :: (n64, d64) :: ("internal/strconv.uint64pow10", Rows.laid_internal_strconv_uint64pow10) :: (nac, acc) :: ("strconv.ErrRange", Rows.laid_strconv_ErrRange) :: ("strconv.ErrSyntax", Rows.laid_strconv_ErrSyntax) :: r) W) : libAt W := by
  refine ⟨cell_of_shapedOpen_int (zero := #[.int .i64 0]) (t := 3) hsh gMax (by kernel_rfl) rfl (by kernel_rfl) (by kernel_rfl) Tryz.underlying3, ?_, ?_, ?_⟩
  · unfold pg
    exact Lib.tabIs_of_head (k := .u64) (zs := Lib.pow10Tab) gPow gPowT Tryz.underlying217 Tryz.underlying196 cel196 cel217 hL.tail.tail
  · obtain ⟨a, s, hv, -, -, -⟩ := laid_sentinel hL.tail.tail.tail.tail.tail gSyn gSynT Tryz.underlying120 rowE Tryz.underlying213 Tryz.underlying215 rfl rfl Tryz.underlying9 cel215 cel9
    exact ⟨_, _, by unfold pg; exact hv⟩
  · obtain ⟨a, s, hv, -, -, -⟩ := laid_sentinel hL.tail.tail.tail.tail gRan gRanT Tryz.underlying120 rowE Tryz.underlying213 Tryz.underlying215 rfl rfl Tryz.underlying9 cel215 cel9
    exact ⟨_, _, by unfold pg; exact hv⟩
theorem heap8 {W : World} (h : W.ShapedOpen Tryz.prog) : 8 ≤ W.heap.size := by
  have h0 : (((begin Tryz.prog (fun _ _ => 0) default).world.heap[7]?).bind Go.Obj.row?).isSome = true := by kernel_rfl
  obtain ⟨⟨zero, t⟩, hz⟩ := Option.isSome_iff_exists.1 h0
  obtain ⟨cs, hh, _, _⟩ := h.1 7 zero t (of_decide_eq_true (by kernel_rfl)) hz
  have := (Array.getElem?_eq_some_iff.1 hh).1
  omega
abbrev synS : ByteArray := { data := #[105, 110, 118, 97, 108, 105, 100, 32, 115, 121, 110, 116, 97, 120] }
abbrev rngS : ByteArray := { data := #[118, 97, 108, 117, 101, 32, 111, 117, 116, 32, 111, 102, 32, 114, 97, 110, 103, 101] }
noncomputable def low : Nat := (World.settled Tryz.prog default).heap.size
def litV : DataW Unit → Value
  | .lit (.int k n) => .int k n
  | _ => .int .i64 0
def flatD : DataW Unit → List Value
  | .agg l => l.map litV
  | _ => []
def flatDD : DataW Unit → List Value
  | .agg l => l.flatMap flatD
  | _ => []
noncomputable def laidWorld (os : Os) : World :=
  let w0 := World.holding Tryz.prog os ⟨#[.cells #[.string synS] 215, .cells #[.string rngS] 215], #[], []⟩
  let put (h : Array Go.Obj) (g : Nat) (cs : Array Value) : Array Go.Obj := h.modify g fun
    | .cells _ t frozen => .cells cs t frozen
    | o => o
  let h1 := put w0.heap 1 #[.iface 213 (.pointer (some ⟨low, 0, none⟩))]
  let h2 := put h1 2 #[.iface 213 (.pointer (some ⟨low + 1, 0, none⟩))]
  let h3 := put h2 3 (flatD Rows.laid_unicode_utf8_first).toArray
  let h4 := put h3 4 (flatDD Rows.laid_unicode_utf8_acceptRanges).toArray
  let h5 := put h4 5 (flatD Rows.laid_internal_strconv_uint64pow10).toArray
  let h6 := put h5 6 (flatD Rows.laid_math_bits_deBruijn32tab).toArray
  let h7 := put h6 7 (flatD Rows.laid_math_bits_deBruijn64tab).toArray
  { w0 with heap := h7 }
abbrev laidL : List (String × DataW Unit) := Rows.fnTopCallUptoRow.laid
theorem laid_met (os : Os) (args : Array Value) : laidMet Tryz.prog laidL ((laidWorld os).forCall (fun _ _ => 0) ⟨#[], args, []⟩).memory :=
  laidMet_of_run' 8 (by kernel_rfl) (by kernel_rfl)
end Go.Proofs.YtoofegkjdjlpkaaGreatDoor.M
