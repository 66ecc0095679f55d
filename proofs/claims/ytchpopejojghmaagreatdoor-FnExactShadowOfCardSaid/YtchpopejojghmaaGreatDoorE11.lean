/- THE EVALUATOR: the same weakest precondition in a form that the tactic cbv evaluates. -/
import Derived.Test.YtchpopejojghmaaGreatDoorM28
set_option linter.unusedVariables false
set_option linter.unusedSimpArgs false
set_option linter.unusedSectionVars false
/- The evaluator: made for 'cbv'. What is not known is brought in by a quantor. -/
namespace Go.Proofs.YtchpopejojghmaaGreatDoor.M
open Go
inductive ED where
 | one (r : List C)
 | many (rows : List (List C))
structure EObj where
 gen : Nat
 rw : Bool
 es : Nat
 dat : ED
def ED.rows : ED → List (List C)
 | .one r => [r]
 | .many rows => rows
def EObj.toObj (x : EObj) : Obj := ⟨x.gen, x.rw, x.es, x.dat.rows⟩
structure ESt where
 s : Nat → C
 o : Nat → EObj
def toO (o : Nat → EObj) : Nat → Obj := fun i => (o i).toObj
def ESt.toSt (e : ESt) : St := ⟨e.s, toO e.o⟩
def upsO (ups : List (Nat × EObj)) : List (Nat × Obj) := ups.map fun p => (p.1, p.2.toObj)
def setE (o : Nat → EObj) : List (Nat × EObj) → Nat → EObj
 | [] => o
 | (i, x) :: r => setE (upd o i x) r
def ESt.put (e : ESt) (dst : Option Nat) (v : C) (ups : List (Nat × EObj)) : ESt := ⟨putS e.s dst v, setE e.o ups⟩
def optE {α : Type} (x : Option α) (K : α → Prop) : Prop := match x with | some d => K d | none => False
def bnd63 : Nat := 9223372036854775807
inductive Bd : C → Prop
 | undef : Bd .undef
 | int (k : IntKind) (n : Int) : Bd (.int k n)
 | bool (b : Bool) : Bd (.bool b)
 | str (s : ByteArray) (h : s.size ≤ bnd63) : Bd (.str s)
 | nilp : Bd .nilp
 | nils : Bd .nils
 | sl (xss : List (List C)) (h : xss.length ≤ bnd63) (hr : ∀ r ∈ xss, ∀ c ∈ r, Bd c) : Bd (.sl xss)
 | fr (es : Nat) (xss : List (List C)) (h : xss.length ≤ bnd63) (hr : ∀ r ∈ xss, ∀ c ∈ r, Bd c) : Bd (.fr es xss)
 | frp (cs : List C) (h : ∀ c ∈ cs, Bd c) : Bd (.frp cs)
 | ref (id gen es base len : Nat) (h : len ≤ bnd63) : Bd (.ref id gen es base len)
 | ptr (id gen es row off : Nat) : Bd (.ptr id gen es row off)
 | ip (cs : List C) (off : Nat) (h : ∀ c ∈ cs, Bd c) : Bd (.ip cs off)
 | fn (g : FuncId) (caps : List C) (h : ∀ c ∈ caps, Bd c) : Bd (.fn g caps)
 | agg (cs : List C) (h : ∀ c ∈ cs, Bd c) : Bd (.agg cs)
 | tup (vs : List C) (h : ∀ c ∈ vs, Bd c) : Bd (.tup vs)
structure BdR (rows : List (List C)) : Prop where
 len : rows.length ≤ bnd63
 rows : ∀ r ∈ rows, ∀ c ∈ r, Bd c
structure BdSt (st : St) : Prop where
 s : ∀ t, Bd (st.s t)
 o : ∀ i, BdR (st.o i).rows
def Side : Prop := True
@[reducible] def rangeP (k : IntKind) (z : Int) : Prop :=
 match k with
 | .i64 => -9223372036854775808 ≤ z ∧ z ≤ 9223372036854775807
 | .i32 => -2147483648 ≤ z ∧ z ≤ 2147483647
 | .i16 => -32768 ≤ z ∧ z ≤ 32767
 | .i8 => -128 ≤ z ∧ z ≤ 127
 | .u64 => 0 ≤ z ∧ z ≤ 18446744073709551615
 | .u32 => 0 ≤ z ∧ z ≤ 4294967295
 | .u16 => 0 ≤ z ∧ z ≤ 65535
 | .u8 => 0 ≤ z ∧ z ≤ 255
def xorI (x y : Int) : Int := IntKind.i64.wrap (BitVec.ofInt IntKind.i64.bits x ^^^ BitVec.ofInt IntKind.i64.bits y).toNat
def intF (op : BinOp) (k : IntKind) (x y : Int) (K : C → Prop) : Prop :=
 match op with
 | .eql => (x = y → K (.bool true)) ∧ (x ≠ y → K (.bool false))
 | .neq => (x ≠ y → K (.bool true)) ∧ (x = y → K (.bool false))
 | .lss => (x < y → K (.bool true)) ∧ (y ≤ x → K (.bool false))
 | .leq => (x ≤ y → K (.bool true)) ∧ (y < x → K (.bool false))
 | .gtr => (y < x → K (.bool true)) ∧ (x ≤ y → K (.bool false))
 | .geq => (y ≤ x → K (.bool true)) ∧ (x < y → K (.bool false))
 | .add => ∀ z, (rangeP k (x + y) → z = x + y) → K (.int k z)
 | .sub => ∀ z, (rangeP k (x - y) → z = x - y) → K (.int k z)
 | .mul => ∀ z, (rangeP k (x * y) → z = x * y) → K (.int k z)
 | .quo => (Side → y ≠ 0) ∧ ∀ z, (rangeP k (x.tdiv y) → z = x.tdiv y) → K (.int k z)
 | .rem => (Side → y ≠ 0) ∧ ∀ z, z = x.tmod y → K (.int k z)
 | .xor => match k with
  | .i64 => ∀ z, z = xorI x y → K (.int .i64 z)
  | _ => False
 | _ => False
def strF (op : BinOp) (x y : List UInt8) (K : C → Prop) : Prop :=
 match op with
 | .eql => (x = y → K (.bool true)) ∧ (x ≠ y → K (.bool false))
 | .neq => (x ≠ y → K (.bool true)) ∧ (x = y → K (.bool false))
 | .lss => (Op.bytesLess x y = true → K (.bool true)) ∧ (Op.bytesLess x y = false → K (.bool false))
 | .leq => ((Op.bytesLess x y = true ∨ x = y) → K (.bool true)) ∧ (Op.bytesLess x y = false → x ≠ y → K (.bool false))
 | .gtr => ((Op.bytesLess x y = true ∨ x = y) → K (.bool false)) ∧ (Op.bytesLess x y = false → x ≠ y → K (.bool true))
 | .geq => (Op.bytesLess x y = true → K (.bool false)) ∧ (Op.bytesLess x y = false → K (.bool true))
 | .add => (Side → x.length + y.length ≤ 9223372036854775807) ∧ ∀ z, z = x ++ y → K (.str ⟨⟨z⟩⟩)
 | _ => False
def binF (t : TyI) (op : BinOp) (x y : C) (K : C → Prop) : Prop :=
 match x, y with
 | .int k a, .int k' b => if k = k' then intF op k a b K else False
 | .str ⟨⟨a⟩⟩, .str ⟨⟨b⟩⟩ => strF op a b K
 | .bool a, .bool b => if t.kd = .bool then
   match op with
   | .eql => match a with
    | true => match b with | true => K (.bool true) | false => K (.bool false)
    | false => match b with | true => K (.bool false) | false => K (.bool true)
   | .neq => match a with
    | true => match b with | true => K (.bool false) | false => K (.bool true)
    | false => match b with | true => K (.bool true) | false => K (.bool false)
   | _ => False
  else False
 | .agg a, .agg b => if t.kd ≠ .struct ∨ t.size = 0 ∨ t.eqk = [] then False else match op with
  | .eql => ∃ r, eqCells t.eqk a b = some r ∧ K (.bool r)
  | .neq => ∃ r, eqCells t.eqk a b = some (!r) ∧ K (.bool r)
  | _ => False
 | _, _ => False
def strSlF (a : List UInt8) (lo hi : Option C) (K : C → Prop) : Prop :=
 match lo with
 | none => match hi with
  | none => K (.str ⟨⟨a⟩⟩)
  | some (.int _ h) => (Side → 0 ≤ h ∧ h.toNat ≤ a.length) ∧ ∀ z, z = a.take h.toNat → K (.str ⟨⟨z⟩⟩)
  | _ => False
 | some (.int _ l) => match hi with
  | none => (Side → 0 ≤ l ∧ l.toNat ≤ a.length) ∧ ∀ z, z = a.drop l.toNat → K (.str ⟨⟨z⟩⟩)
  | some (.int _ h) => (Side → 0 ≤ l ∧ l ≤ h ∧ h.toNat ≤ a.length) ∧ ∀ z, z = (a.take h.toNat).drop l.toNat → K (.str ⟨⟨z⟩⟩)
  | _ => False
 | _ => False
def slSlF (sz : Nat) (a : List (List C)) (lo hi : Option C) (K : C → Prop) : Prop :=
 match lo with
 | none => match hi with
  | none => (Side → ∀ r ∈ a, r.length = sz) ∧ K (.sl a)
  | some (.int _ h) => (Side → 0 ≤ h ∧ h.toNat ≤ a.length) ∧ (Side → ∀ r ∈ a, r.length = sz) ∧ ∀ z, z = a.take h.toNat → K (.sl z)
  | _ => False
 | some (.int _ l) => match hi with
  | none => (Side → 0 ≤ l ∧ l.toNat ≤ a.length) ∧ (Side → ∀ r ∈ a, r.length = sz) ∧ ∀ z, z = a.drop l.toNat → K (.sl z)
  | some (.int _ h) => (Side → 0 ≤ l ∧ l ≤ h ∧ h.toNat ≤ a.length) ∧ (Side → ∀ r ∈ a, r.length = sz) ∧ ∀ z, z = (a.take h.toNat).drop l.toNat → K (.sl z)
  | _ => False
 | _ => False
def refSlF (id g es base len : Nat) (lo hi : Option C) (K : C → Prop) : Prop :=
 match lo with
 | none => match hi with
  | none => K (.ref id g es base len)
  | some (.int _ h) => (Side → 0 ≤ h ∧ h.toNat ≤ len) ∧ ∀ n : Nat, n = h.toNat → K (.ref id g es base n)
  | _ => False
 | some (.int _ l) => match hi with
  | none => (Side → 0 ≤ l ∧ l.toNat ≤ len) ∧ ∀ b n : Nat, b = base + l.toNat → n = len - l.toNat → K (.ref id g es b n)
  | some (.int _ h) => (Side → 0 ≤ l ∧ l ≤ h ∧ h.toNat ≤ len) ∧ ∀ b n : Nat, b = base + l.toNat → n = h.toNat - l.toNat → K (.ref id g es b n)
  | _ => False
 | _ => False
def nilSlF (lo hi : Option C) (K : C → Prop) : Prop :=
 match lo with
 | none => match hi with
  | none => K .nils
  | some (.int _ h) => (Side → h = 0) ∧ K .nils
  | _ => False
 | some (.int _ l) => match hi with
  | none => (Side → l = 0) ∧ K .nils
  | some (.int _ h) => (Side → l = 0 ∧ h = 0) ∧ K .nils
  | _ => False
 | _ => False
def sliceF (kd : Kd) (t : TyI) (x : C) (lo hi : Option C) (K : C → Prop) : Prop :=
 match x with
 | .str ⟨⟨a⟩⟩ => if kd ≠ .str then False else strSlF a lo hi K
 | .sl xss => if kd ≠ .slice ∨ t.size = 0 then False else slSlF t.size xss lo hi K
 | .nils => if kd ≠ .slice ∨ t.size = 0 then False else nilSlF lo hi K
 | .ref id g es base len => if kd ≠ .slice ∨ t.size = 0 ∨ es ≠ t.size then False else refSlF id g es base len lo hi K
 | _ => False
def rowsF (o : Nat → EObj) (es : Nat) (x : C) (K : List (List C) → Prop) : Prop :=
 match x with
 | .nils => K []
 | .sl xss => (Side → ∀ r ∈ xss, r.length = es) ∧ K xss
 | .ref id g es' base len => if es' = es ∧ (o id).gen = g then
   match (o id).dat with
   | .many rows => (Side → base + len ≤ rows.length) ∧ ∀ ys, ys = (rows.drop base).take len → K ys
   | .one r => False
  else False
 | _ => False
def appendK (bytes : Nat) (id g es : Nat) (rows : List (List C)) (base len : Nat) (ys : List (List C)) (K : C → List (Nat × EObj) → Prop) : Prop :=
 (Side → base + len ≤ rows.length ∧ (len + ys.length) * bytes ≤ 140737488355328) ∧ ∀ zs, zs = (rows.drop base).take len ++ ys → ∀ m, m = zs.length → K (.ref id (g + 1) es 0 m) [(id, ⟨g + 1, true, es, .many zs⟩)]
def appendN (bytes : Nat) (own g es : Nat) (ys : List (List C)) (K : C → List (Nat × EObj) → Prop) : Prop :=
 (Side → ys.length * bytes ≤ 140737488355328) ∧ ∀ zs, zs = ys → ∀ m, m = zs.length → K (.ref own (g + 1) es 0 m) [(own, ⟨g + 1, true, es, .many zs⟩)]
def appendF (tt : Nat → TyI) (o : Nat → EObj) (own : Nat) (T : Nat) (s x : C) (K : C → List (Nat × EObj) → Prop) : Prop :=
 if (tt T).kd ≠ .slice ∨ (tt (tt T).elem).size = 0 ∨ (tt (tt T).elem).bytes = 0 then False else
 rowsF o (tt (tt T).elem).size x fun ys =>
  match s with
  | .nils => appendN (tt (tt T).elem).bytes own (o own).gen (tt (tt T).elem).size ys K
  | .ref id g es base len =>
   if es = (tt (tt T).elem).size ∧ (o id).gen = g ∧ (o id).rw = true then
    match (o id).dat with
    | .many rows => appendK (tt (tt T).elem).bytes id g es rows base len ys K
    | .one _ => False
   else False
  | _ => False
def lenF (fx : Bool) (kd : Kd) (x : C) (K : C → Prop) : Prop :=
 match x with
 | .str ⟨⟨a⟩⟩ => if kd = .str then ∀ n : Int, 0 ≤ n → n.toNat = a.length → (fx = true → n ≤ 9223372036854775807) → K (.int .i64 n) else False
 | .nils => if kd = .slice then K (.int .i64 0) else False
 | .sl xss => if kd = .slice then ∀ n : Int, 0 ≤ n → n.toNat = xss.length → (fx = true → n ≤ 9223372036854775807) → K (.int .i64 n) else False
 | .ref _ _ _ _ len => if kd = .slice then ∀ n : Int, 0 ≤ n → n.toNat = len → (fx = true → n ≤ 9223372036854775807) → K (.int .i64 n) else False
 | _ => False
def storeK (rows : List (List C)) (row : Nat) (r' : List C) (K : List (List C) → Prop) : Prop := ∀ zs, zs = rows.set row r' → K zs
def makeK (own g es : Nat) (n m : Int) (bytes : Nat) (z : List C) (K : C → List (Nat × EObj) → Prop) : Prop :=
 (Side → n = m ∧ 0 ≤ n ∧ n.toNat * bytes ≤ 140737488355328 ∧ n ≤ 9223372036854775807) ∧ ∀ (k : Nat) rows, k = n.toNat → rows = List.replicate k z → ∀ m, m = rows.length → K (.ref own (g + 1) es 0 m) [(own, ⟨g + 1, true, es, .many rows⟩)]
def opF (fx : Bool) (tt : Nat → TyI) (own : Nat) (s : Nat → C) (o : Nat → EObj) (op : Op) (K : C → List (Nat × EObj) → Prop) : Prop :=
 match op with
 | .move x | .assign x => K (ev s x) []
 | .pick c a b => match ev s c with | .bool t => (match t with | true => K (ev s a) [] | false => K (ev s b) []) | _ => False
 | .alloc T => if (tt T).size = 0 then False else K (.ptr own ((o own).gen + 1) (tt T).size 0 0) [(own, ⟨(o own).gen + 1, true, (tt T).size, .one (tt T).zero⟩)]
 | .box _ x => if (ev s x).cells.all C.cellOK = true then K (.ptr own ((o own).gen + 1) (ev s x).cells.length 0 0) [(own, ⟨(o own).gen + 1, true, (ev s x).cells.length, .one (ev s x).cells⟩)] else False
 | .build T parts => if (tt T).kd ≠ .struct ∨ (tt T).size = 0 ∨ (tt T).flds.all (fun p => (tt p.2).size != 0) = false ∨ parts.toList.all (fun p => (ev s p.2).cells.all C.cellOK) = false then False else
  optE (fillC (fun i => ((tt T).flds[i]?).map fun p => (p.1, (tt p.2).size)) (tt T).zero (parts.toList.map fun (i, x) => (i, (ev s x).cells))) fun cs => K (.agg cs) []
 | .buildSlice T len parts =>
  if (tt T).kd = .slice ∧ parts.toList.all (fun p => (ev s p.2).cells.all C.cellOK) = true ∧ len * (tt (tt T).elem).size ≤ 2 ^ 24 ∧ (tt (tt T).elem).size ≠ 0 then
   optE (fillR (tt (tt T).elem).size (List.replicate len (tt (tt T).elem).zero) (parts.toList.map fun (i, x) => (i, (ev s x).cells))) fun rows =>
    K (.ref own ((o own).gen + 1) (tt (tt T).elem).size 0 len) [(own, ⟨(o own).gen + 1, true, (tt (tt T).elem).size, .many rows⟩)]
  else False
 | .load T a => match ev s a with
  | .ptr id g _ row off => if (o id).gen = g ∧ (tt T).size ≠ 0 then
    match (o id).dat with
    | .one r => if row = 0 then optE (loadC (tt T) r off) fun v => K v [] else False
    | .many rows => (Side → row < rows.length) ∧ ∀ r, rows[row]? = some r → optE (loadC (tt T) r off) fun v => K v []
   else False
  | .ip cs off => if (tt T).size ≠ 0 then optE (loadC (tt T) cs off) fun v => K v [] else False
  | _ => False
 | .store T a x => match ev s a with
  | .ptr id g es row off =>
   if (o id).gen = g ∧ (o id).rw = true ∧ (tt T).size ≠ 0 ∧ (ev s x).cells.length = (tt T).size ∧ (ev s x).cells.all C.cellOK = true ∧ off + (tt T).size ≤ es then
    match (o id).dat with
    | .one r => if row = 0 then K .undef [(id, ⟨(o id).gen, (o id).rw, (o id).es, .one (splice r off (ev s x).cells)⟩)] else False
    | .many rows => (Side → row < rows.length) ∧ ∀ r, rows[row]? = some r → storeK rows row (splice r off (ev s x).cells) fun zs => K .undef [(id, ⟨(o id).gen, (o id).rw, (o id).es, .many zs⟩)]
   else False
  | _ => False
 | .nilCheck x => match ev s x with
  | .ptr id g es row off => K (.ptr id g es row off) []
  | .ip cs off => K (.ip cs off) []
  | _ => False
 | .binOp b T x y _ => if (tt T).size = 0 then False else binF (tt T) b (ev s x) (ev s y) fun v => K v []
 | .unOp u _ x => match u, ev s x with
  | .not, .bool b => match b with | true => K (.bool false) [] | false => K (.bool true) []
  | .neg, .int k n => ∀ z, (rangeP k (0 - n) → z = 0 - n) → K (.int k z) []
  | _, _ => False
 | .convert S D x => if (tt S).size = 0 ∨ (tt D).size = 0 then False else match ev s x, (tt D).kd with
  | .int _ n, .int k' => ∀ z, (rangeP k' n → z = n) → K (.int k' z) []
  | .int _ n, .str => ∀ z, z = (Utf8.encode n).data.toList → K (.str ⟨⟨z⟩⟩) []
  | _, _ => False
 | .makeFunc (.func g) first captured => if first.toList.isEmpty = true ∧ captured.toList.all (fun x => (ev s x).cellOK) = true then K (.fn g (captured.toList.map (ev s))) [] else False
 | .makeSlice T l c => match ev s l, ev s c with
  | .int .i64 n, .int .i64 m =>
   if (tt T).kd = .slice ∧ (tt (tt T).elem).size ≠ 0 then makeK own (o own).gen (tt (tt T).elem).size n m (tt (tt T).elem).bytes (tt (tt T).elem).zero K
   else False
  | _, _ => False
 | .slice T x none (some h) (some m) => if (tt T).kd = .slice ∧ (tt (tt T).elem).size ≠ 0 then match ev s x with
  | .sl xss => match ev s h with
   | .int _ n => match ev s m with
    | .int _ n' => (Side → n.toNat = xss.length ∧ n'.toNat = xss.length ∧ 0 ≤ n ∧ 0 ≤ n') ∧ K (.sl xss) []
    | _ => False
   | _ => False
  | _ => False
  else False
 | .slice T x lo hi none => if (tt T).size = 0 then False else sliceF (tt T).kd (tt (tt T).elem) (ev s x) (lo.map (ev s)) (hi.map (ev s)) fun v => K v []
 | .fieldAddr T a f => match (tt T).flds[f]? with
  | none => False
  | some (fo, ft) => if (tt T).kd ≠ .struct ∨ (tt T).size = 0 ∨ (tt ft).size = 0 then False else match ev s a with
   | .ptr id g es row off => K (.ptr id g es row (off + fo)) []
   | .ip cs off => K (.ip cs (off + fo)) []
   | _ => False
 | .field T x f => match (tt T).flds[f]?, ev s x with
  | some (fo, ft), .agg cs => if (tt T).kd ≠ .struct ∨ (tt T).size = 0 ∨ (tt ft).size = 0 then False else optE (loadC (tt ft) cs fo) fun v => K v []
  | _, _ => False
 | .indexAddr T x i => match ev s i with
  | .int _ n => match ev s x with
   | .sl xss => if (tt T).kd = .slice ∧ (tt (tt T).elem).size ≠ 0 then (Side → 0 ≤ n ∧ n.toNat < xss.length) ∧ ∀ (j : Nat) (r : List C), j = n.toNat → xss[j]? = some r → (r.length = (tt (tt T).elem).size ∧ K (.ip r 0) []) else False
   | .ref id g es base len => if (tt T).kd = .slice ∧ es ≠ 0 ∧ es = (tt (tt T).elem).size then (Side → 0 ≤ n ∧ n.toNat < len) ∧ ∀ row : Nat, row = base + n.toNat → K (.ptr id g es row 0) [] else False
   | _ => False
  | _ => False
 | .index T x i => if (tt T).kd ≠ .str then False else match ev s x, ev s i with
  | .str ⟨⟨a⟩⟩, .int _ n => (Side → 0 ≤ n ∧ n.toNat < a.length) ∧ ∀ (j : Nat) (b : UInt8), j = n.toNat → a[j]? = some b → ∀ z : Int, 0 ≤ z → z.toNat = b.toNat → K (.int .u8 z) []
  | _, _ => False
 | .extract t ix => match ev s t with
  | .tup vs => optE (vs[ix]?) fun v => K v []
  | _ => False
 | .call c => match c.callee with
  | .builtin .len => match c.args.toList, c.argTypes.toList with
   | [x], [T] => if (tt T).size = 0 then False else lenF fx (tt T).kd (ev s x) fun v => K v []
   | _, _ => False
  | .builtin .append => match c.args.toList, c.argTypes.toList with
   | [x, y], [T, U] => if (tt U).kd = .slice then appendF tt o own T (ev s x) (ev s y) K else False
   | _, _ => False
  | .builtin .min => match c.args.toList with
   | [x, y] => match ev s x, ev s y with
    | .int k m, .int _ n => (n < m → K (.int k n) []) ∧ (m ≤ n → K (.int k m) [])
    | _, _ => False
   | _ => False
  | _ => False
 | _ => False
end Go.Proofs.YtchpopejojghmaaGreatDoor.M
/- The evaluator is right: operations. -/
namespace Go.Proofs.YtchpopejojghmaaGreatDoor.M
open Go
section
variable {tt tt0 : Nat → TyI} {own : Nat} {s : Nat → C} {o : Nat → EObj}
theorem sub_kd (hsub : ∀ T, tt0 T = noTy ∨ tt T = tt0 T) {T : Nat} {k : Kd} (hk : k ≠ .other) (h : (tt0 T).kd = k) : tt T = tt0 T := by
 rcases hsub T with e | e
 ·rw [e] at h; exact absurd h.symm hk
 ·exact e
theorem sub_sz (hsub : ∀ T, tt0 T = noTy ∨ tt T = tt0 T) {T : Nat} (h : (tt0 T).size ≠ 0) : tt T = tt0 T := by
 rcases hsub T with e | e
 ·rw [e] at h; exact absurd rfl h
 ·exact e
theorem optE_some {α : Type} {x : Option α} {K : α → Prop} (h : optE x K) : ∃ d, x = some d ∧ K d := by
 cases x with
 | none => exact h.elim
 | some d => exact ⟨d, rfl, h⟩
theorem wrap_range {k : IntKind} {z : Int} (h : rangeP k z) : k.wrap z = z := by
 cases k <;> simp only [rangeP] at h <;> simp [IntKind.wrap, IntKind.bits, IntKind.signed] <;> omega
theorem intF_sound {k : IntKind} {op : BinOp} {x y : Int} {K : C → Prop} (h : intF op k x y K) : ∃ v, binInt op k x y = some v ∧ K v := by
 cases op <;> simp only [intF] at h
 case add => exact ⟨_, rfl, h _ fun hr => wrap_range hr⟩
 case sub => exact ⟨_, rfl, h _ fun hr => wrap_range hr⟩
 case mul => exact ⟨_, rfl, h _ fun hr => wrap_range hr⟩
 case quo => exact ⟨_, if_neg (h.1 trivial), h.2 _ fun hr => wrap_range hr⟩
 case rem => exact ⟨_, if_neg (h.1 trivial), h.2 _ rfl⟩
 case xor =>
  cases k <;> simp only at h
  case i64 => exact ⟨_, rfl, h _ rfl⟩
  all_goals exact h.elim
 case eql =>
  by_cases e : x = y
  ·exact ⟨.bool true, by simp [binInt, e], h.1 e⟩
  ·exact ⟨.bool false, by simp [binInt, e], h.2 e⟩
 case neq =>
  by_cases e : x = y
  ·exact ⟨.bool false, by simp [binInt, e], h.2 e⟩
  ·exact ⟨.bool true, by simp [binInt, e], h.1 e⟩
 case lss =>
  by_cases e : x < y
  ·exact ⟨.bool true, by simp [binInt, e], h.1 e⟩
  ·exact ⟨.bool false, by simp [binInt, e], h.2 (by omega)⟩
 case leq =>
  by_cases e : x ≤ y
  ·exact ⟨.bool true, by simp [binInt, e], h.1 e⟩
  ·exact ⟨.bool false, by simp [binInt, e], h.2 (by omega)⟩
 case gtr =>
  by_cases e : y < x
  ·exact ⟨.bool true, by simp [binInt, e], h.1 e⟩
  ·exact ⟨.bool false, by simp [binInt]; omega, h.2 (by omega)⟩
 case geq =>
  by_cases e : y ≤ x
  ·exact ⟨.bool true, by simp [binInt, e], h.1 e⟩
  ·exact ⟨.bool false, by simp [binInt]; omega, h.2 (by omega)⟩
theorem toList_mk (a : List UInt8) : (ByteArray.mk ⟨a⟩).toList = a := by
 rw [ByteArray.toList_eq] <;> rfl
theorem size_mk (a : List UInt8) : (ByteArray.mk ⟨a⟩).size = a.length := rfl
theorem strF_sound {op : BinOp} {x y : List UInt8} {K : C → Prop} (h : strF op x y K) : ∃ v, binStr op ⟨⟨x⟩⟩ ⟨⟨y⟩⟩ = some v ∧ K v := by
 cases op <;> simp only [strF] at h
 case add =>
  refine ⟨_, ?_, h.2 _ rfl⟩
  have h1 : x.length + y.length ≤ 9223372036854775807 := h.1 trivial
  simp only [binStr, size_mk, if_pos h1]
  congr 2
 case eql =>
  by_cases e : x = y
  ·exact ⟨.bool true, by simp [binStr, toList_mk, e], h.1 e⟩
  ·exact ⟨.bool false, by simp [binStr, toList_mk, e], h.2 e⟩
 case neq =>
  by_cases e : x = y
  ·exact ⟨.bool false, by simp [binStr, toList_mk, e], h.2 e⟩
  ·exact ⟨.bool true, by simp [binStr, toList_mk, e], h.1 e⟩
 case lss =>
  cases e : Op.bytesLess x y
  ·exact ⟨.bool false, by simp [binStr, toList_mk, e], h.2 e⟩
  ·exact ⟨.bool true, by simp [binStr, toList_mk, e], h.1 e⟩
 case leq =>
  by_cases e : Op.bytesLess x y = true ∨ x = y
  ·exact ⟨.bool true, by simp [binStr, toList_mk, e], h.1 e⟩
  ·simp only [not_or, Bool.not_eq_true] at e
   exact ⟨.bool false, by simp [binStr, toList_mk, e], h.2 e.1 e.2⟩
 case gtr =>
  by_cases e : Op.bytesLess x y = true ∨ x = y
  ·refine ⟨.bool false, ?_, h.1 e⟩
   rcases e with e | e <;> simp [binStr, toList_mk, e]
  ·simp only [not_or, Bool.not_eq_true] at e
   exact ⟨.bool true, by simp [binStr, toList_mk, e], h.2 e.1 e.2⟩
 case geq =>
  cases e : Op.bytesLess x y
  ·exact ⟨.bool true, by simp [binStr, toList_mk, e], h.2 e⟩
  ·exact ⟨.bool false, by simp [binStr, toList_mk, e], h.1 e⟩
theorem binF_sound {t : TyI} {op : BinOp} {x y : C} {K : C → Prop} (h : binF t op x y K) : ∃ v, binC t op x y = some v ∧ K v := by
 unfold binF at h
 split at h
 ·split at h
  ·rename_i e
   obtain ⟨v, hv, hK⟩ := intF_sound h
   exact ⟨v, by simp only [binC, if_pos e, hv], hK⟩
  ·exact h.elim
 ·obtain ⟨v, hv, hK⟩ := strF_sound h
  exact ⟨v, hv, hK⟩
 ·rename_i a b
  split at h
  ·rename_i e
   cases op <;> simp only at h <;> first
    | exact h.elim
    | (cases a <;> cases b <;> simp only at h <;> exact ⟨_, by simp only [binC]; rw [if_neg (by simp [e])]; rfl, h⟩)
  ·exact h.elim
 ·rename_i a b
  split at h
  ·exact h.elim
  ·rename_i e
   cases op <;> simp only at h <;> first
    | (obtain ⟨r, h1, h2⟩ := h
       exact ⟨.bool r, by simp only [binC, if_neg e, h1]; simp, h2⟩)
    | exact h.elim
 ·exact h.elim
theorem extract_mk (a : List UInt8) (l h : Nat) : (ByteArray.mk ⟨a⟩).extract l h = ⟨⟨(a.take h).drop l⟩⟩ := by
 apply ByteArray.ext
 simp [ByteArray.data_extract, List.extract_eq_take_drop, List.drop_take]
theorem strSlF_sound {a : List UInt8} {lo hi : Option C} {K : C → Prop} (t : TyI) (h : strSlF a lo hi K) : ∃ v, sliceC .str t (.str ⟨⟨a⟩⟩) lo hi = some v ∧ K v := by
 have key : ∀ (l hh : Int) (z : List UInt8), bnd lo 0 = some l → bnd hi a.length = some hh → 0 ≤ l ∧ l ≤ hh ∧ hh ≤ a.length → z = (a.take hh.toNat).drop l.toNat → K (.str ⟨⟨z⟩⟩) → ∃ v, sliceC .str t (.str ⟨⟨a⟩⟩) lo hi = some v ∧ K v := by
  intro l hh z e1 e2 hb hz hK
  have e2 : bnd hi (ByteArray.mk ⟨a⟩).size = some hh := e2
  refine ⟨_, ?_, hK⟩
  simp only [sliceC, e1, e2, ne_eq, not_true_eq_false, if_false]
  have hb : 0 ≤ l ∧ l ≤ hh ∧ hh ≤ ((ByteArray.mk ⟨a⟩).size : Int) := hb
  rw [if_pos hb, extract_mk, hz]
 unfold strSlF at h
 split at h <;> (first | exact h.elim | split at h) <;> first
  | exact h.elim
  | skip
 ·exact key 0 a.length a rfl rfl (by omega) (by simp) h
 ·rename_i k hh
  have hb := h.1 trivial
  exact key 0 hh _ rfl rfl (by omega) rfl (h.2 _ (by simp))
 ·rename_i l _
  have hb := h.1 trivial
  exact key l a.length _ rfl rfl (by omega) rfl (h.2 _ (by simp))
 ·rename_i l _ _ hh
  have hb := h.1 trivial
  exact key l hh _ rfl rfl (by omega) rfl (h.2 _ rfl)
theorem slSlF_sound {a : List (List C)} {lo hi : Option C} {K : C → Prop} (t : TyI) (ht : t.size ≠ 0) (h : slSlF t.size a lo hi K) : ∃ v, sliceC .slice t (.sl a) lo hi = some v ∧ K v := by
 have key : ∀ (l hh : Int) (z : List (List C)), bnd lo 0 = some l → bnd hi a.length = some hh → 0 ≤ l ∧ l ≤ hh ∧ hh ≤ a.length → (∀ r ∈ a, r.length = t.size) → z = (a.take hh.toNat).drop l.toNat → K (.sl z) → ∃ v, sliceC .slice t (.sl a) lo hi = some v ∧ K v := by
  intro l hh z e1 e2 hb hr hz hK
  refine ⟨_, ?_, hK⟩
  simp only [sliceC, e1, e2]
  rw [if_neg (by simp [ht])]
  rw [if_pos ⟨hb.1, hb.2.1, hb.2.2, hr⟩, hz]
 unfold slSlF at h
 split at h <;> (first | exact h.elim | split at h) <;> first
  | exact h.elim
  | skip
 ·exact key 0 a.length a rfl rfl (by omega) (h.1 trivial) (by simp) h.2
 ·rename_i k hh
  have hb := h.1 trivial
  exact key 0 hh _ rfl rfl (by omega) (h.2.1 trivial) rfl (h.2.2 _ (by simp))
 ·rename_i l _
  have hb := h.1 trivial
  exact key l a.length _ rfl rfl (by omega) (h.2.1 trivial) rfl (h.2.2 _ (by simp))
 ·rename_i l _ _ hh
  have hb := h.1 trivial
  exact key l hh _ rfl rfl (by omega) (h.2.1 trivial) rfl (h.2.2 _ rfl)
theorem refSlF_sound {id g es base len : Nat} {lo hi : Option C} {K : C → Prop} (t : TyI) (ht : t.size ≠ 0) (hes : es = t.size) (h : refSlF id g es base len lo hi K) : ∃ v, sliceC .slice t (.ref id g es base len) lo hi = some v ∧ K v := by
 have key : ∀ (l hh : Int) (b n : Nat), bnd lo 0 = some l → bnd hi len = some hh → 0 ≤ l ∧ l ≤ hh ∧ hh ≤ len → (b : Int) = base + l → (n : Int) = hh - l → K (.ref id g es b n) → ∃ v, sliceC .slice t (.ref id g es base len) lo hi = some v ∧ K v := by
  intro l hh b n e1 e2 hb h1 h2 hK
  refine ⟨_, ?_, hK⟩
  simp only [sliceC, e1, e2]
  rw [if_neg (by simp [ht])]
  rw [if_pos ⟨hb.1, hb.2.1, hb.2.2, hes⟩]
  have h3 : base + l.toNat = b := by omega
  have h4 : hh.toNat - l.toNat = n := by omega
  rw [h3, h4]
 unfold refSlF at h
 split at h <;> (first | exact h.elim | split at h) <;> first
  | exact h.elim
  | skip
 ·exact key 0 len base len rfl rfl (by omega) (by omega) (by omega) h
 ·rename_i k hh
  have hb := h.1 trivial
  exact key 0 hh base hh.toNat rfl rfl (by omega) (by omega) (by omega) (h.2 _ (by omega))
 ·rename_i l _
  have hb := h.1 trivial
  exact key l len (base + l).toNat (len - l).toNat rfl rfl (by omega) (by omega) (by omega) (h.2 _ _ (by omega) (by omega))
 ·rename_i l _ _ hh
  have hb := h.1 trivial
  exact key l hh (base + l).toNat (hh - l).toNat rfl rfl (by omega) (by omega) (by omega) (h.2 _ _ (by omega) (by omega))
theorem nilSlF_sound {lo hi : Option C} {K : C → Prop} (t : TyI) (ht : t.size ≠ 0) (h : nilSlF lo hi K) : ∃ v, sliceC .slice t .nils lo hi = some v ∧ K v := by
 have key : bnd lo 0 = some 0 → bnd hi 0 = some 0 → K .nils → ∃ v, sliceC .slice t .nils lo hi = some v ∧ K v := by
  intro e1 e2 hK
  refine ⟨_, ?_, hK⟩
  simp only [sliceC, e1, e2]
  rw [if_neg (by simp [ht])]
  simp
 unfold nilSlF at h
 split at h <;> (first | exact h.elim | split at h) <;> first
  | exact h.elim
  | skip
 ·exact key rfl rfl h
 ·rename_i k hh; obtain ⟨e, h⟩ := h; obtain rfl := e trivial; exact key rfl rfl h
 ·rename_i k hh; obtain ⟨e, h⟩ := h; obtain rfl := e trivial; exact key rfl rfl h
 ·rename_i k hh k' h'; obtain ⟨e, h⟩ := h; obtain ⟨rfl, rfl⟩ := e trivial; exact key rfl rfl h
theorem sliceF_sound {kd : Kd} {t : TyI} {x : C} {lo hi : Option C} {K : C → Prop} (h : sliceF kd t x lo hi K) : ∃ v, sliceC kd t x lo hi = some v ∧ K v := by
 unfold sliceF at h
 split at h
 ·split at h
  ·exact h.elim
  ·rename_i hk; simp only [ne_eq, Decidable.not_not] at hk; subst hk; exact strSlF_sound t h
 ·split at h
  ·exact h.elim
  ·rename_i hk; simp only [ne_eq, not_or, Decidable.not_not] at hk; obtain ⟨rfl, h2⟩ := hk; exact slSlF_sound t h2 h
 ·split at h
  ·exact h.elim
  ·rename_i hk; simp only [ne_eq, not_or, Decidable.not_not] at hk; obtain ⟨rfl, h2⟩ := hk; exact nilSlF_sound t h2 h
 ·split at h
  ·exact h.elim
  ·rename_i hk; simp only [ne_eq, not_or, Decidable.not_not] at hk; obtain ⟨rfl, h2, h3⟩ := hk; exact refSlF_sound t h2 h3 h
 ·exact h.elim
theorem toO_rows {id : Nat} {rows : List (List C)} (hd : (o id).dat = .many rows) : (toO o id).rows = rows := by simp [toO, EObj.toObj, hd, ED.rows]
theorem toO_one {id : Nat} {r : List C} (hd : (o id).dat = .one r) : (toO o id).rows = [r] := by simp [toO, EObj.toObj, hd, ED.rows]
theorem toO_at {id : Nat} {g : Nat} (h : (o id).gen = g) : (toO o id).gen = g := h
theorem rowsF_sound {es : Nat} {x : C} {K : List (List C) → Prop} (h : rowsF o es x K) : ∃ ys, rowsOf (toO o) es x = some ys ∧ K ys := by
 unfold rowsF at h
 split at h
 ·exact ⟨_, rfl, h⟩
 ·exact ⟨_, if_pos (h.1 trivial), h.2⟩
 ·rename_i id g es' base len
  split at h
  ·rename_i e
   split at h
   ·rename_i rows hd
    obtain ⟨h1, h2⟩ := h
    have hr := toO_rows hd
    exact ⟨_, by simp only [rowsOf]; rw [if_pos ⟨e.1, toO_at e.2, by rw [hr]; exact h1 trivial⟩, hr], h2 _ rfl⟩
   ·exact h.elim
  ·exact h.elim
 ·exact h.elim
theorem appendF_sound (hsub : ∀ T, tt0 T = noTy ∨ tt T = tt0 T) {T : Nat} {x y : C} {K : C → List (Nat × EObj) → Prop} (h : appendF tt0 o own T x y K) : ∃ v ups, appendC tt (toO o) own T x y = some ⟨v, upsO ups⟩ ∧ K v ups := by
 unfold appendF at h
 split at h
 ·exact h.elim
 ·rename_i hk
  have hk' := hk
  simp only [not_or, Decidable.not_not] at hk'
  have e1 := sub_kd hsub (by decide) hk'.1
  have e2 := sub_sz hsub hk'.2.1
  obtain ⟨ys, hys, hK⟩ := rowsF_sound h
  clear h
  revert hK
  intro h
  unfold appendC
  simp only [e1, e2, if_neg hk, hys]
  split at h
  ·obtain ⟨h1, h2⟩ := h
   have h1 : ys.length * (tt0 (tt0 T).elem).bytes ≤ cap47 := h1 trivial
   exact ⟨_, _, by rw [if_pos h1]; rfl, h2 _ rfl _ rfl⟩
  ·rename_i id g es base len
   split at h
   ·rename_i e
    split at h
    ·rename_i rows hd
     obtain ⟨h1, h2⟩ := h
     have hr := toO_rows hd
     refine ⟨_, _, ?_, h2 _ rfl _ rfl⟩
     simp only
     rw [if_pos ⟨e.1, e.2.1, e.2.2, by rw [hr]; exact (h1 trivial).1, (h1 trivial).2⟩, hr]
     rfl
    ·exact h.elim
   ·exact h.elim
  ·exact h.elim
theorem lenF_sound {fx : Bool} {kd : Kd} {x : C} {K : C → Prop} (hb : fx = true → Bd x) (h : lenF fx kd x K) : ∃ v, lenC kd x = some v ∧ K v := by
 have c63 : ∀ n : Nat, n ≤ bnd63 → (n : Int) ≤ 9223372036854775807 := by intro n hn; unfold bnd63 at hn; omega
 cases x <;> simp only [lenF] at h <;> first
  | exact h.elim
  | skip
 case str s =>
  split at h
  ·rename_i e
   refine ⟨_, if_pos e, h _ (by omega) (by simp) fun hf => ?_⟩
   cases hb hf with | str _ h => exact c63 _ h
  ·exact h.elim
 case nils =>
  split at h
  ·rename_i e; exact ⟨_, if_pos e, h⟩
  ·exact h.elim
 case sl xss =>
  split at h
  ·rename_i e
   refine ⟨_, if_pos e, h _ (by omega) (by simp) fun hf => ?_⟩
   cases hb hf with | sl _ h => exact c63 _ h
  ·exact h.elim
 case ref id g es base len =>
  split at h
  ·rename_i e
   refine ⟨_, if_pos e, h _ (by omega) (by simp) fun hf => ?_⟩
   cases hb hf with | ref _ _ _ _ _ h => exact c63 _ h
  ·exact h.elim
theorem encode_mk (n : Int) : (⟨⟨(Utf8.encode n).data.toList⟩⟩ : ByteArray) = Utf8.encode n := rfl
set_option maxHeartbeats 1600000 in
theorem opF_sound (hsub : ∀ T, tt0 T = noTy ∨ tt T = tt0 T) {fx : Bool} {op : Op} (hb : fx = true → ∀ x ∈ op.operands, Bd (ev s x)) (ty : Nat) {K : C → List (Nat × EObj) → Prop} (h : opF fx tt0 own s o op K) : ∃ v ups, evalOp tt own s (toO o) ty op = some ⟨v, upsO ups⟩ ∧ K v ups := by
 cases op with
 | move x => exact ⟨_, [], rfl, h⟩
 | assign x => exact ⟨_, [], rfl, h⟩
 | pick c a b =>
  simp only [opF] at h
  split at h
  ·rename_i t ht
   refine ⟨_, [], by simp only [evalOp, ht]; rfl, ?_⟩
   cases t <;> exact h
  ·exact h.elim
 | alloc T =>
  simp only [opF] at h
  split at h
  ·exact h.elim
  ·rename_i hz
   exact ⟨_, _, by simp only [evalOp, sub_sz hsub hz, if_neg hz]; rfl, h⟩
 | box T x =>
  simp only [opF] at h
  split at h
  ·rename_i e; exact ⟨_, _, by simp only [evalOp, if_pos e]; rfl, h⟩
  ·exact h.elim
 | build T parts =>
  simp only [opF] at h
  split at h
  ·exact h.elim
  ·rename_i hk
   have hk' := hk
   simp only [not_or, Decidable.not_not] at hk'
   obtain ⟨h1, h2, h3, h4⟩ := hk'
   have e1 := sub_kd hsub (by decide) h1
   have hall : ∀ p ∈ (tt0 T).flds, tt p.2 = tt0 p.2 := by
    intro p hp
    have h3 : (tt0 T).flds.all (fun p => (tt0 p.2).size != 0) = true := by
     cases hx : (tt0 T).flds.all (fun p => (tt0 p.2).size != 0) with
     | true => rfl
     | false => exact absurd hx h3
    rw [List.all_eq_true] at h3
    exact sub_sz hsub (by simpa using h3 p hp)
   have hfl : ∀ i : Nat, ((tt0 T).flds[i]?).map (fun (p : Nat × Nat) => (p.1, (tt p.2).size)) = ((tt0 T).flds[i]?).map fun (p : Nat × Nat) => (p.1, (tt0 p.2).size) := by
    intro i
    cases hx : (tt0 T).flds[i]? with
    | none => rfl
    | some p => simp [hall p (List.mem_of_getElem? hx)]
   have hal : (tt0 T).flds.all (fun p => (tt p.2).size != 0) = (tt0 T).flds.all (fun p => (tt0 p.2).size != 0) := by
    rw [Bool.eq_iff_iff, List.all_eq_true, List.all_eq_true]
    exact ⟨fun h p hp => by rw [← hall p hp]; exact h p hp, fun h p hp => by rw [hall p hp]; exact h p hp⟩
   obtain ⟨cs, hcs, hK⟩ := optE_some h
   refine ⟨.agg cs, [], ?_, hK⟩
   simp only [evalOp, e1, hal, if_neg hk]
   rw [show (fun i : Nat => ((tt0 T).flds[i]?).map fun (p : Nat × Nat) => (p.1, (tt p.2).size)) = fun i : Nat => ((tt0 T).flds[i]?).map fun (p : Nat × Nat) => (p.1, (tt0 p.2).size) from funext hfl, hcs]
   rfl
 | buildSlice T len parts =>
  simp only [opF] at h
  split at h
  ·rename_i hk
   have e1 := sub_kd hsub (by decide) hk.1
   have e2 := sub_sz hsub hk.2.2.2
   obtain ⟨rows, hr, hK⟩ := optE_some h
   refine ⟨_, _, ?_, hK⟩
   simp only [evalOp, e1, e2, if_pos hk, hr]
   rfl
  ·exact h.elim
 | load T a =>
  simp only [opF] at h
  split at h
  ·rename_i id g es row off ha
   split at h
   ·rename_i e
    have e1 := sub_sz hsub e.2
    split at h
    ·rename_i r hd
     split at h
     ·rename_i hrow
      obtain ⟨v, hv, hK⟩ := optE_some h
      refine ⟨v, [], ?_, hK⟩
      simp only [evalOp, ha, e1]
      rw [if_pos (toO_at e.1), toO_one hd, hrow]
      simp [hv, upsO]
     ·exact h.elim
    ·rename_i rows hd
     obtain ⟨h1, h⟩ := h
     have h1 := h1 trivial
     have h2 : rows[row]? = some rows[row] := List.getElem?_eq_getElem h1
     obtain ⟨v, hv, hK⟩ := optE_some (h _ h2)
     refine ⟨v, [], ?_, hK⟩
     simp only [evalOp, ha, e1]
     rw [if_pos (toO_at e.1), toO_rows hd, h2]
     simp [hv, upsO]
   ·exact h.elim
  ·rename_i cs off ha
   split at h
   ·rename_i e
    obtain ⟨v, hv, hK⟩ := optE_some h
    exact ⟨v, [], by simp [evalOp, ha, sub_sz hsub e, hv, upsO], hK⟩
   ·exact h.elim
  ·exact h.elim
 | store T a x =>
  simp only [opF] at h
  split at h
  ·rename_i id g es row off ha
   split at h
   ·rename_i e
    obtain ⟨g1, g2, g3, g4, g5, g6⟩ := e
    have e1 := sub_sz hsub g3
    split at h
    ·rename_i r hd
     split at h
     ·rename_i hrow
      subst hrow
      have hr := toO_one hd
      refine ⟨_, _, ?_, h⟩
      simp only [evalOp, ha, e1]
      rw [if_pos ⟨toO_at g1, g2, g3, g4, g5, by rw [hr]; simp, g6⟩]
      simp only [upsO, List.map_cons, List.map_nil, hr]
      rfl
     ·exact h.elim
    ·rename_i rows hd
     obtain ⟨h0, h⟩ := h
     have h0 := h0 trivial
     have h1 : rows[row]? = some rows[row] := List.getElem?_eq_getElem h0
     have h := h _ h1
     have hr := toO_rows hd
     refine ⟨_, _, ?_, h _ rfl⟩
     simp only [evalOp, ha, e1]
     rw [if_pos ⟨toO_at g1, g2, g3, g4, g5, by rw [hr]; exact h0, g6⟩]
     simp only [upsO, List.map_cons, List.map_nil, hr, List.getD_eq_getElem?_getD, h1, Option.getD_some]
     rfl
   ·exact h.elim
  ·exact h.elim
 | nilCheck x =>
  simp only [opF] at h
  split at h
  ·rename_i hx; exact ⟨_, [], by simp only [evalOp, hx]; rfl, h⟩
  ·rename_i hx; exact ⟨_, [], by simp only [evalOp, hx]; rfl, h⟩
  ·exact h.elim
 | binOp b T x y z =>
  simp only [opF] at h
  split at h
  ·exact h.elim
  ·rename_i hz
   obtain ⟨v, hv, hK⟩ := binF_sound h
   exact ⟨v, [], by simp [evalOp, sub_sz hsub hz, hv, upsO], hK⟩
 | unOp u T x =>
  simp only [opF] at h
  split at h
  ·rename_i b hx
   exact ⟨.bool (!b), [], by simp [evalOp, hx, upsO], by cases b <;> exact h⟩
  ·rename_i k n hx
   exact ⟨_, [], by simp [evalOp, hx, upsO], h _ fun hr => wrap_range hr⟩
  ·exact h.elim
 | convert S D x =>
  simp only [opF] at h
  split at h
  ·exact h.elim
  ·rename_i hz
   simp only [not_or] at hz
   split at h
   ·rename_i k n k' hx hd
    exact ⟨_, [], by simp [evalOp, sub_sz hsub hz.1, sub_sz hsub hz.2, hz.1, hx, hd, upsO], h _ fun hr => wrap_range hr⟩
   ·rename_i k n hx hd
    have hK := h _ rfl
    rw [encode_mk] at hK
    exact ⟨_, [], by simp [evalOp, sub_sz hsub hz.1, sub_sz hsub hz.2, hz.1, hx, hd, upsO], hK⟩
   ·exact h.elim
 | makeSlice T l c =>
  simp only [opF] at h
  split at h
  ·rename_i n m h1 h2
   split at h
   ·rename_i hk
    have e1 := sub_kd hsub (by decide) hk.1
    have e2 := sub_sz hsub hk.2
    obtain ⟨hc, hK⟩ := h
    have hc := hc trivial
    have hK := hK n.toNat _ rfl rfl _ rfl
    have hbt : n * (tt0 (tt0 T).elem).bytes ≤ (cap47 : Int) := by
     have h1 : ((n.toNat * (tt0 (tt0 T).elem).bytes : Nat) : Int) ≤ (140737488355328 : Nat) := by exact_mod_cast hc.2.2.1
     rw [Int.natCast_mul, Int.toNat_of_nonneg hc.2.1] at h1
     exact h1
    simp only [List.length_replicate] at hK
    refine ⟨_, _, ?_, hK⟩
    simp only [evalOp, h1, h2, e1, e2]
    rw [if_pos ⟨hk.1, hc.1, hc.2.1, hbt, hc.2.2.2, hk.2⟩]
    rfl
   ·exact h.elim
  ·exact h.elim
 | slice T x lo hi mx =>
  cases mx with
  | none =>
   simp only [opF] at h
   split at h
   ·exact h.elim
   ·rename_i hz
    obtain ⟨v, hv, hK⟩ := sliceF_sound h
    have e1 := sub_sz hsub hz
    refine ⟨v, [], ?_, hK⟩
    have hel : sliceC (tt T).kd (tt (tt T).elem) (ev s x) (lo.map (ev s)) (hi.map (ev s)) = some v := by
     rw [e1]
     rcases hsub (tt0 T).elem with hn | hn
     ·have : (tt0 (tt0 T).elem).size = 0 := by rw [hn]; rfl
      unfold sliceC at hv ⊢
      split at hv
      ·exact hv
      ·simp [this] at hv
      ·simp [this] at hv
      ·simp [this] at hv
      ·cases hv
     ·rw [hn]; exact hv
    simp [evalOp, hel, upsO]
  | some m =>
   cases lo with
   | some l => simp [opF] at h
   | none =>
   cases hi with
   | none => simp [opF] at h
   | some y =>
   simp only [opF] at h
   split at h
   ·rename_i hk
    have e1 := sub_kd hsub (by decide) hk.1
    have e2 := sub_sz hsub hk.2
    split at h
    ·rename_i hx
     split at h
     ·rename_i hy
      split at h
      ·rename_i hm
       obtain ⟨h1, hK⟩ := h
       obtain ⟨q1, q2, q3, q4⟩ := h1 trivial
       refine ⟨_, [], ?_, hK⟩
       simp only [evalOp, hx, hy, hm, e1, e2]
       rw [if_pos ⟨hk.1, hk.2, by omega, by omega⟩]
       rfl
      ·exact h.elim
     ·exact h.elim
    ·exact h.elim
   ·exact h.elim
 | fieldAddr T a f =>
  simp only [opF] at h
  split at h
  ·exact h.elim
  ·rename_i fo ft hf
   split at h
   ·exact h.elim
   ·rename_i hk
    have hk' := hk
    simp only [not_or, Decidable.not_not] at hk'
    have e1 := sub_kd hsub (by decide) hk'.1
    have e2 := sub_sz hsub hk'.2.2
    split at h
    ·rename_i hx; exact ⟨_, [], by simp only [evalOp, e1, hf, e2, if_neg hk, hx]; rfl, h⟩
    ·rename_i hx; exact ⟨_, [], by simp only [evalOp, e1, hf, e2, if_neg hk, hx]; rfl, h⟩
    ·exact h.elim
 | field T x f =>
  simp only [opF] at h
  split at h
  ·rename_i fo ft cs hf hx
   split at h
   ·exact h.elim
   ·rename_i hk
    have hk' := hk
    simp only [not_or, Decidable.not_not] at hk'
    have e1 := sub_kd hsub (by decide) hk'.1
    have e2 := sub_sz hsub hk'.2.2
    obtain ⟨v, hv, hK⟩ := optE_some h
    exact ⟨v, [], by simp only [evalOp, e1, hf, hx, e2]; rw [if_neg (by simp [hk'.1, hk'.2.1])]; simp [hv, upsO], hK⟩
  ·exact h.elim
 | indexAddr T x i =>
  simp only [opF] at h
  split at h
  ·rename_i k n hi
   split at h
   ·rename_i xss hx
    split at h
    ·rename_i hk
     have e1 := sub_kd hsub (by decide) hk.1
     have e2 := sub_sz hsub hk.2
     obtain ⟨hs, h⟩ := h
     obtain ⟨h1, h1'⟩ := hs trivial
     have h2 : xss[n.toNat]? = some (xss[n.toNat]'(by omega)) := List.getElem?_eq_getElem (by omega)
     obtain ⟨hl, h⟩ := h n.toNat _ rfl h2
     exact ⟨_, [], by simp only [evalOp, hi, hx, h2, e1, e2]; rw [if_pos ⟨hk.1, h1, hk.2, hl⟩]; rfl, h⟩
    ·exact h.elim
   ·rename_i id g es base len hx
    split at h
    ·rename_i hk
     have e1 := sub_kd hsub (by decide) hk.1
     have e2 : tt (tt0 T).elem = tt0 (tt0 T).elem := sub_sz hsub (by rw [← hk.2.2]; exact hk.2.1)
     obtain ⟨hs, h⟩ := h
     obtain ⟨h1, h2⟩ := hs trivial
     exact ⟨_, [], by simp only [evalOp, hi, hx, e1, e2]; rw [if_pos ⟨hk.1, h1, by omega, hk.2.1, hk.2.2⟩]; rfl, h _ rfl⟩
    ·exact h.elim
   ·exact h.elim
  ·exact h.elim
 | index T x i =>
  simp only [opF] at h
  split at h
  ·exact h.elim
  ·rename_i hk
   simp only [Decidable.not_not] at hk
   have e1 := sub_kd hsub (by decide) hk
   split at h
   ·rename_i a k n hx hi
    obtain ⟨hs, h⟩ := h
    obtain ⟨h1, h2⟩ := hs trivial
    have hlt : n.toNat < (ByteArray.mk ⟨a⟩).size := by rw [size_mk]; omega
    have h3 : a[n.toNat]? = some (a[n.toNat]'(by omega)) := List.getElem?_eq_getElem (by omega)
    exact ⟨_, [], by simp only [evalOp, hx, hi, e1]; rw [if_neg (by simp [hk]), dif_pos ⟨h1, hlt⟩]; rfl, h n.toNat _ rfl h3 _ (Int.natCast_nonneg _) (Int.toNat_natCast _)⟩
   ·exact h.elim
 | extract t ix =>
  simp only [opF] at h
  split at h
  ·rename_i vs hx
   obtain ⟨v, hv, hK⟩ := optE_some h
   exact ⟨v, [], by simp [evalOp, hx, hv, upsO], hK⟩
  ·exact h.elim
 | makeFunc f first captured =>
  cases f with
  | func g =>
   simp only [opF] at h
   split at h
   ·rename_i e
    have : first = #[] := by simpa using e.1
    exact ⟨_, [], by simp only [evalOp, this]; rw [if_pos ⟨trivial, e.2⟩]; rfl, h⟩
   ·exact h.elim
  | _ => simp [opF] at h
 | call c =>
  obtain ⟨callee, args, argTypes⟩ := c
  cases callee with
  | builtin b =>
   cases b with
   | len =>
    simp only [opF] at h
    split at h
    ·rename_i x T hx hT
     split at h
     ·exact h.elim
     ·rename_i hz
      have hm : x ∈ args.toList := by rw [hx]; simp
      have hm : x ∈ args := by simpa using hm
      have hbx : fx = true → Bd (ev s x) := fun hf => hb hf x (by simp [Op.operands, Call.operands, hm])
      obtain ⟨v, hv, hK⟩ := lenF_sound hbx h
      exact ⟨v, [], by simp [evalOp, hx, hT, sub_sz hsub hz, hv, upsO], hK⟩
    ·exact h.elim
   | append =>
    simp only [opF] at h
    split at h
    ·rename_i x y T U hx hT
     split at h
     ·rename_i hk
      have e1 := sub_kd hsub (by decide) hk
      obtain ⟨v, ups, hv, hK⟩ := appendF_sound hsub h
      exact ⟨v, ups, by simp only [evalOp, hx, hT, e1, if_pos hk]; exact hv, hK⟩
     ·exact h.elim
    ·exact h.elim
   | min =>
    simp only [opF] at h
    split at h
    ·rename_i x y hx
     split at h
     ·rename_i k m k' n h1 h2
      by_cases e : n < m
      ·exact ⟨_, [], by simp only [evalOp, hx, h1, h2, if_pos e]; rfl, h.1 e⟩
      ·exact ⟨_, [], by simp only [evalOp, hx, h1, h2, if_neg e]; rfl, h.2 (by omega)⟩
     ·exact h.elim
    ·exact h.elim
   | _ => simp [opF] at h
  | _ => simp [opF] at h
 | _ => exact absurd h (by simp [opF])
end
end Go.Proofs.YtchpopejojghmaaGreatDoor.M
/- What the operations make is bounded. -/
namespace Go.Proofs.YtchpopejojghmaaGreatDoor.M
open Go
section
variable {tt : Nat → TyI} {own : Nat} {s : Nat → C} {o : Nat → Obj}
theorem Bd.cells {c : C} (h : Bd c) : ∀ x ∈ c.cells, Bd x := by
 cases c with
 | agg cs => cases h with | agg _ h => exact h
 | _ => intro x hx; simp [C.cells] at hx; subst hx; exact h
theorem loadC_bd {t : TyI} {cs : List C} {off : Nat} {v : C} (h : ∀ c ∈ cs, Bd c) (hv : loadC t cs off = some v) : Bd v := by
 unfold loadC at hv
 split at hv
 ·split at hv
  ·cases hv; exact .agg _ fun c hc => h c (List.mem_of_mem_drop (List.mem_of_mem_take hc))
  ·cases hv
 ·split at hv
  ·exact h v (List.mem_of_getElem? hv)
  ·cases hv
theorem splice_bd {cs vs : List C} {off : Nat} (h : ∀ c ∈ cs, Bd c) (hv : ∀ c ∈ vs, Bd c) : ∀ c ∈ splice cs off vs, Bd c := by
 intro c hc
 unfold splice at hc
 rw [List.mem_append, List.mem_append] at hc
 rcases hc with (hc | hc) | hc
 ·exact h c (List.mem_of_mem_take hc)
 ·exact hv c hc
 ·exact h c (List.mem_of_mem_drop hc)
theorem fillC_bd (place : Nat → Option (Nat × Nat)) : ∀ (ps : List (Nat × List C)) (cells cs : List C), (∀ c ∈ cells, Bd c) → (∀ p ∈ ps, ∀ c ∈ p.2, Bd c) → fillC place cells ps = some cs → ∀ c ∈ cs, Bd c
 | [], cells, cs, h, _, e => by cases e; exact h
 | (i, vs) :: rest, cells, cs, h, hp, e => by
  unfold fillC at e
  split at e
  ·cases e
  ·split at e
   ·exact fillC_bd place rest _ cs (splice_bd h (hp (i, vs) (by simp))) (fun p hq => hp p (by simp [hq])) e
   ·cases e
theorem fillR_bd (es : Nat) : ∀ (ps : List (Nat × List C)) (rows rs : List (List C)), (∀ r ∈ rows, ∀ c ∈ r, Bd c) → (∀ p ∈ ps, ∀ c ∈ p.2, Bd c) → fillR es rows ps = some rs → rs.length = rows.length ∧ ∀ r ∈ rs, ∀ c ∈ r, Bd c
 | [], rows, rs, h, _, e => by cases e; exact ⟨rfl, h⟩
 | (i, vs) :: rest, rows, rs, h, hp, e => by
  unfold fillR at e
  split at e
  ·obtain ⟨h1, h2⟩ := fillR_bd es rest _ rs (fun r hr => by
    rcases List.mem_or_eq_of_mem_set hr with hr | rfl
    ·exact h r hr
    ·exact hp (i, _) (by simp)) (fun p hq => hp p (by simp [hq])) e
   exact ⟨by simpa using h1, h2⟩
  ·cases e
theorem bd_rows_len {xss : List (List C)} (h : Bd (.sl xss)) : xss.length ≤ bnd63 ∧ ∀ r ∈ xss, ∀ c ∈ r, Bd c := by
 cases h with | sl _ h1 h2 => exact ⟨h1, h2⟩
theorem binInt_bd {op : BinOp} {k : IntKind} {x y : Int} {v : C} (h : binInt op k x y = some v) : Bd v := by
 cases op <;> simp only [binInt] at h <;> first
  | (cases h; done)
  | (cases h; first | exact .int _ _ | exact .bool _)
  | (split at h <;> first | (cases h; done) | (cases h; exact .int _ _))
theorem binC_bd {t : TyI} {op : BinOp} {x y v : C} (h : binC t op x y = some v) : Bd v := by
 unfold binC at h
 split at h
 ·split at h
  ·exact binInt_bd h
  ·cases h
 ·cases op <;> simp only [binStr] at h <;> first
   | (cases h; first | exact .bool _ | done)
   | (split at h
      ·rename_i hs
       cases h
       refine .str _ ?_
       rw [ByteArray.size_append]; exact hs
      ·cases h)
 ·split at h
  ·cases h
  ·cases op <;> simp only at h <;> cases h <;> exact .bool _
 ·split at h
  ·cases h
  ·cases op <;> simp only at h <;> first
    | (cases h; done)
    | (obtain ⟨r, _, rfl⟩ := Option.map_eq_some_iff.1 h; exact .bool _)
 ·cases h
theorem sliceC_bd {kd : Kd} {t : TyI} {x v : C} {lo hi : Option C} (hx : Bd x) (h : sliceC kd t x lo hi = some v) : Bd v := by
 unfold sliceC at h
 split at h
 ·rename_i b
  split at h
  ·cases h
  ·split at h
   ·split at h
    ·rename_i hb
     cases h
     refine .str _ ?_
     rw [ByteArray.size_extract]
     cases hx with | str _ h => omega
    ·cases h
   ·cases h
 ·rename_i xss
  obtain ⟨h1, h2⟩ := bd_rows_len hx
  split at h
  ·cases h
  ·split at h
   ·split at h
    ·cases h
     refine .sl _ ?_ fun r hr => h2 r (List.mem_of_mem_take (List.mem_of_mem_drop hr))
     simp only [List.length_drop, List.length_take]; omega
    ·cases h
   ·cases h
 ·split at h
  ·cases h
  ·split at h
   ·split at h
    ·cases h; exact .nils
    ·cases h
   ·cases h
 ·rename_i id g es base len
  split at h
  ·cases h
  ·split at h
   ·split at h
    ·rename_i hb
     cases h
     refine .ref _ _ _ _ _ ?_
     cases hx with | ref _ _ _ _ _ h => omega
    ·cases h
   ·cases h
 ·cases h
theorem appendC_bd (ho : ∀ i, BdR (o i).rows) {T : Nat} {x y : C} {d : Delta} (hx : Bd x) (hy : Bd y) (h : appendC tt o own T x y = some d) : Bd d.v ∧ ∀ p ∈ d.ups, BdR p.2.rows := by
 unfold appendC at h
 simp only at h
 split at h
 ·cases h
 ·rename_i hk
  simp only [not_or, Decidable.not_not] at hk
  split at h
  ·cases h
  ·rename_i ys hys
   have hrows : ∀ r ∈ ys, ∀ c ∈ r, Bd c := by
    unfold rowsOf at hys
    split at hys
    ·cases hys; simp
    ·rename_i xss
     split at hys
     ·cases hys; exact (bd_rows_len hy).2
     ·cases hys
    ·rename_i id g es' base len
     split at hys
     ·cases hys; exact fun r hr => (ho id).rows r (List.mem_of_mem_drop (List.mem_of_mem_take hr))
     ·cases hys
    ·cases hys
   have key : ∀ n : Nat, n * (tt (tt T).elem).bytes ≤ cap47 → n ≤ bnd63 := by
    intro n hn
    have h1 : 1 ≤ (tt (tt T).elem).bytes := Nat.one_le_iff_ne_zero.2 hk.2.2
    have h2 : n * 1 ≤ n * (tt (tt T).elem).bytes := Nat.mul_le_mul_left n h1
    unfold cap47 at hn; unfold bnd63; omega
   split at h
   ·split at h
    ·rename_i hb
     cases h
     refine ⟨.ref _ _ _ _ _ (key _ hb), fun p hp => ?_⟩
     simp at hp; subst hp
     exact ⟨key _ hb, hrows⟩
    ·cases h
   ·rename_i id g es base len
    split at h
    ·rename_i hb
     cases h
     have hl : (((o id).rows.drop base).take len ++ ys).length = len + ys.length := by simp; omega
     refine ⟨.ref _ _ _ _ _ (by rw [hl]; exact key _ hb.2.2.2.2), fun p hp => ?_⟩
     simp at hp; subst hp
     refine ⟨by rw [hl]; exact key _ hb.2.2.2.2, fun r hr => ?_⟩
     rcases List.mem_append.1 hr with hr | hr
     ·exact (ho id).rows r (List.mem_of_mem_drop (List.mem_of_mem_take hr))
     ·exact hrows r hr
    ·cases h
   ·cases h
theorem lenC_bd {kd : Kd} {x v : C} (h : lenC kd x = some v) : Bd v := by
 unfold lenC at h
 split at h <;> first
  | (cases h; done)
  | (split at h
     ·cases h; exact .int _ _
     ·cases h)
theorem encode_size (n : Int) : (Utf8.encode n).size ≤ 4 := by
 unfold Utf8.encode
 simp only
 generalize (if Utf8.valid n = true then n.toNat else Utf8.runeError) = c
 split
 ·exact (by decide : 1 ≤ 4)
 ·split
  ·exact (by decide : 2 ≤ 4)
  ·split
   ·exact (by decide : 3 ≤ 4)
   ·exact (by decide : 4 ≤ 4)
theorem bdOne {c : List C} (h : ∀ x ∈ c, Bd x) : BdR [c] := ⟨by show 1 ≤ bnd63; decide, fun r hr => by simp at hr; subst hr; exact h⟩
theorem bdRep {n : Nat} {c : List C} (hn : n ≤ bnd63) (h : ∀ x ∈ c, Bd x) : BdR (List.replicate n c) := ⟨by simpa using hn, fun r hr => by rw [(List.mem_replicate.1 hr).2]; exact h⟩
set_option maxHeartbeats 1600000 in
theorem evalOp_bd (hz : ∀ T, ∀ c ∈ (tt T).zero, Bd c) (ho : ∀ i, BdR (o i).rows) {op : Op} (hb : ∀ x ∈ op.operands, Bd (ev s x)) (ty : Nat) {d : Delta} (h : evalOp tt own s o ty op = some d) : Bd d.v ∧ ∀ p ∈ d.ups, BdR p.2.rows := by
 have none_ : ∀ {v : C}, Bd v → Bd (Delta.mk v []).v ∧ ∀ p ∈ (Delta.mk v []).ups, BdR p.2.rows := fun h => ⟨h, fun p hp => by cases hp⟩
 have one_ : ∀ {v : C} {i : Nat} {x : Obj}, Bd v → BdR x.rows → Bd (Delta.mk v [(i, x)]).v ∧ ∀ p ∈ (Delta.mk v [(i, x)]).ups, BdR p.2.rows := fun h hx => ⟨h, fun p hp => by simp at hp; subst hp; exact hx⟩
 cases op with
 | move x => cases h; exact none_ (hb x (by simp [Op.operands]))
 | assign x => cases h; exact none_ (hb x (by simp [Op.operands]))
 | pick c a b =>
  simp only [evalOp] at h
  split at h
  ·rename_i t _
   cases h
   refine none_ ?_
   cases t
   ·exact hb b (by simp [Op.operands])
   ·exact hb a (by simp [Op.operands])
  ·cases h
 | alloc T =>
  simp only [evalOp] at h
  split at h
  ·cases h
  ·cases h; exact one_ (.ptr _ _ _ _ _) (bdOne (hz T))
 | box T x =>
  simp only [evalOp] at h
  split at h
  ·cases h; exact one_ (.ptr _ _ _ _ _) (bdOne (hb x (by simp [Op.operands])).cells)
  ·cases h
 | build T parts =>
  simp only [evalOp] at h
  split at h
  ·cases h
  ·obtain ⟨cs, hcs, rfl⟩ := Option.map_eq_some_iff.1 h
   refine none_ (.agg _ (fillC_bd _ _ _ _ (hz T) (fun p hp => ?_) hcs))
   obtain ⟨⟨i, x⟩, hx, rfl⟩ := List.mem_map.1 hp
   exact (hb x (by simp [Op.operands]; exact ⟨i, by simpa using hx⟩)).cells
 | buildSlice T len parts =>
  simp only [evalOp] at h
  split at h
  ·rename_i hk
   obtain ⟨rows, hr, rfl⟩ := Option.map_eq_some_iff.1 h
   have hlen : len ≤ bnd63 := by
    have h1 : 1 ≤ (tt (tt T).elem).size := Nat.one_le_iff_ne_zero.2 hk.2.2.2
    have h2 : len * 1 ≤ len * (tt (tt T).elem).size := Nat.mul_le_mul_left len h1
    have h3 := hk.2.2.1
    unfold bnd63; omega
   obtain ⟨h1, h2⟩ := fillR_bd _ _ _ _ (bdRep hlen (hz _)).rows (fun p hp => by
    obtain ⟨⟨i, x⟩, hx, rfl⟩ := List.mem_map.1 hp
    exact (hb x (by simp [Op.operands]; exact ⟨i, by simpa using hx⟩)).cells) hr
   exact one_ (.ref _ _ _ _ _ hlen) ⟨by rw [h1]; simpa using hlen, h2⟩
  ·cases h
 | load T a =>
  simp only [evalOp] at h
  split at h
  ·rename_i id g es row off ha
   split at h
   ·obtain ⟨r, hr, h⟩ := Option.bind_eq_some_iff.1 h
    obtain ⟨v, hv, rfl⟩ := Option.map_eq_some_iff.1 h
    exact none_ (loadC_bd ((ho id).rows r (List.mem_of_getElem? hr)) hv)
   ·cases h
  ·rename_i cs off ha
   obtain ⟨v, hv, rfl⟩ := Option.map_eq_some_iff.1 h
   have := hb a (by simp [Op.operands])
   rw [ha] at this
   cases this with | ip _ _ hc => exact none_ (loadC_bd hc hv)
  ·cases h
 | store T a x =>
  simp only [evalOp] at h
  split at h
  ·rename_i id g es row off ha
   split at h
   ·rename_i e
    cases h
    refine one_ .undef ⟨by simpa using (ho id).len, fun r hr => ?_⟩
    rcases List.mem_or_eq_of_mem_set hr with hr | rfl
    ·exact (ho id).rows r hr
    ·refine splice_bd ?_ (hb x (by simp [Op.operands])).cells
     rw [List.getD_eq_getElem?_getD, List.getElem?_eq_getElem e.2.2.2.2.2.1]
     exact (ho id).rows _ (List.getElem_mem _)
   ·cases h
  ·cases h
 | nilCheck x =>
  simp only [evalOp] at h
  have hx := hb x (by simp [Op.operands])
  split at h
  ·rename_i e; cases h; rw [e] at hx; exact none_ hx
  ·rename_i e; cases h; rw [e] at hx; exact none_ hx
  ·cases h
 | binOp b T x y z =>
  obtain ⟨v, hv, rfl⟩ := Option.map_eq_some_iff.1 h
  exact none_ (binC_bd hv)
 | unOp u T x =>
  simp only [evalOp] at h
  split at h
  ·cases h; exact none_ (.bool _)
  ·cases h; exact none_ (.int _ _)
  ·cases h
 | convert S D x =>
  simp only [evalOp] at h
  split at h
  ·cases h
  ·split at h
   ·cases h; exact none_ (.int _ _)
   ·cases h; exact none_ (.str _ (Nat.le_trans (encode_size _) (by decide)))
   ·cases h
 | makeSlice T l c =>
  simp only [evalOp] at h
  split at h
  ·rename_i n m _ _
   split at h
   ·rename_i hc
    cases h
    have := hc.2.2.2.2.1
    have : n.toNat ≤ bnd63 := by
     unfold bnd63; omega
    exact one_ (.ref _ _ _ _ _ this) (bdRep this (hz _))
   ·cases h
  ·cases h
 | slice T x lo hi mx =>
  cases mx with
  | none =>
   obtain ⟨v, hv, rfl⟩ := Option.map_eq_some_iff.1 h
   exact none_ (sliceC_bd (hb x (by simp [Op.operands])) hv)
  | some m =>
   cases lo with
   | some l => simp [evalOp] at h
   | none =>
   cases hi with
   | none => simp [evalOp] at h
   | some y =>
   simp only [evalOp] at h
   split at h
   ·rename_i hx _ _
    split at h
    ·cases h
     exact none_ (hx ▸ hb x (by simp [Op.operands]))
    ·cases h
   ·cases h
 | fieldAddr T a f =>
  simp only [evalOp] at h
  split at h
  ·cases h
  ·split at h
   ·cases h
   ·have hx := hb a (by simp [Op.operands])
    split at h
    ·rename_i e; cases h; exact none_ (.ptr _ _ _ _ _)
    ·rename_i e; cases h; rw [e] at hx; cases hx with | ip _ _ hc => exact none_ (.ip _ _ hc)
    ·cases h
 | field T x f =>
  simp only [evalOp] at h
  split at h
  ·rename_i fo ft cs hf hx
   split at h
   ·cases h
   ·obtain ⟨v, hv, rfl⟩ := Option.map_eq_some_iff.1 h
    have := hb x (by simp [Op.operands])
    rw [hx] at this
    exact none_ (loadC_bd this.cells hv)
  ·cases h
 | indexAddr T x i =>
  simp only [evalOp] at h
  have hx := hb x (by simp [Op.operands])
  split at h
  ·split at h
   ·rename_i xss e
    rw [e] at hx
    split at h
    ·rename_i r hr
     split at h
     ·cases h; exact none_ (.ip _ _ ((bd_rows_len hx).2 _ (List.mem_of_getElem? hr)))
     ·cases h
    ·cases h
   ·split at h
    ·cases h; exact none_ (.ptr _ _ _ _ _)
    ·cases h
   ·cases h
  ·cases h
 | index T x i =>
  simp only [evalOp] at h
  split at h
  ·cases h
  ·split at h
   ·split at h
    ·cases h; exact none_ (.int _ _)
    ·cases h
   ·cases h
 | extract t ix =>
  simp only [evalOp] at h
  have hx := hb t (by simp [Op.operands])
  split at h
  ·rename_i vs e
   rw [e] at hx
   obtain ⟨v, hv, rfl⟩ := Option.map_eq_some_iff.1 h
   cases hx with | tup _ hc => exact none_ (hc _ (List.mem_of_getElem? hv))
  ·cases h
 | makeFunc f first captured =>
  cases f with
  | func g =>
   simp only [evalOp] at h
   split at h
   ·cases h
    refine none_ (.fn _ _ fun c hc => ?_)
    obtain ⟨x, hx, rfl⟩ := List.mem_map.1 hc
    exact hb x (by have : x ∈ captured := by simpa using hx
                   simp [Op.operands, this])
   ·cases h
  | _ => simp [evalOp] at h
 | call c =>
  obtain ⟨callee, args, argTypes⟩ := c
  have hmem : ∀ x, x ∈ args.toList → Bd (ev s x) := fun x hx => hb x (by have : x ∈ args := by simpa using hx
                                                                         simp [Op.operands, Call.operands, this])
  cases callee with
  | builtin b =>
   cases b with
   | len =>
    simp only [evalOp] at h
    split at h
    ·obtain ⟨v, hv, rfl⟩ := Option.map_eq_some_iff.1 h
     exact none_ (lenC_bd hv)
    ·cases h
   | append =>
    simp only [evalOp] at h
    split at h
    ·rename_i x y T U hx hT
     split at h
     ·exact appendC_bd ho (hmem x (by rw [hx]; simp)) (hmem y (by rw [hx]; simp)) h
     ·cases h
    ·cases h
   | min =>
    simp only [evalOp] at h
    split at h
    ·split at h
     ·cases h; exact none_ (.int _ _)
     ·cases h
    ·cases h
   | _ => simp [evalOp] at h
  | _ => simp [evalOp] at h
 | _ => exact absurd h (by simp [evalOp])
end
end Go.Proofs.YtchpopejojghmaaGreatDoor.M
/- The evaluator: calls, regions, code. -/
namespace Go.Proofs.YtchpopejojghmaaGreatDoor.M
open Go
structure FnOK (P : Program) (G : Glob) (f : FuncId) (args : List C) (ext : List Obj) (res : C) (ext' : List Obj) (sh : Bool) : Prop where
 ok : (∀ a ∈ args, Bd a) → (∀ x ∈ ext, BdR x.rows) → CallOK P G f args ext res ext' sh
 bd : (∀ a ∈ args, Bd a) → (∀ x ∈ ext, BdR x.rows) → Bd res ∧ ∀ x ∈ ext', BdR x.rows
def impUpE (o : Nat → EObj) (own p : Nat) : C → Option (Nat × EObj)
 | .fr es xss => some (own + p, ⟨(o (own + p)).gen + 1, true, es, .many xss⟩)
 | .frp cs => some (own + p, ⟨(o (own + p)).gen + 1, true, cs.length, .one cs⟩)
 | _ => none
def impUpsE (o : Nat → EObj) (own : Nat) (res : C) : List (Nat × EObj) := (posCells res).filterMap fun (p, c) => impUpE o own p c
def freezeE (o : Nat → EObj) : List Nat → List (Nat × EObj)
 | [] => []
 | i :: r => (i, ⟨(o i).gen, false, (o i).es, (o i).dat⟩) :: freezeE o r
def datOf (d : ED) (rows : List (List C)) : ED := match d with
 | .many _ => .many rows
 | .one r => match rows with | [r'] => .one r' | _ => .many rows
def putBackE (o : Nat → EObj) : List Nat → List Obj → List (Nat × EObj)
 | i :: r, x :: xs => (i, ⟨(o i).gen, (o i).rw, (o i).es, datOf (o i).dat x.rows⟩) :: putBackE o r xs
 | _, _ => []
structure CallC (fx : Bool) (P : Program) (G : Glob) (own : Nat) (o : Nat → EObj) (g : FuncId) (vs : List C) (chg : Bool) (bs : List C) (ext : List Obj) (res : C) (ext' : List Obj) (sh : Bool) (ups : List (Nat × EObj)) : Prop where
 hargs : vs.map (argC (toO o) (callIds vs) (if chg then callIds vs else [])) = bs
 hext : (callIds vs).map (extOf (toO o) (if chg then callIds vs else []) chg) = ext
 ok : FnOK P G g bs ext res ext' sh
 bd : fx = false → (∀ a ∈ bs, Bd a) ∧ ∀ x ∈ ext, BdR x.rows
 rw : chg = true → ∀ i ∈ callIds vs, (o i).rw = true
 ids : sh = true → chg = false → callIds vs = []
 back : chg = true → ∀ x ∈ ext', ∀ r ∈ x.rows, r.all closedCell = true
 tops : (sh || chg) = true → (∀ i ∈ vs.flatMap topRefs, i ∉ callIds vs ∧ ∀ r ∈ (o i).dat.rows, r.all closedCell = true) ∧ ∀ i ∈ callIds vs, ∀ r ∈ (o i).dat.rows, r.all closedCell = true
 ups : ups = (if chg then putBackE o (callIds vs) ext' else []) ++ (if sh || chg then freezeE o (vs.flatMap topRefs) else []) ++ impUpsE o own res
structure InlC (fx : Bool) (P : Program) (G : Glob) (o : Nat → EObj) (g : FuncId) (vs : List C) (res : C) (ups : List (Nat × EObj)) : Prop where
 ok : ∀ o' : Nat → Obj, (∀ i ∈ ups.map Prod.fst, o' i = toO o i) → InlOK P G g vs o' res (upsO ups)
 bd : fx = true → (∀ a ∈ vs, Bd a) → Bd res ∧ ∀ p ∈ ups, BdR p.2.dat.rows
def callB (fx : Bool) (P : Program) (G : Glob) (own : Nat) (o : Nat → EObj) (g : FuncId) (vs : List C) (K : C → List (Nat × EObj) → Prop) : Prop :=
 (∃ chg bs ext res ext' sh ups, CallC fx P G own o g vs chg bs ext res ext' sh ups ∧ K (impV (toO o) own res) ups) ∨ (∃ res ups, InlC fx P G o g vs res ups ∧ K res ups)
def indepB (ops : Array Oper) (log : List (List Nat × List Nat)) : Prop := indep ops log.reverse = true
def loopB (fx : Bool) (rg : Option Nat) (body : (Ex → ESt → Prop) → ESt → Prop) (Q : Ex → ESt → Prop) (e : ESt) : Prop :=
 ∃ (α : Type) (st : α → ESt) (φ : α → Prop) (μ : α → Nat), (∃ x0, φ x0 ∧ Wk rg e.toSt (st x0).toSt) ∧
  ∀ x, φ x → (fx = true → BdSt (st x).toSt) → body (fun ex s' => match ex with | .nml => ∃ x', φ x' ∧ μ x' < μ x ∧ Wk rg s'.toSt (st x').toSt | ex => Q ex s') (st x)
def seqB (fx : Bool) (rg : Option Nat) (a b : (Ex → ESt → Prop) → ESt → Prop) (Q : Ex → ESt → Prop) (e : ESt) : Prop :=
 ∃ (α : Type) (st : α → ESt) (φ : α → Prop), a (fun ex s' => match ex with | .nml => ∃ x, φ x ∧ Wk rg s'.toSt (st x).toSt | ex => Q ex s') e ∧ ∀ x, φ x → (fx = true → BdSt (st x).toSt) → b Q (st x)
structure Bx where
 call : Nat → (Nat → EObj) → FuncId → List C → (C → List (Nat × EObj) → Prop) → Prop
 indep : Array Oper → List (List Nat × List Nat) → Prop
 loop : ((Ex → ESt → Prop) → ESt → Prop) → (Ex → ESt → Prop) → ESt → Prop
 seq : ((Ex → ESt → Prop) → ESt → Prop) → ((Ex → ESt → Prop) → ESt → Prop) → (Ex → ESt → Prop) → ESt → Prop
structure IsBx (fx : Bool) (rg : Option Nat) (P : Program) (G : Glob) (A : Bx) : Prop where
 call : A.call = callB fx P G
 indep : A.indep = indepB
 loop : A.loop = loopB fx rg
 seq : A.seq = seqB fx rg
def opKF (A : Bx) (fx : Bool) (tt : Nat → TyI) (own : Nat) (x : Oper) (e : ESt) (K : C → List (Nat × EObj) → Prop) : Prop :=
 match asCall x.op with
 | some c => match calleeC e.s c with
  | some (g, caps) => A.call own e.o g (c.args.toList.map (ev e.s) ++ caps) K
  | none => False
 | none => opF fx tt own e.s e.o x.op K
def dstN (d : Option Nat) : Nat := d.getD 0
def nilF (tt : Nat → TyI) (s : Nat → C) (op : Op) : Option (List (List C)) :=
 match op with
 | .binOp .eql T y (.const (.slice none 0 0)) _ => match ev s y with
  | .sl xss => (match decide ((tt T).kd = .slice) with | true => some xss | false => none)
  | _ => none
 | _ => none
def wpLF (A : Bx) (fx : Bool) (tt : Nat → TyI) (off : Nat) (ops : Array Oper) : List Oper → (ESt → Prop) → ESt → Prop
 | [], K, e => K e
 | x :: rest, K, e => match x.guard with
  | none => match nilF tt e.s x.op with
   | some xss => (xss = [] → wpLF A fx tt off ops rest K (e.put x.dst (.bool true) [])) ∧ wpLF A fx tt off ops rest K (e.put x.dst (.bool false) [])
   | none => opKF A fx tt (off + 64 * dstN x.dst) x e fun v ups => wpLF A fx tt off ops rest K (e.put x.dst v ups)
  | some (j, want) => match yieldC ops e.s j with
   | .bool b => match want with
    | true => match b with
     | true => opKF A fx tt (off + 64 * dstN x.dst) x e fun v ups => wpLF A fx tt off ops rest K (e.put x.dst v ups)
     | false => wpLF A fx tt off ops rest K (e.put x.dst (.tup []) [])
    | false => match b with
     | false => opKF A fx tt (off + 64 * dstN x.dst) x e fun v ups => wpLF A fx tt off ops rest K (e.put x.dst v ups)
     | true => wpLF A fx tt off ops rest K (e.put x.dst (.tup []) [])
   | .tup [] => wpLF A fx tt off ops rest K (e.put x.dst (.tup []) [])
   | _ => False
def logE (s : Nat → C) (o : Nat → EObj) (x : Oper) (ups : List (Nat × EObj)) : List Nat × List Nat := (acc s (toO o) x ++ ups.map Prod.fst, ups.map Prod.fst)
def refId : C → List Nat
 | .ref id .. => [id]
 | _ => []
def sideE (o : Nat → EObj) : List Nat → Prop → Prop
 | [], p => p
 | i :: r, p => match (o i).dat with
  | .many rows => (Side → ∀ r ∈ rows, r.all closedCell = true) ∧ sideE o r p
  | .one c => if c.all closedCell = true then sideE o r p else False
def rowsE (o : Nat → EObj) : List Nat → (List Nat → Prop) → Prop
 | [], K => K []
 | i :: r, K => match (o i).dat with
  | .many rows => (Side → ∀ r ∈ rows, r.all closedCell = true) ∧ rowsE o r K
  | .one c => sideE o (c.flatMap refId) (rowsE o r fun l => K (c.flatMap refId ++ l))
def accV (o : Nat → EObj) (vs : List C) (K : List Nat → Prop) : Prop :=
 sideE o (vs.flatMap fun v => v.cells.flatMap refId) (rowsE o (callIds vs) fun l => K (callIds vs ++ (vs.flatMap fun v => v.cells.flatMap refId) ++ l))
def accE (s : Nat → C) (o : Nat → EObj) (x : Oper) (K : List Nat → Prop) : Prop :=
 match x.op with
 | .call c => match c.callee with
  | .value f => accV o (c.args.toList.map (ev s) ++ ((calleeC s c).map (·.2)).getD []) K
  | cal => K (acc s (toO o) x)
 | op => K (acc s (toO o) x)
def wpDF (A : Bx) (fx : Bool) (tt : Nat → TyI) (off : Nat) (ops : Array Oper) : List Oper → (List (List Nat × List Nat) → ESt → Prop) → List (List Nat × List Nat) → ESt → Prop
 | [], K, log, e => K log e
 | x :: rest, K, log, e => match x.guard with
  | none => accE e.s e.o x fun ac => opKF A fx tt (off + 64 * dstN x.dst) x e fun v ups => wpDF A fx tt off ops rest K ((ac ++ ups.map Prod.fst, ups.map Prod.fst) :: log) (e.put x.dst v ups)
  | some (j, want) => match yieldC ops e.s j with
   | .bool b => match want with
    | true => match b with
     | true => accE e.s e.o x fun ac => opKF A fx tt (off + 64 * dstN x.dst) x e fun v ups => wpDF A fx tt off ops rest K ((ac ++ ups.map Prod.fst, ups.map Prod.fst) :: log) (e.put x.dst v ups)
     | false => wpDF A fx tt off ops rest K (([], []) :: log) (e.put x.dst (.tup []) [])
    | false => match b with
     | false => accE e.s e.o x fun ac => opKF A fx tt (off + 64 * dstN x.dst) x e fun v ups => wpDF A fx tt off ops rest K ((ac ++ ups.map Prod.fst, ups.map Prod.fst) :: log) (e.put x.dst v ups)
     | true => wpDF A fx tt off ops rest K (([], []) :: log) (e.put x.dst (.tup []) [])
   | .tup [] => wpDF A fx tt off ops rest K (([], []) :: log) (e.put x.dst (.tup []) [])
   | _ => False
def firstId : Code → Nat
 | .region id _ _ => id
 | .seq a _ => firstId a
 | .block _ a => firstId a
 | .loop a => firstId a
 | .ret => 4294967296
 | _ => 4294967297
def wpF (A : Bx) (fx : Bool) (tt : Nat → TyI) (off : Nat) (cs : List Nat) : Code → (Ex → ESt → Prop) → ESt → Prop
 | .skip, Q, e => Q .nml e
 | .region _ ops false, Q, e => wpLF A fx tt off ops ops.toList (fun e' => Q .nml e') e
 | .region _ ops true, Q, e => wpDF A fx tt off ops ops.toList (fun log e' => A.indep ops log ∧ Q .nml e') [] e
 | .seq a b, Q, e => match cs.contains (firstId b) with
  | true => A.seq (wpF A fx tt off cs a) (wpF A fx tt off cs b) Q e
  | false => wpF A fx tt off cs a (fun x e' => match x with | .nml => wpF A fx tt off cs b Q e' | x => Q x e') e
 | .cond c a b, Q, e => match ev e.s c with
  | .bool t => match t with | true => wpF A fx tt off cs a Q e | false => wpF A fx tt off cs b Q e
  | _ => False
 | .block id a, Q, e => wpF A fx tt off cs a (fun x e' => match x with | .exit i => if i = id then Q .nml e' else Q (.exit i) e' | x => Q x e') e
 | .loop a, Q, e => A.loop (wpF A fx tt off cs a) Q e
 | .exit id, Q, e => Q (.exit id) e
 | .ret, Q, e => Q .ret e
 | _, _, _ => False
def opdOK : Operand → Bool
 | .const (.string s) => decide (s.size ≤ 1000000)
 | .const (.agg vs) => vs.toList.all fun | .string s => decide (s.size ≤ 1000000) | _ => true
 | _ => true
def codeOK (nt : Nat) : Code → Bool
 | .region _ ops d => (ops.toList.all fun x => x.dst.all fun t => decide (t < nt)) && (ops.toList.all fun x => x.op.operands.toList.all opdOK) && (!d || regionOK ops)
 | .seq a b => codeOK nt a && codeOK nt b
 | .cond c a b => codeOK nt a && codeOK nt b
 | .block _ a => codeOK nt a
 | .loop a => codeOK nt a
 | _ => true
end Go.Proofs.YtchpopejojghmaaGreatDoor.M
/- The evaluator is right: calls, regions, code. -/
namespace Go.Proofs.YtchpopejojghmaaGreatDoor.M
open Go
theorem resC_bd {o : Nat → Obj} (ho : ∀ i, BdR (o i).rows) (ex : List Nat) : ∀ (d : Nat) (c : C), Bd c → Bd (resC o ex d c) := by
 intro d
 induction d with
 | zero =>
  intro c h
  cases h <;> simp only [resC] <;> first
   | exact .undef
   | exact .int _ _
   | exact .bool _
   | exact .nilp
   | (rename_i h1 h2; exact .sl _ h1 h2)
   | exact .sl _ (by simp [bnd63]) (fun r hr => by cases hr)
   | (rename_i h; exact .str _ h)
 | succ d ih =>
  intro c h
  cases h <;> simp only [resC] <;> first
   | exact .undef
   | exact .int _ _
   | exact .bool _
   | exact .nilp
   | (rename_i h1 h2; exact .sl _ h1 h2)
   | exact .sl _ (by simp [bnd63]) (fun r hr => by cases hr)
   | (rename_i h; exact .str _ h)
   | skip
  rename_i id g es base len hl
  split
  ·rename_i hb
   refine .sl _ ?_ fun r hr c hc => ?_
   ·have := (ho id).len; simp; omega
   ·obtain ⟨r0, hr0, rfl⟩ := List.mem_map.1 hr
    obtain ⟨c0, hc0, rfl⟩ := List.mem_map.1 hc
    exact ih _ ((ho id).rows r0 (List.mem_of_mem_drop (List.mem_of_mem_take hr0)) c0 hc0)
  ·exact .undef
theorem ptrC_bd (o : Nat → Obj) (ids : List Nat) (c : C) : Bd (ptrC o ids c) := by
 unfold ptrC
 split
 ·split
  ·exact .ptr _ _ _ _ _
  ·exact .undef
 ·exact .undef
theorem argC_bd {o : Nat → Obj} (ho : ∀ i, BdR (o i).rows) (ids ex : List Nat) {c : C} (h : Bd c) : Bd (argC o ids ex c) := by
 unfold argC
 split
 ·exact ptrC_bd _ _ _
 ·refine .fn _ _ fun c hc => ?_
  obtain ⟨x, _, rfl⟩ := List.mem_map.1 hc
  exact ptrC_bd _ _ _
 ·refine .agg _ fun c hc => ?_
  obtain ⟨x, hx, rfl⟩ := List.mem_map.1 hc
  cases h with | agg _ h => exact resC_bd ho ex _ _ (h x hx)
 ·exact resC_bd ho ex _ _ h
theorem extOf_bd {o : Nat → Obj} (ho : ∀ i, BdR (o i).rows) (ex : List Nat) (rw : Bool) (id : Nat) : BdR (extOf o ex rw id).rows := by
 refine ⟨by simpa [extOf] using (ho id).len, fun r hr c hc => ?_⟩
 simp only [extOf] at hr
 obtain ⟨r0, hr0, rfl⟩ := List.mem_map.1 hr
 obtain ⟨c0, hc0, rfl⟩ := List.mem_map.1 hc
 exact resC_bd ho ex _ _ ((ho id).rows r0 hr0 c0 hc0)
theorem impCell_bd (o : Nat → Obj) (own p : Nat) {c : C} (h : Bd c) : Bd (impCell o own p c) := by
 unfold impCell
 split
 ·cases h with | fr _ _ h1 h2 => exact .ref _ _ _ _ _ h1
 ·exact .ptr _ _ _ _ _
 ·exact h
theorem impA_bd (o : Nat → Obj) (own p : Nat) {c : C} (h : Bd c) : Bd (impA o own p c) := by
 unfold impA
 split
 ·refine .agg _ fun c hc => ?_
  obtain ⟨⟨x, j⟩, hx, rfl⟩ := List.mem_map.1 hc
  cases h with | agg _ h => exact impCell_bd _ _ _ (h x (List.mem_of_getElem? (mem_zipIdx_lt hx)))
 ·exact impCell_bd _ _ _ h
theorem impV_bd (o : Nat → Obj) (own : Nat) {c : C} (h : Bd c) : Bd (impV o own c) := by
 unfold impV
 split
 ·refine .tup _ fun c hc => ?_
  obtain ⟨⟨x, j⟩, hx, rfl⟩ := List.mem_map.1 hc
  cases h with | tup _ h => exact impA_bd _ _ _ (h x (List.mem_of_getElem? (mem_zipIdx_lt hx)))
 ·exact impA_bd _ _ _ h
theorem posCells_bd {v : C} (h : Bd v) : ∀ x ∈ posCells v, Bd x.2 := by
 intro x hx
 cases v with
 | tup vs =>
  simp only [posCells, List.mem_flatMap, List.mem_map] at hx
  obtain ⟨⟨u, i⟩, hu, ⟨z, j⟩, hz, rfl⟩ := hx
  cases h with | tup _ h => exact (h u (List.mem_of_getElem? (mem_zipIdx_lt hu))).cells z (List.mem_of_getElem? (mem_zipIdx_lt hz))
 | _ =>
  simp only [posCells, List.mem_map] at hx
  obtain ⟨⟨z, j⟩, hz, rfl⟩ := hx
  exact h.cells z (List.mem_of_getElem? (mem_zipIdx_lt hz))
theorem impUps_bd (o : Nat → Obj) (own : Nat) {res : C} (h : Bd res) : ∀ p ∈ impUps o own res, BdR p.2.rows := by
 intro p hp
 obtain ⟨⟨q, c⟩, hc, hu⟩ := List.mem_filterMap.1 hp
 have hb := posCells_bd h _ hc
 cases c <;> simp [impUp] at hu <;> subst hu
 ·cases hb with | fr _ _ h1 h2 => exact ⟨h1, h2⟩
 ·cases hb with | frp _ h1 => exact bdOne h1
section
variable {A : Bx} {P : Program} {G : Glob} {fx : Bool} {rg : Option Nat} {tt tt0 : Nat → TyI} {own off nt : Nat} {cs : List Nat}
theorem setE_toO : ∀ (ups : List (Nat × EObj)) (o : Nat → EObj), toO (setE o ups) = setAll (toO o) (upsO ups)
 | [], o => rfl
 | (i, x) :: r, o => by
  show toO (setE (upd o i x) r) = setAll (upd (toO o) i x.toObj) (upsO r)
  rw [setE_toO r]
  congr 1
  funext j
  simp only [toO, upd_get]
  split <;> rfl
theorem put_toSt (e : ESt) (dst : Option Nat) (v : C) (ups : List (Nat × EObj)) : (e.put dst v ups).toSt = e.toSt.apply dst ⟨v, upsO ups⟩ := by
 simp only [ESt.put, ESt.toSt, St.apply, setE_toO]
theorem upsO_append (a b : List (Nat × EObj)) : upsO (a ++ b) = upsO a ++ upsO b := List.map_append
theorem upsO_keys (a : List (Nat × EObj)) : (upsO a).map Prod.fst = a.map Prod.fst := by simp [upsO, Function.comp_def]
theorem upsO_ite (b : Bool) (x : List (Nat × EObj)) : upsO (if b then x else []) = if b then upsO x else [] := by cases b <;> rfl
variable {s : Nat → C} {o : Nat → EObj}
theorem freezeE_toO : ∀ l, upsO (freezeE o l) = freezeAll (toO o) l
 | [] => rfl
 | i :: l => by
  show _ :: upsO (freezeE o l) = _
  rw [freezeE_toO l]; rfl
theorem datOf_rows (d : ED) (rows : List (List C)) : (datOf d rows).rows = rows := by
 unfold datOf
 split
 ·rfl
 ·split <;> rfl
theorem putBackE_toO : ∀ (l : List Nat) (xs : List Obj), upsO (putBackE o l xs) = putBack (toO o) l xs
 | [], xs => by cases xs <;> rfl
 | i :: l, [] => rfl
 | i :: l, x :: xs => by
  show _ :: upsO (putBackE o l xs) = _ :: putBack (toO o) l xs
  rw [putBackE_toO l xs]
  congr 1
  simp only [EObj.toObj, datOf_rows, toO]
theorem impUpsE_toO (res : C) : upsO (impUpsE o own res) = impUps (toO o) own res := by
 unfold impUpsE impUps upsO
 rw [List.map_filterMap]
 refine filterMap_congr' _ fun x _ => ?_
 obtain ⟨p, c⟩ := x
 cases c <;> rfl
theorem ev_bd (hs : ∀ t, Bd (s t)) {x : Operand} (h : opdOK x = true) : Bd (ev s x) := by
 have str_ : ∀ b : ByteArray, decide (b.size ≤ 1000000) = true → Bd (.str b) := fun b hb => .str _ (by have := of_decide_eq_true hb; unfold bnd63; omega)
 have one_ : ∀ v : Value, (∀ b, v = .string b → decide (b.size ≤ 1000000) = true) → Bd (ofV1 v) := by
  intro v hv
  unfold ofV1
  split <;> first
   | exact .int _ _
   | exact .bool _
   | exact str_ _ (hv _ rfl)
   | exact .nils
   | exact .nilp
   | exact .undef
 unfold ev
 cases x with
 | tmp t => exact hs t
 | const v =>
  show Bd (ofV v)
  unfold ofV
  split
  ·rename_i vs
   split
   ·refine .agg _ fun c hc => ?_
    obtain ⟨v, hv, rfl⟩ := List.mem_map.1 hc
    refine one_ v ?_
    simp only [opdOK, List.all_eq_true] at h
    rintro b rfl
    exact h _ hv
   ·exact .undef
  ·refine one_ _ ?_
   intro b hb
   subst hb
   exact h
 | func f => exact .fn _ _ fun c hc => by cases hc
 | global g => exact .undef
theorem put_bd {e : ESt} {dst : Option Nat} {v : C} {ups : List (Nat × EObj)} (h : BdSt e.toSt) (hv : Bd v) (hu : ∀ p ∈ upsO ups, BdR p.2.rows) : BdSt (e.put dst v ups).toSt := by
 rw [put_toSt]
 refine ⟨fun t => ?_, ?_⟩
 ·show Bd (putS e.s dst v t)
  cases dst with
  | none => exact h.s t
  | some d =>
   show Bd (upd e.s d v t)
   rw [upd_get]
   split
   ·exact hv
   ·exact h.s t
 ·show ∀ i, BdR (setAll (toO e.o) (upsO ups) i).rows
  have : ∀ (l : List (Nat × Obj)) (o : Nat → Obj), (∀ i, BdR (o i).rows) → (∀ p ∈ l, BdR p.2.rows) → ∀ i, BdR (setAll o l i).rows := by
   intro l
   induction l with
   | nil => intro o h _; exact h
   | cons p l ih =>
    intro o ho hl
    obtain ⟨i, x⟩ := p
    refine ih _ (fun j => ?_) fun p hp => hl p (by simp [hp])
    rw [upd_get]
    split
    ·exact hl (i, x) (by simp)
    ·exact ho j
  exact this _ _ h.o hu
theorem freezeAll_bd (o : Nat → Obj) (ho : ∀ i, BdR (o i).rows) : ∀ l, ∀ p ∈ freezeAll o l, BdR p.2.rows
 | [], p, h => by cases h
 | i :: l, p, h => by
  rcases List.mem_cons.1 h with rfl | h
  ·exact ho i
  ·exact freezeAll_bd o ho l p h
theorem putBack_bd (o : Nat → Obj) : ∀ (l : List Nat) (xs : List Obj), (∀ x ∈ xs, BdR x.rows) → ∀ p ∈ putBack o l xs, BdR p.2.rows
 | [], xs, _, p, h => by cases xs <;> cases h
 | i :: l, [], _, p, h => by cases h
 | i :: l, x :: xs, hx, p, h => by
  rcases List.mem_cons.1 h with rfl | h
  ·exact hx x (by simp)
  ·exact putBack_bd o l xs (fun y hy => hx y (by simp [hy])) p h
theorem opKF_sound (hA : IsBx fx rg P G A) (hsub : ∀ T, tt0 T = noTy ∨ tt T = tt0 T) (hz : ∀ T, ∀ c ∈ (tt T).zero, Bd c) {x : Oper} {e : ESt} (hx : x.op.operands.toList.all opdOK = true) (hb : fx = true → BdSt e.toSt)
  {K : C → List (Nat × EObj) → Prop} (h : opKF A fx tt0 (off + 64 * dstN x.dst) x e K) :
  ∃ v ups, OpD (CallRel P G rg) tt off e.s (toO e.o) x ⟨v, upsO ups⟩ ∧ (fx = true → BdSt (e.put x.dst v ups).toSt) ∧ K v ups := by
 have hops : fx = true → ∀ y ∈ x.op.operands, Bd (ev e.s y) := fun hf y hy => ev_bd (hb hf).s (List.all_eq_true.1 hx y (by simpa using hy))
 unfold opKF at h
 unfold OpD
 cases hc : asCall x.op with
 | some c =>
  rw [hc] at h
  simp only at h ⊢
  split at h
  ·rename_i g caps hcal
   rw [hA.call] at h
   unfold callB at h
   have hvs : fx = true → ∀ a ∈ c.args.toList.map (ev e.s) ++ caps, Bd a := by
    intro hf a ha
    have hop : x.op = .call c := by
     unfold asCall at hc
     split at hc
     ·split at hc
      ·cases hc; assumption
      ·cases hc
     ·cases hc
    obtain ⟨callee, args, argTypes⟩ := c
    rcases List.mem_append.1 ha with ha | ha
    ·obtain ⟨y, hy, rfl⟩ := List.mem_map.1 ha
     refine hops hf y ?_
     rw [hop]
     have : y ∈ args := by simpa using hy
     cases callee <;> simp [Op.operands, Call.operands, this]
    ·unfold calleeC at hcal
     split at hcal
     ·rename_i f hf'
      simp only at hf'
      split at hcal
      ·rename_i g' caps' hev
       simp only [Option.some.injEq, Prod.mk.injEq] at hcal
       obtain ⟨rfl, rfl⟩ := hcal
       have : Bd (ev e.s f) := hops hf f (by rw [hop]; simp [Op.operands, Call.operands, hf'])
       rw [hev] at this
       cases this with | fn _ _ hc => exact hc a ha
      ·cases hcal
     ·cases hcal
   rcases h with ⟨chg, bs, ext, res, ext', sh, ups, hC, hK⟩ | ⟨res, ups, hC, hK⟩
   ·have hbs : (∀ a ∈ bs, Bd a) ∧ ∀ x ∈ ext, BdR x.rows := by
     cases hfx : fx with
     | false => exact hC.bd hfx
     | true =>
      have ho := (hb hfx).o
      refine ⟨fun a ha => ?_, fun y hy => ?_⟩
      ·rw [← hC.hargs] at ha
       obtain ⟨z, hz, rfl⟩ := List.mem_map.1 ha
       exact argC_bd ho _ _ (hvs hfx z hz)
      ·rw [← hC.hext] at hy
       obtain ⟨z, hz, rfl⟩ := List.mem_map.1 hy
       exact extOf_bd ho _ _ _
    obtain ⟨hbr, hbe⟩ := hC.ok.bd hbs.1 hbs.2
    have hupsO : upsO ups = (if chg then putBack (toO e.o) (callIds (c.args.toList.map (ev e.s) ++ caps)) ext' else []) ++ (if sh || chg then freezeAll (toO e.o) ((c.args.toList.map (ev e.s) ++ caps).flatMap topRefs) else []) ++ impUps (toO e.o) (off + 64 * dstN x.dst) res := by
     rw [hC.ups, upsO_append, upsO_append, upsO_ite, upsO_ite, putBackE_toO, freezeE_toO, impUpsE_toO]
    refine ⟨_, ups, .inl ⟨g, caps, res, ext', sh, chg, hcal, ?_, hC.rw, hC.ids, hC.back, hC.tops, rfl, hupsO⟩, fun hfx => ?_, hK⟩
    ·rw [hC.hargs, hC.hext]; exact hC.ok.ok hbs.1 hbs.2
    ·refine put_bd (hb hfx) (impV_bd _ _ hbr) fun p hp => ?_
     rw [hupsO] at hp
     rcases List.mem_append.1 hp with hp | hp
     ·rcases List.mem_append.1 hp with hp | hp
      ·split at hp
       ·exact putBack_bd _ _ _ hbe p hp
       ·cases hp
      ·split at hp
       ·exact freezeAll_bd _ (hb hfx).o _ p hp
       ·cases hp
     ·exact impUps_bd _ _ hbr p hp
   ·refine ⟨res, ups, .inr ⟨g, caps, hcal, fun o' ho' => hC.ok o' fun i hi => ho' i (by rw [upsO_keys]; exact hi)⟩, fun hfx => ?_, hK⟩
    obtain ⟨h1, h2⟩ := hC.bd hfx (hvs hfx)
    refine put_bd (hb hfx) h1 fun p hp => ?_
    obtain ⟨q, hq, rfl⟩ := List.mem_map.1 hp
    exact h2 q hq
  ·exact h.elim
 | none =>
  rw [hc] at h
  obtain ⟨v, ups, h1, h2⟩ := opF_sound hsub hops x.type h
  refine ⟨v, ups, h1, fun hf => ?_, h2⟩
  obtain ⟨q1, q2⟩ := evalOp_bd hz (hb hf).o (hops hf) x.type h1
  exact put_bd (hb hf) q1 q2
theorem opW_step {R : Rel} {ops : Array Oper} {x : Oper} {e : ESt} {K : List Nat × List Nat → St → Prop} (hg : x.guard = none ∨ ∃ j want b, x.guard = some (j, want) ∧ yieldC ops e.s j = .bool b ∧ b = want)
  (h : ∃ v ups, OpD R tt off e.s (toO e.o) x ⟨v, upsO ups⟩ ∧ K (logE e.s e.o x ups) (e.put x.dst v ups).toSt) : opW R tt off ops x e.toSt K := by
 obtain ⟨v, ups, h1, h2⟩ := h
 have hk : opK R tt off x e.toSt fun d => K (logOf e.toSt.s e.toSt.o x d) (e.toSt.apply x.dst d) := by
  refine (opK_iff _ _ _ _ _ _).2 ⟨⟨v, upsO ups⟩, h1, ?_⟩
  rw [← put_toSt]
  have : logOf e.toSt.s e.toSt.o x ⟨v, upsO ups⟩ = logE e.s e.o x ups := by
   simp only [logOf, logE, upsO_keys]; rfl
  rw [this]; exact h2
 unfold opW
 rcases hg with hg | ⟨j, want, b, hg, hy, hb⟩
 ·simp only [hg]; exact hk
 ·have hw : wantC (yieldC ops e.toSt.s j) want = some true := by
   have hy' : yieldC ops e.toSt.s j = .bool b := hy
   rw [hy', hb]; simp [wantC]
  simp only [hg, hw, if_true]; exact hk
theorem opW_skip {R : Rel} {ops : Array Oper} {x : Oper} {e : ESt} {K : List Nat × List Nat → St → Prop} {j : Nat} {want : Bool} (hg : x.guard = some (j, want)) (hw : wantC (yieldC ops e.s j) want = some false)
  (h : K ([], []) (e.put x.dst (.tup []) []).toSt) : opW R tt off ops x e.toSt K := by
 have hw' : wantC (yieldC ops e.toSt.s j) want = some false := hw
 unfold opW
 simp only [hg, hw', Bool.false_eq_true, if_false]
 rw [put_toSt] at h; exact h
theorem undef_bd {e : ESt} (hb : fx = true → BdSt e.toSt) (dst : Option Nat) : fx = true → BdSt (e.put dst (.tup []) []).toSt :=
 fun hf => put_bd (hb hf) (.tup _ fun c hc => by cases hc) fun p hp => by cases hp
theorem sideE_sound : ∀ {l : List Nat} {p : Prop}, sideE o l p → (∀ i ∈ l, ∀ r ∈ (toO o i).rows, r.all closedCell = true) ∧ p
 | [], p, h => ⟨(fun i hi => by cases hi), h⟩
 | i :: l, p, h => by
  unfold sideE at h
  split at h
  ·rename_i rows hd
   obtain ⟨h1, h⟩ := h
   obtain ⟨h2, h3⟩ := sideE_sound h
   refine ⟨fun j hj => ?_, h3⟩
   rcases List.mem_cons.1 hj with rfl | hj
   ·rw [toO_rows hd]; exact h1 trivial
   ·exact h2 j hj
  ·rename_i c hd
   split at h
   ·rename_i hc
    obtain ⟨h2, h3⟩ := sideE_sound h
    refine ⟨fun j hj => ?_, h3⟩
    rcases List.mem_cons.1 hj with rfl | hj
    ·rw [toO_one hd]; intro r hr; rw [List.mem_singleton] at hr; subst hr; exact hc
    ·exact h2 j hj
   ·exact h.elim
theorem deep_closed {d : Nat} {c : C} (h : closedCell c = true) : deepIds (toO o) d c = [] := by cases c <;> simp [closedCell] at h <;> cases d <;> rfl
theorem deep_ref {d : Nat} {c : C} (h : ∀ i ∈ refId c, ∀ r ∈ (toO o i).rows, r.all closedCell = true) : deepIds (toO o) (d + 1) c = refId c := by
 cases c <;> try rfl
 rename_i id gen es base len
 have h := h id (by simp [refId])
 show id :: _ = [id]
 congr 1
 rw [List.flatMap_eq_nil_iff]
 intro r hr
 rw [List.flatMap_eq_nil_iff]
 intro c hc
 exact deep_closed (List.all_eq_true.1 (h r hr) c hc)
theorem deep_refs {l : List C} (h : ∀ i ∈ l.flatMap refId, ∀ r ∈ (toO o i).rows, r.all closedCell = true) : l.flatMap (deepIds (toO o) resD) = l.flatMap refId := by
 rw [List.flatMap_def, List.flatMap_def]
 congr 1
 exact List.map_congr_left fun c hc => deep_ref (d := 2) fun i hi => h i (List.mem_flatMap.2 ⟨c, hc, hi⟩)
theorem rowsE_sound : ∀ {l : List Nat} {K : List Nat → Prop}, rowsE o l K → K (l.flatMap fun i => (toO o i).rows.flatMap (List.flatMap (deepIds (toO o) resD)))
 | [], K, h => h
 | i :: l, K, h => by
  unfold rowsE at h
  rw [List.flatMap_cons]
  split at h
  ·rename_i rows hd
   have h1 : (toO o i).rows.flatMap (List.flatMap (deepIds (toO o) resD)) = [] := by
    rw [toO_rows hd, List.flatMap_eq_nil_iff]
    intro r hr
    rw [List.flatMap_eq_nil_iff]
    intro c hc
    exact deep_closed (List.all_eq_true.1 (h.1 trivial r hr) c hc)
   rw [h1]
   exact rowsE_sound h.2
  ·rename_i c hd
   obtain ⟨h1, h⟩ := sideE_sound h
   have h2 := rowsE_sound h
   rw [toO_one hd, List.flatMap_cons, List.flatMap_nil, List.append_nil, deep_refs h1]
   exact h2
theorem accE_sound {s : Nat → C} {x : Oper} {K : List Nat → Prop} (h : accE s o x K) : K (acc s (toO o) x) := by
 unfold accE at h
 split at h
 ·rename_i c hop
  split at h
  ·rename_i f hf
   unfold accV at h
   obtain ⟨h1, h⟩ := sideE_sound h
   have h2 := rowsE_sound h
   have e : acc s (toO o) x = callIds (c.args.toList.map (ev s) ++ ((calleeC s c).map (·.2)).getD []) ++ ((c.args.toList.map (ev s) ++ ((calleeC s c).map (·.2)).getD []).flatMap fun v => v.cells.flatMap refId) ++ ((callIds (c.args.toList.map (ev s) ++ ((calleeC s c).map (·.2)).getD [])).flatMap fun i => (toO o i).rows.flatMap (List.flatMap (deepIds (toO o) resD))) := by
    unfold acc
    rw [hop]
    simp only [hf]
    congr 2
    rw [List.flatMap_def, List.flatMap_def]
    congr 1
    exact List.map_congr_left fun v hv => deep_refs fun i hi => h1 i (List.mem_flatMap.2 ⟨v, hv, hi⟩)
   rw [e]; exact h2
  ·exact h
 ·exact h
theorem wpDF_sound (hA : IsBx fx rg P G A) (hsub : ∀ T, tt0 T = noTy ∨ tt T = tt0 T) (hz : ∀ T, ∀ c ∈ (tt T).zero, Bd c) {ops : Array Oper} {K : List (List Nat × List Nat) → ESt → Prop} {K' : List (List Nat × List Nat) → St → Prop}
  (hK : ∀ log e, (fx = true → BdSt e.toSt) → K log e → K' log e.toSt) :
  ∀ (l : List Oper) (log : List (List Nat × List Nat)) (e : ESt), (l.all fun x => x.op.operands.toList.all opdOK) = true → (fx = true → BdSt e.toSt) → wpDF A fx tt0 off ops l K log e → wpList (CallRel P G rg) tt off ops l K' log e.toSt
 | [], log, e, _, hb, h => hK log e hb h
 | x :: rest, log, e, hc, hb, h => by
  unfold wpDF at h
  simp only [List.all_cons, Bool.and_eq_true] at hc
  show opW (CallRel P G rg) tt off ops x e.toSt fun l st' => wpList (CallRel P G rg) tt off ops rest K' (l :: log) st'
  have step : (x.guard = none ∨ ∃ j want b, x.guard = some (j, want) ∧ yieldC ops e.s j = .bool b ∧ b = want) → (accE e.s e.o x fun ac => opKF A fx tt0 (off + 64 * dstN x.dst) x e (fun v ups => wpDF A fx tt0 off ops rest K ((ac ++ ups.map Prod.fst, ups.map Prod.fst) :: log) (e.put x.dst v ups))) → opW (CallRel P G rg) tt off ops x e.toSt fun l st' => wpList (CallRel P G rg) tt off ops rest K' (l :: log) st' := by
   intro hg hk
   have hk := accE_sound hk
   obtain ⟨v, ups, h1, h2, h3⟩ := opKF_sound hA hsub hz hc.1 hb hk
   exact opW_step hg ⟨v, ups, h1, wpDF_sound hA hsub hz hK rest _ _ hc.2 h2 h3⟩
  have skip : ∀ {j want}, x.guard = some (j, want) → wantC (yieldC ops e.s j) want = some false → wpDF A fx tt0 off ops rest K (([], []) :: log) (e.put x.dst (.tup []) []) → opW (CallRel P G rg) tt off ops x e.toSt fun l st' => wpList (CallRel P G rg) tt off ops rest K' (l :: log) st' := by
   intro j want hg hw hk
   exact opW_skip hg hw (wpDF_sound hA hsub hz hK rest _ _ hc.2 (undef_bd hb _) hk)
  split at h
  ·rename_i hg; exact step (.inl hg) h
  ·rename_i j want hg
   split at h
   ·rename_i b hy
    cases want <;> cases b <;> simp only at h
    ·exact step (.inr ⟨_, _, _, hg, hy, rfl⟩) h
    ·exact skip hg (by rw [hy]; rfl) h
    ·exact skip hg (by rw [hy]; rfl) h
    ·exact step (.inr ⟨_, _, _, hg, hy, rfl⟩) h
   ·rename_i hy; exact skip hg (by rw [hy]; rfl) h
   ·exact h.elim
theorem nilF_sub (hsub : ∀ T, tt0 T = noTy ∨ tt T = tt0 T) {s : Nat → C} {x : Oper} {xss : List (List C)} (h : nilF tt0 s x.op = some xss) : nilQ tt s x = true ∧ nilRows s x = xss := by
 unfold nilF at h
 unfold nilQ nilRows
 split at h
 ·rename_i T y U hop
  rw [hop]
  simp only
  split at h
  ·rename_i ys hy
   rw [hy]
   simp only
   split at h
   ·rename_i hk
    simp only [decide_eq_true_eq] at hk ⊢
    cases h
    rw [sub_kd hsub (by decide) hk]; exact ⟨hk, rfl⟩
   ·cases h
  ·cases h
 ·cases h
theorem bool_bd {e : ESt} (hb : fx = true → BdSt e.toSt) (dst : Option Nat) (b : Bool) : fx = true → BdSt (e.put dst (.bool b) []).toSt :=
 fun hf => put_bd (hb hf) (.bool b) fun p hp => by cases hp
theorem wpLF_sound (hA : IsBx fx rg P G A) (hsub : ∀ T, tt0 T = noTy ∨ tt T = tt0 T) (hz : ∀ T, ∀ c ∈ (tt T).zero, Bd c) {ops : Array Oper} {K : ESt → Prop} {K' : St → Prop} (hK : ∀ e, (fx = true → BdSt e.toSt) → K e → K' e.toSt) :
  ∀ (l : List Oper) (e : ESt), (l.all fun x => x.op.operands.toList.all opdOK) = true → (fx = true → BdSt e.toSt) → wpLF A fx tt0 off ops l K e → wpListN (CallRel P G rg) tt off ops l K' e.toSt
 | [], e, _, hb, h => hK e hb h
 | x :: rest, e, hc, hb, h => by
  unfold wpLF at h
  simp only [List.all_cons, Bool.and_eq_true] at hc
  have step : (x.guard = none ∨ ∃ j want b, x.guard = some (j, want) ∧ yieldC ops e.s j = .bool b ∧ b = want) → opKF A fx tt0 (off + 64 * dstN x.dst) x e (fun v ups => wpLF A fx tt0 off ops rest K (e.put x.dst v ups)) → opW (CallRel P G rg) tt off ops x e.toSt fun l st' => wpListN (CallRel P G rg) tt off ops rest K' st' := by
   intro hg hk
   obtain ⟨v, ups, h1, h2, h3⟩ := opKF_sound hA hsub hz hc.1 hb hk
   exact opW_step hg ⟨v, ups, h1, wpLF_sound hA hsub hz hK rest _ hc.2 h2 h3⟩
  have skip : ∀ {j want}, x.guard = some (j, want) → wantC (yieldC ops e.s j) want = some false → wpLF A fx tt0 off ops rest K (e.put x.dst (.tup []) []) → opW (CallRel P G rg) tt off ops x e.toSt fun l st' => wpListN (CallRel P G rg) tt off ops rest K' st' := by
   intro j want hg hw hk
   exact opW_skip hg hw (wpLF_sound hA hsub hz hK rest _ hc.2 (undef_bd hb _) hk)
  split at h
  ·rename_i hg
   split at h
   ·rename_i hq
    obtain ⟨hq1, hq2⟩ := nilF_sub hsub hq
    refine .inr ⟨hg, hq1, fun b hbn => ?_⟩
    have e1 : ∀ b, e.toSt.apply x.dst ⟨.bool b, []⟩ = (e.put x.dst (.bool b) []).toSt := fun b => rfl
    rw [e1]
    cases b
    ·exact wpLF_sound hA hsub hz hK rest _ hc.2 (bool_bd hb _ _) h.2
    ·exact wpLF_sound hA hsub hz hK rest _ hc.2 (bool_bd hb _ _) (h.1 (hq2 ▸ hbn rfl))
   ·exact .inl (step (.inl hg) h)
  ·rename_i j want hg
   split at h
   ·rename_i b hy
    cases want <;> cases b <;> simp only at h
    ·exact .inl (step (.inr ⟨_, _, _, hg, hy, rfl⟩) h)
    ·exact .inl (skip hg (by rw [hy]; rfl) h)
    ·exact .inl (skip hg (by rw [hy]; rfl) h)
    ·exact .inl (step (.inr ⟨_, _, _, hg, hy, rfl⟩) h)
   ·rename_i hy; exact .inl (skip hg (by rw [hy]; rfl) h)
   ·exact h.elim
theorem least {S : Nat → Prop} (h : ∃ n, S n) : ∃ n, S n ∧ ∀ k, S k → n ≤ k := by
 obtain ⟨n, hn⟩ := h
 induction n using Nat.strongRecOn with
 | _ n ih =>
  by_cases hx : ∃ k, k < n ∧ S k
  ·obtain ⟨k, hk, hs⟩ := hx; exact ih k hk hs
  ·exact ⟨n, hn, fun k hk => by rcases Nat.lt_or_ge k n with h | h; exact absurd ⟨k, h, hk⟩ hx; exact h⟩
theorem frzC_bd {O : Obj} (hO : BdR O.rows) (id : Nat) {c : C} (h : Bd c) : Bd (frzC id O c) := by
 unfold frzC
 split
 ·split
  ·refine .sl _ ?_ fun r hr => hO.rows r (List.mem_of_mem_drop (List.mem_of_mem_take hr))
   have := hO.len; simp; omega
  ·exact h
 ·exact h
theorem frzA_bd {O : Obj} (hO : BdR O.rows) (id : Nat) {c : C} (h : Bd c) : Bd (frzA id O c) := by
 unfold frzA
 split
 ·refine .agg _ fun c hc => ?_
  obtain ⟨x, hx, rfl⟩ := List.mem_map.1 hc
  cases h with | agg _ h => exact frzC_bd hO _ (h x hx)
 ·exact frzC_bd hO _ h
theorem frzV_bd {O : Obj} (hO : BdR O.rows) (id : Nat) {c : C} (h : Bd c) : Bd (frzV id O c) := by
 unfold frzV
 split
 ·refine .tup _ fun c hc => ?_
  obtain ⟨x, hx, rfl⟩ := List.mem_map.1 hc
  cases h with | tup _ h => exact frzA_bd hO _ (h x hx)
 ·exact frzA_bd hO _ h
theorem mvC_bd {o : Nat → Obj} {i j : Nat} {c : C} (h : Bd c) : Bd (mvC o i j c) := by
 unfold mvC
 split
 ·split
  ·cases h with | ref _ _ _ _ _ h => exact .ref _ _ _ _ _ h
  ·exact h
 ·split
  ·exact .ptr _ _ _ _ _
  ·exact h
 ·exact h
theorem mvA_bd {o : Nat → Obj} {i j : Nat} {c : C} (h : Bd c) : Bd (mvA o i j c) := by
 unfold mvA
 split
 ·refine .agg _ fun c hc => ?_
  obtain ⟨x, hx, rfl⟩ := List.mem_map.1 hc
  cases h with | agg _ h => exact mvC_bd (h x hx)
 ·exact mvC_bd h
theorem mvV_bd {o : Nat → Obj} {i j : Nat} {c : C} (h : Bd c) : Bd (mvV o i j c) := by
 unfold mvV
 split
 ·refine .tup _ fun c hc => ?_
  obtain ⟨x, hx, rfl⟩ := List.mem_map.1 hc
  cases h with | tup _ h => exact mvA_bd (h x hx)
 ·exact mvA_bd h
theorem mvR_bd {o : Nat → Obj} {i j : Nat} {rows : List (List C)} (h : BdR rows) : BdR (rows.map (List.map (mvC o i j))) := by
 refine ⟨by simpa using h.len, fun r hr c hc => ?_⟩
 obtain ⟨r0, hr0, rfl⟩ := List.mem_map.1 hr
 obtain ⟨c0, hc0, rfl⟩ := List.mem_map.1 hc
 exact mvC_bd (h.rows r0 hr0 c0 hc0)
theorem rgC_bd {o : Nat → Obj} {c : C} (h : Bd c) : Bd (rgC o c) := by
 unfold rgC
 split
 ·split
  ·cases h with | ref _ _ _ _ _ h => exact .ref _ _ _ _ _ h
  ·exact .undef
 ·split
  ·exact .ptr _ _ _ _ _
  ·exact .undef
 ·exact .undef
 ·exact h
theorem rgF_bd {o : Nat → Obj} {c : C} (h : Bd c) : Bd (rgF o c) := by
 unfold rgF
 split
 ·refine .fn _ _ fun c hc => ?_
  obtain ⟨x, hx, rfl⟩ := List.mem_map.1 hc
  cases h with | fn _ _ h => exact rgC_bd (h x hx)
 ·exact rgC_bd h
theorem rgA_bd {o : Nat → Obj} {c : C} (h : Bd c) : Bd (rgA o c) := by
 unfold rgA
 split
 ·refine .agg _ fun c hc => ?_
  obtain ⟨x, hx, rfl⟩ := List.mem_map.1 hc
  cases h with | agg _ h => exact rgC_bd (h x hx)
 ·exact rgF_bd h
theorem rgV_bd {o : Nat → Obj} {c : C} (h : Bd c) : Bd (rgV o c) := by
 unfold rgV
 split
 ·refine .tup _ fun c hc => ?_
  obtain ⟨x, hx, rfl⟩ := List.mem_map.1 hc
  cases h with | tup _ h => exact rgA_bd (h x hx)
 ·exact rgA_bd h
theorem nrC_bd {o : Nat → Obj} {ns : Nat → Option Nat} {c c' : C} (h : nrC o ns c c') (hb : Bd c) : Bd c' := by
 rcases h with rfl | ⟨_, id, es, _, rfl⟩
 ·exact hb
 ·exact .ref _ _ _ _ _ (Nat.zero_le _)
theorem nrA_bd {o : Nat → Obj} {ns : Nat → Option Nat} {c c' : C} (h : nrA o ns c c') (hb : Bd c) : Bd c' := by
 unfold nrA at h
 split at h
 ·obtain ⟨h1, h2⟩ := h
  cases hb with | agg _ hb =>
  refine .agg _ fun c hc => ?_
  obtain ⟨i, hi, rfl⟩ := List.getElem_of_mem hc
  have hl : i < _ := h1 ▸ hi
  exact nrC_bd (h2 i _ _ (List.getElem?_eq_getElem hl) (List.getElem?_eq_getElem hi)) (hb _ (List.getElem_mem hl))
 ·exact nrC_bd h hb
theorem wk_bd {st st' : St} (h : Wk rg st st') (hb : BdSt st) : BdSt st' := by
 induction h with
 | refl => exact hb
 | frz id h r ih =>
  rename_i st1 st2
  refine ih ⟨fun t => frzV_bd (hb.o id) _ (hb.s t), fun i => ?_⟩
  show BdR (frzO id st1.o i).rows
  unfold frzO
  split
  ·exact ⟨by simp [bnd63], fun r hr => by cases hr⟩
  ·refine ⟨by simpa using (hb.o i).len, fun r hr c hc => ?_⟩
   obtain ⟨r0, hr0, rfl⟩ := List.mem_map.1 hr
   obtain ⟨c0, hc0, rfl⟩ := List.mem_map.1 hc
   exact frzC_bd (hb.o id) _ ((hb.o i).rows r0 hr0 c0 hc0)
 | mv i j hij ho r ih =>
  rename_i st1 o' st2
  refine ih ⟨fun t => mvV_bd (hb.s t), fun k => ?_⟩
  show BdR (o' k).rows
  rcases (ho k).rows with h | ⟨_, h⟩ <;> rw [h]
  ·unfold mvO
   split
   ·exact mvR_bd (hb.o i)
   ·split
    ·exact ⟨by simp [bnd63], fun r hr => by cases hr⟩
    ·exact mvR_bd (hb.o k)
  ·exact hb.o _
 | cut hs ho r ih =>
  rename_i st1 s' o' st2
  refine ih ⟨fun t => ?_, fun i => ?_⟩
  ·show Bd (s' t)
   rcases hs t with e | e <;> rw [e]
   ·exact hb.s t
   ·exact .undef
  ·show BdR (o' i).rows
   rcases ho i with e | e <;> rw [e]
   ·exact hb.o i
   ·exact ⟨by simp [bnd63], fun r hr => by cases hr⟩
 | nref ns hs ho ho' r ih =>
  rename_i st1 s' o' st2
  refine ih ⟨fun t => nrA_bd (hs t) (hb.s t), fun i => ?_⟩
  show BdR (o' i).rows
  cases e : ns i with
  | some es => rw [ho i es e]; exact ⟨by simp [bnd63], fun r hr => by cases hr⟩
  | none =>
   have h := ho' i e
   refine ⟨by rw [h.len]; exact (hb.o i).len, fun r hr c hc => ?_⟩
   obtain ⟨k, hk, rfl⟩ := List.getElem_of_mem hr
   obtain ⟨j, hj, rfl⟩ := List.getElem_of_mem hc
   have hk' : k < (st1.o i).rows.length := h.len ▸ hk
   obtain ⟨q1, q2⟩ := h.rows k _ _ (List.getElem?_eq_getElem hk') (List.getElem?_eq_getElem hk)
   have hj' : j < (st1.o i).rows[k].length := q1 ▸ hj
   exact nrC_bd (q2 j _ _ (List.getElem?_eq_getElem hj') (List.getElem?_eq_getElem hj)) ((hb.o i).rows _ (List.getElem_mem hk') _ (List.getElem_mem hj'))
 | regen n h hp r ih =>
  rename_i st1 st2
  refine ih ⟨fun t => rgV_bd (hb.s t), fun i => ?_⟩
  refine ⟨by simpa [regen] using (hb.o i).len, fun r hr c hc => ?_⟩
  simp only [regen] at hr
  obtain ⟨r0, hr0, rfl⟩ := List.mem_map.1 hr
  obtain ⟨c0, hc0, rfl⟩ := List.mem_map.1 hc
  exact rgC_bd ((hb.o i).rows r0 hr0 c0 hc0)
end
end Go.Proofs.YtchpopejojghmaaGreatDoor.M
/- The evaluator is right: the whole; the rules of functions. -/
namespace Go.Proofs.YtchpopejojghmaaGreatDoor.M
open Go
section
variable {A : Bx} {P : Program} {G : Glob} {fx : Bool} {rg : Option Nat} {tt tt0 : Nat → TyI} {own off nt : Nat} {cs : List Nat}
theorem inv_min {α : Type} {f : α → St} {I : α → Prop} {μ : α → Nat} : ∃ m : St → Nat, (∀ x, I x → m (f x) ≤ μ x) ∧ ∀ st, (∃ x, f x = st ∧ I x) → ∃ x, f x = st ∧ I x ∧ μ x = m st := by
 classical
 let S : St → Nat → Prop := fun st n => ∃ e, f e = st ∧ I e ∧ μ e = n
 refine ⟨fun st => if h : ∃ n, S st n then Classical.choose (least h) else 0, fun e he => ?_, ?_⟩
 ·have hx : ∃ n, S (f e) n := ⟨_, e, rfl, he, rfl⟩
  simp only [dif_pos hx]
  exact (Classical.choose_spec (least hx)).2 _ ⟨e, rfl, he, rfl⟩
 ·rintro st ⟨e, he, hI⟩
  have hx : ∃ n, S st n := ⟨_, e, he, hI, rfl⟩
  simp only [dif_pos hx]
  exact (Classical.choose_spec (least hx)).1
theorem wpC_mono {R : Rel} : ∀ (c : Code) (Q Q' : Ex → St → Prop) (st : St), (∀ x s, Q x s → Q' x s) → wpC R tt off nt c Q st → wpC R tt off nt c Q' st := by
 have opW_mono : ∀ (ops : Array Oper) (x : Oper) (st : St) (K K' : List Nat × List Nat → St → Prop), (∀ l s, K l s → K' l s) → opW R tt off ops x st K → opW R tt off ops x st K' := by
  intro ops x st K K' h hx
  have hk : ∀ D D' : Delta → Prop, (∀ d, D d → D' d) → opK R tt off x st D → opK R tt off x st D' := by
   intro D D' hD hd
   obtain ⟨d, h1, h2⟩ := (opK_iff _ _ _ _ _ _).1 hd
   exact (opK_iff _ _ _ _ _ _).2 ⟨d, h1, hD d h2⟩
  unfold opW at *
  split
  ·rename_i hg; rw [hg] at hx; exact hk _ _ (fun d hd => h _ _ hd) hx
  ·rename_i j want hg
   rw [hg] at hx
   simp only at hx
   split
   ·rename_i b hy
    rw [hy] at hx
    simp only at hx
    split
    ·rename_i hb; rw [if_pos hb] at hx; exact hk _ _ (fun d hd => h _ _ hd) hx
    ·rename_i hb; rw [if_neg hb] at hx; exact h _ _ hx
   ·rename_i hy
    rw [hy] at hx; exact hx
 have listN_mono : ∀ (ops : Array Oper) (K K' : St → Prop), (∀ s, K s → K' s) → ∀ (l : List Oper) (st : St), wpListN R tt off ops l K st → wpListN R tt off ops l K' st := by
  intro ops K K' h l
  induction l with
  | nil => intro st hx; exact h _ hx
  | cons x l ih =>
   intro st hx
   rcases hx with hx | ⟨h1, h2, hx⟩
   ·exact .inl (opW_mono ops x st _ _ (fun _ s hs => ih s hs) hx)
   ·exact .inr ⟨h1, h2, fun b hb => ih _ (hx b hb)⟩
 have list_mono : ∀ (ops : Array Oper) (K K' : List (List Nat × List Nat) → St → Prop), (∀ l s, K l s → K' l s) → ∀ (l : List Oper) (log : List (List Nat × List Nat)) (st : St), wpList R tt off ops l K log st → wpList R tt off ops l K' log st := by
  intro ops K K' h l
  induction l with
  | nil => intro log st hx; exact h _ _ hx
  | cons x l ih => intro log st hx; exact opW_mono ops x st _ _ (fun _ s hs => ih _ s hs) hx
 intro c
 induction c with
 | skip => intro Q Q' st h hx; exact h _ _ hx
 | region id ops draw =>
  intro Q Q' st h hx
  cases draw with
  | false => exact ⟨hx.1, listN_mono ops _ _ (fun s hs => h _ _ hs) _ _ hx.2⟩
  | true => exact ⟨hx.1, list_mono ops _ _ (fun _ s hs => ⟨hs.1, hs.2.1, h _ _ hs.2.2⟩) _ _ _ hx.2⟩
 | seq a b iha ihb =>
  intro Q Q' st h hx
  refine iha _ _ st (fun x s hs => ?_) hx
  cases x with
  | nml => obtain ⟨s1, hw, hs⟩ := hs; exact ⟨s1, hw, ihb _ _ _ h hs⟩
  | exit i => exact h _ _ hs
  | ret => exact h _ _ hs
 | cond c a b iha ihb =>
  intro Q Q' st h hx
  simp only [wpC] at *
  split
  ·rename_i t ht
   rw [ht] at hx
   simp only at hx
   split
   ·rename_i e; rw [if_pos e] at hx; exact iha _ _ _ h hx
   ·rename_i e; rw [if_neg e] at hx; exact ihb _ _ _ h hx
  ·rename_i hn
   split at hx
   ·rename_i t ht; exact absurd ht (hn t)
   ·exact hx
 | block id a ih =>
  intro Q Q' st h hx
  refine ih _ _ st (fun x s hs => ?_) hx
  cases x with
  | nml => exact h _ _ hs
  | exit i =>
   simp only at hs ⊢
   split
   ·rename_i e; rw [if_pos e] at hs; exact h _ _ hs
   ·rename_i e; rw [if_neg e] at hs; exact h _ _ hs
  | ret => exact h _ _ hs
 | loop a ih =>
  intro Q Q' st h hx
  obtain ⟨I, μ, h0, hr⟩ := hx
  refine ⟨I, μ, h0, fun s hs => ih _ _ s (fun x s' hs' => ?_) (hr s hs)⟩
  cases x with
  | nml => exact hs'
  | exit i => exact h _ _ hs'
  | ret => exact h _ _ hs'
 | exit id => intro Q Q' st h hx; exact h _ _ hx
 | ret => intro Q Q' st h hx; exact h _ _ hx
 | _ => intro Q Q' st h hx; exact absurd hx (by simp [wpC])
theorem wpF_sound (hA : IsBx fx rg P G A) (hsub : ∀ T, tt0 T = noTy ∨ tt T = tt0 T) (hz : ∀ T, ∀ c ∈ (tt T).zero, Bd c) : ∀ (c : Code) (Q : Ex → ESt → Prop) (Q' : Ex → St → Prop) (e : ESt), (∀ x e, (fx = true → BdSt e.toSt) → Q x e → Q' x e.toSt) →
  codeOK nt c = true → (fx = true → BdSt e.toSt) → wpF A fx tt0 off cs c Q e → wpC (CallRel P G rg) tt off nt c Q' e.toSt := by
 intro c
 induction c with
 | skip => intro Q Q' e hQ _ hb h; exact hQ _ _ hb h
 | region id ops draw =>
  intro Q Q' e hQ hc hb h
  simp only [codeOK, Bool.and_eq_true, Bool.or_eq_true] at hc
  have hd : dstOK nt ops = true := by unfold dstOK; rw [← Array.all_toList]; exact hc.1.1
  cases draw with
  | false => exact ⟨hd, wpLF_sound hA hsub hz (fun e hb h => hQ _ _ hb h) _ e hc.1.2 hb h⟩
  | true =>
   have hr : regionOK ops = true := by simpa using hc.2
   refine ⟨hd, wpDF_sound hA hsub hz (fun _ e hb hx => ?_) _ [] e hc.1.2 hb h⟩
   obtain ⟨hi, hx⟩ := hx
   rw [hA.indep] at hi
   exact ⟨hr, hi, hQ _ _ hb hx⟩
 | seq a b iha ihb =>
  intro Q Q' e hQ hc hb h
  simp only [codeOK, Bool.and_eq_true] at hc
  simp only [wpF] at h
  split at h
  ·rw [hA.seq] at h
   obtain ⟨α, st, φ, h1, h2⟩ := h
   refine iha _ _ e (fun x e' hb' hx => ?_) hc.1 hb h1
   cases x with
   | nml =>
    obtain ⟨y, hI, hw⟩ := hx
    have hb1 : fx = true → BdSt (st y).toSt := fun hf => wk_bd hw (hb' hf)
    exact ⟨(st y).toSt, hw, ihb _ _ (st y) hQ hc.2 hb1 (h2 y hI hb1)⟩
   | exit i => exact hQ _ _ hb' hx
   | ret => exact hQ _ _ hb' hx
  ·refine iha _ _ e (fun x e' hb' hx => ?_) hc.1 hb h
   cases x with
   | nml => exact ⟨_, .refl _, ihb _ _ _ hQ hc.2 hb' hx⟩
   | exit i => exact hQ _ _ hb' hx
   | ret => exact hQ _ _ hb' hx
 | cond c a b iha ihb =>
  intro Q Q' e hQ hc hb h
  simp only [codeOK, Bool.and_eq_true] at hc
  simp only [wpF] at h
  simp only [wpC]
  split at h
  ·rename_i t ht
   have ht' : ev e.toSt.s c = .bool t := ht
   rw [ht']
   cases t with
   | true => exact (if_pos rfl).mpr (iha _ _ _ hQ hc.1 hb h)
   | false => exact (if_neg (by simp)).mpr (ihb _ _ _ hQ hc.2 hb h)
  ·exact h.elim
 | block id a ih =>
  intro Q Q' e hQ hc hb h
  refine ih _ _ e (fun x e' hb' hx => ?_) hc hb h
  cases x with
  | nml => exact hQ _ _ hb' hx
  | exit i =>
   simp only at hx ⊢
   split
   ·rename_i hi; rw [if_pos hi] at hx; exact hQ _ _ hb' hx
   ·rename_i hi; rw [if_neg hi] at hx; exact hQ _ _ hb' hx
  | ret => exact hQ _ _ hb' hx
 | loop a ih =>
  intro Q Q' e hQ hc hb h
  simp only [wpF] at h
  rw [hA.loop] at h
  obtain ⟨α, f, φ, μ, ⟨x0, h0, hw0⟩, hr⟩ := h
  let J : α → Prop := fun x => (fx = true → BdSt (f x).toSt) ∧ φ x
  obtain ⟨m, hm, hmin⟩ := inv_min (f := fun x => (f x).toSt) (I := J) (μ := μ)
  refine ⟨fun st => ∃ x, (f x).toSt = st ∧ J x, m, ⟨(f x0).toSt, hw0, x0, rfl, fun hf => wk_bd hw0 (hb hf), h0⟩, ?_⟩
  intro st hst
  obtain ⟨y, rfl, ⟨hbe, hI⟩, hμ⟩ := hmin st hst
  refine ih _ _ (f y) (fun x e'' hb'' hx => ?_) hc hbe (hr y hI hbe)
  cases x with
  | nml =>
   obtain ⟨y', hI1, hlt, hw⟩ := hx
   have hJ : J y' := ⟨fun hf => wk_bd hw (hb'' hf), hI1⟩
   exact ⟨(f y').toSt, hw, ⟨y', rfl, hJ⟩, Nat.lt_of_le_of_lt (hm y' hJ) (by rw [← hμ]; exact hlt)⟩
  | exit i => exact hQ _ _ hb'' hx
  | ret => exact hQ _ _ hb'' hx
 | exit id => intro Q Q' e hQ _ hb h; exact hQ _ _ hb h
 | ret => intro Q Q' e hQ _ hb h; exact hQ _ _ hb h
 | _ => intro Q Q' e hQ _ hb h; exact absurd h (by simp [wpF])
theorem wpC_ex {R : Rel} : ∀ (c : Code) (Q : Ex → St → Prop) (st : St), wpC R tt off nt c Q st → ∃ x st', Q x st' := by
 have list_ex : ∀ (ops : Array Oper) (K : List (List Nat × List Nat) → St → Prop) (l : List Oper) (log : List (List Nat × List Nat)) (st : St), wpList R tt off ops l K log st → ∃ lo st', K lo st' := by
  intro ops K l
  induction l with
  | nil => intro log st h; exact ⟨_, _, h⟩
  | cons x l ih =>
   intro log st h
   have hk : ∀ D : Delta → Prop, opK R tt off x st D → ∃ d, D d := fun D hd => by
    obtain ⟨d, _, h2⟩ := (opK_iff _ _ _ _ _ _).1 hd
    exact ⟨d, h2⟩
   have h : opW R tt off ops x st fun l' st' => wpList R tt off ops l K (l' :: log) st' := h
   unfold opW at h
   split at h
   ·obtain ⟨d, hd⟩ := hk _ h; exact ih _ _ hd
   ·split at h
    ·split at h
     ·obtain ⟨d, hd⟩ := hk _ h; exact ih _ _ hd
     ·exact ih _ _ h
    ·exact h.elim
 have listN_ex : ∀ (ops : Array Oper) (K : St → Prop) (l : List Oper) (st : St), wpListN R tt off ops l K st → ∃ st', K st' := by
  intro ops K l
  induction l with
  | nil => intro st h; exact ⟨_, h⟩
  | cons x l ih =>
   intro st h
   have hk : ∀ D : Delta → Prop, opK R tt off x st D → ∃ d, D d := fun D hd => by
    obtain ⟨d, _, h2⟩ := (opK_iff _ _ _ _ _ _).1 hd
    exact ⟨d, h2⟩
   rcases h with h | ⟨_, _, h⟩
   ·unfold opW at h
    split at h
    ·obtain ⟨d, hd⟩ := hk _ h; exact ih _ hd
    ·split at h
     ·split at h
      ·obtain ⟨d, hd⟩ := hk _ h; exact ih _ hd
      ·exact ih _ h
     ·exact h.elim
   ·exact ih _ (h false (fun h => by cases h))
 intro c
 induction c with
 | skip => intro Q st h; exact ⟨_, _, h⟩
 | region id ops draw =>
  intro Q st h
  cases draw with
  | false => obtain ⟨st', h'⟩ := listN_ex _ _ _ _ h.2; exact ⟨_, _, h'⟩
  | true => obtain ⟨lo, st', h'⟩ := list_ex _ _ _ _ _ h.2; exact ⟨_, _, h'.2.2⟩
 | seq a b iha ihb =>
  intro Q st h
  obtain ⟨x, st', h'⟩ := iha _ _ h
  cases x with
  | nml => obtain ⟨s1, _, h''⟩ := h'; exact ihb _ _ h''
  | exit i => exact ⟨_, _, h'⟩
  | ret => exact ⟨_, _, h'⟩
 | cond c a b iha ihb =>
  intro Q st h
  simp only [wpC] at h
  split at h
  ·split at h
   ·exact iha _ _ h
   ·exact ihb _ _ h
  ·exact h.elim
 | block id a ih =>
  intro Q st h
  obtain ⟨x, st', h'⟩ := ih _ _ h
  cases x with
  | nml => exact ⟨_, _, h'⟩
  | exit i =>
   simp only at h'
   split at h' <;> exact ⟨_, _, h'⟩
  | ret => exact ⟨_, _, h'⟩
 | loop a ih =>
  intro Q st h
  obtain ⟨I, μ, ⟨s0, _, h0⟩, hr⟩ := h
  have key : ∀ n s, μ s ≤ n → I s → ∃ x st', Q x st' := by
   intro n
   induction n with
   | zero =>
    intro s hn hI
    obtain ⟨x, st', h'⟩ := ih _ _ (hr s hI)
    cases x with
    | nml => obtain ⟨s1, _, _, hlt⟩ := h'; omega
    | exit i => exact ⟨_, _, h'⟩
    | ret => exact ⟨_, _, h'⟩
   | succ n ihn =>
    intro s hn hI
    obtain ⟨x, st', h'⟩ := ih _ _ (hr s hI)
    cases x with
    | nml => obtain ⟨s1, _, hI1, hlt⟩ := h'; exact ihn s1 (by omega) hI1
    | exit i => exact ⟨_, _, h'⟩
    | ret => exact ⟨_, _, h'⟩
  exact key _ s0 (Nat.le_refl _) h0
 | exit id => intro Q st h; exact ⟨_, _, h⟩
 | ret => intro Q st h; exact ⟨_, _, h⟩
 | _ => intro Q st h; exact absurd h (by simp [wpC])
end
end Go.Proofs.YtchpopejojghmaaGreatDoor.M
/- The rules in the evaluator's words: functions, calls, results. -/
namespace Go.Proofs.YtchpopejojghmaaGreatDoor.M
open Go
def resE (tt : Nat → TyI) (e : ESt) : ResultVar → Option C
 | .tmp t => some (e.s t)
 | .cell t T => match e.s t with
  | .ptr id g _ row off => if (e.o id).gen = g ∧ (tt T).size ≠ 0 then match (e.o id).dat with
    | .one r => if row = 0 then loadC (tt T) r off else none
    | .many _ => none
   else none
  | .ip cs off => if (tt T).size ≠ 0 then loadC (tt T) cs off else none
  | _ => none
def resEs (tt : Nat → TyI) (e : ESt) : List ResultVar → Option (List C)
 | [] => some []
 | x :: r => match resE tt e x with
  | some c => match resEs tt e r with
   | some cs => some (unT c :: cs)
   | none => none
  | none => none
def endE (tt : Nat → TyI) (e : ESt) (rs : List ResultVar) : Option C :=
 match rs with
 | [x] => resE tt e x
 | rs => match resEs tt e rs with
  | some cs => some (.tup cs)
  | none => none
structure FinOK (o : Nat → Obj) (tops : Bool) (res : C) (sh : Bool) (v : C) : Prop where
 shape : shapeV v = true
 nodup : (expIds v).Nodup
 eq : expV o (if tops then expIds v else []) v = res
 plain : sh = false → plainV res = true
def finB (tops : Bool) (res : C) (sh : Bool) (o : Nat → EObj) (v : C) : Prop := FinOK (toO o) tops res sh v
def finI (res : C) (ups : List (Nat × EObj)) (o0 : Nat → EObj) (o : Nat → EObj) (v : C) : Prop := v = res ∧ toO o = toO (setE o0 ups)
def RetF (F : (Nat → EObj) → C → Prop) (tt : Nat → TyI) (rs : List ResultVar) (x : Ex) (e : ESt) : Prop :=
 match x with
 | .exit _ => False
 | _ => match endE tt e rs with
  | some v => F e.o v
  | none => False
def bx (fx : Bool) (rg : Option Nat) (P : Program) (G : Glob) : Bx := ⟨callB fx P G, indepB, loopB fx rg, seqB fx rg⟩
theorem isBx (fx : Bool) (rg : Option Nat) (P : Program) (G : Glob) : IsBx fx rg P G (bx fx rg P G) := ⟨rfl, rfl, rfl, rfl⟩
def blankR : EObj := ⟨0, false, 0, .many []⟩
def extE (l : List EObj) : Nat → EObj := fun i => l.getD i blankR
def startE (args : List C) (o : Nat → EObj) : ESt := ⟨fun t => args.getD t .undef, o⟩
section
variable {P : Program} {G : Glob} {fx : Bool} {rg : Option Nat} {tt0 : Nat → TyI} {own off nt : Nat} {cs : List Nat}
theorem resE_sound (hsub : ∀ T, tt0 T = noTy ∨ ttOf P T = tt0 T) {e : ESt} {x : ResultVar} {c : C} (h : resE tt0 e x = some c) : resV (ttOf P) e.toSt x = some c := by
 cases x with
 | tmp t => exact h
 | cell t T =>
  simp only [resE] at h
  simp only [resV]
  split at h
  ·rename_i id g es row off hs
   have hs' : e.toSt.s t = .ptr id g es row off := hs
   rw [hs']
   split at h
   ·rename_i hk
    split at h
    ·rename_i r hd
     split at h
     ·rename_i hrow
      subst hrow
      have hr : (e.toSt.o id).rows = [r] := toO_one hd
      simp only [hr]
      rw [if_pos (show (e.toSt.o id).gen = g from hk.1), sub_sz hsub hk.2]
      simpa using h
     ·cases h
    ·cases h
   ·cases h
  ·rename_i cs off hs
   have hs' : e.toSt.s t = .ip cs off := hs
   rw [hs']
   split at h
   ·rename_i hk; rw [sub_sz hsub hk]; exact h
   ·cases h
  ·cases h
theorem resEs_sound (hsub : ∀ T, tt0 T = noTy ∨ ttOf P T = tt0 T) {e : ESt} : ∀ {rs : List ResultVar} {l : List C}, resEs tt0 e rs = some l → ∃ l0, resVs (ttOf P) e.toSt rs = some l0 ∧ l = l0.map unT
 | [], l, h => by cases h; exact ⟨[], rfl, rfl⟩
 | x :: r, l, h => by
  simp only [resEs] at h
  split at h
  ·rename_i c hc
   split at h
   ·rename_i cs hcs
    cases h
    obtain ⟨l0, h1, h2⟩ := resEs_sound hsub hcs
    exact ⟨c :: l0, by simp [resVs, resE_sound hsub hc, h1], by simp [h2]⟩
   ·cases h
  ·cases h
theorem endE_sound (hsub : ∀ T, tt0 T = noTy ∨ ttOf P T = tt0 T) {e : ESt} {rs : List ResultVar} {v : C} (h : endE tt0 e rs = some v) : endV (ttOf P) e.toSt rs = some v := by
 unfold endE at h
 unfold endV
 split at h
 ·exact resE_sound hsub h
 ·rename_i rs hn
  split
  ·exact absurd rfl (hn _)
  ·split at h
   ·rename_i l hl
    obtain ⟨l0, h1, rfl⟩ := resEs_sound hsub hl
    cases h
    simp [h1]
   ·cases h
theorem expC_bd {o : Nat → Obj} (ho : ∀ i, BdR (o i).rows) (ex : List Nat) {c : C} (h : Bd c) : Bd (expC o ex c) := by
 have hm : ∀ i, BdR ((o i).rows.map (List.map (resC o ex resD))) := fun i => by
  refine ⟨by simpa using (ho i).len, fun r hr c hc => ?_⟩
  obtain ⟨r0, hr0, rfl⟩ := List.mem_map.1 hr
  obtain ⟨c0, hc0, rfl⟩ := List.mem_map.1 hc
  exact resC_bd ho ex _ _ ((ho i).rows r0 hr0 c0 hc0)
 unfold expC
 split
 ·exact .nils
 ·split
  ·exact .fr _ _ (hm _).len (hm _).rows
  ·exact resC_bd ho ex _ _ h
 ·split
  ·refine .frp _ fun c hc => ?_
   obtain ⟨c0, hc0, rfl⟩ := List.mem_map.1 hc
   rename_i id _ _ _ _ hx
   refine resC_bd ho ex _ _ ?_
   have hl : 0 < (o id).rows.length := by omega
   rw [List.getD_eq_getElem?_getD, List.getElem?_eq_getElem hl] at hc0
   exact (ho id).rows _ (List.getElem_mem hl) _ hc0
  ·exact .undef
 ·exact resC_bd ho ex _ _ h
theorem expA_bd {o : Nat → Obj} (ho : ∀ i, BdR (o i).rows) (ex : List Nat) {c : C} (h : Bd c) : Bd (expA o ex c) := by
 unfold expA
 split
 ·refine .agg _ fun c hc => ?_
  obtain ⟨x, hx, rfl⟩ := List.mem_map.1 hc
  cases h with | agg _ h => exact expC_bd ho ex (h x hx)
 ·exact expC_bd ho ex h
theorem expV_bd {o : Nat → Obj} (ho : ∀ i, BdR (o i).rows) (ex : List Nat) {c : C} (h : Bd c) : Bd (expV o ex c) := by
 unfold expV
 split
 ·refine .tup _ fun c hc => ?_
  obtain ⟨x, hx, rfl⟩ := List.mem_map.1 hc
  cases h with | tup _ h => exact expA_bd ho ex (h x hx)
 ·exact expA_bd ho ex h
theorem unT_bd {c : C} (h : Bd c) : Bd (unT c) := by
 unfold unT; split
 ·exact .undef
 ·exact h
theorem resV_bd {st : St} (hb : BdSt st) {x : ResultVar} {c : C} (h : resV (ttOf P) st x = some c) : Bd c := by
 cases x with
 | tmp t => cases h; exact hb.s t
 | cell t T =>
  simp only [resV] at h
  split at h
  ·split at h
   ·obtain ⟨r, hr, h⟩ := Option.bind_eq_some_iff.1 h
    exact loadC_bd ((hb.o _).rows r (List.mem_of_getElem? hr)) h
   ·cases h
  ·rename_i cs off hs
   have := hb.s t
   rw [hs] at this
   cases this with | ip _ _ hc => exact loadC_bd hc h
  ·cases h
theorem resVs_bd {st : St} (hb : BdSt st) : ∀ (rs : List ResultVar) (l : List C), resVs (ttOf P) st rs = some l → ∀ c ∈ l, Bd c
 | [], l, h, c, hc => by cases h; cases hc
 | y :: rs, l, h, c, hc => by
  simp only [resVs] at h
  obtain ⟨d, hd, h⟩ := Option.bind_eq_some_iff.1 h
  obtain ⟨l', hl', rfl⟩ := Option.map_eq_some_iff.1 h
  rcases List.mem_cons.1 hc with rfl | hc
  ·exact resV_bd hb hd
  ·exact resVs_bd hb rs _ hl' c hc
theorem endV_bd {st : St} (hb : BdSt st) {rs : List ResultVar} {c : C} (h : endV (ttOf P) st rs = some c) : Bd c := by
 unfold endV at h
 split at h
 ·exact resV_bd hb h
 ·obtain ⟨l, hl, rfl⟩ := Option.map_eq_some_iff.1 h
  refine .tup _ fun c hc => ?_
  obtain ⟨x, hx, rfl⟩ := List.mem_map.1 hc
  exact unT_bd (resVs_bd hb _ _ hl x hx)
theorem fn_ok {f : FuncId} {fn : Func} {body : Code} {args : List C} {ext : List EObj} {res : C} {sh : Bool} (hm : P.follows .mixedOrders = true) (hsub : ∀ T, tt0 T = noTy ∨ ttOf P T = tt0 T) (hz : ∀ T, ∀ c ∈ (ttOf P T).zero, Bd c)
  (off : Nat) (tops : Bool) (cs : List Nat) (hf : P.funcs[f]? = some fn) (hb : fn.body = some body) (hname : (fn.name == "runtime.NumGoroutine") = false) (hnt : args.length ≤ fn.ntmps) (hro : ∀ x ∈ ext, x.rw = false) (hc : codeOK fn.ntmps body = true)
  (h : ∀ A F, IsBx true (some 0) P G A → F = finB tops res sh → wpF A true tt0 off cs body (RetF F tt0 fn.results.toList) (startE args (extE ext))) : FnOK P G f args (ext.map EObj.toObj) res (ext.map EObj.toObj) sh := by
 have hst : (startE args (extE ext)).toSt = start args (extO (ext.map EObj.toObj)) := by
  unfold startE ESt.toSt start
  congr 1
  funext i
  simp only [toO, extE, extO, List.getD_eq_getElem?_getD, List.getElem?_map]
  cases ext[i]? <;> rfl
 have hbd : (∀ a ∈ args, Bd a) → (∀ x ∈ ext.map EObj.toObj, BdR x.rows) → BdSt (startE args (extE ext)).toSt := by
  intro ha hx
  rw [hst]
  refine ⟨fun t => ?_, fun i => ?_⟩
  ·show Bd (args.getD t .undef)
   rw [List.getD_eq_getElem?_getD]
   cases e : args[t]? with
   | none => exact .undef
   | some a => exact ha a (List.mem_of_getElem? e)
  ·show BdR ((extO (ext.map EObj.toObj)) i).rows
   rw [extO, List.getD_eq_getElem?_getD]
   cases e : (ext.map EObj.toObj)[i]? with
   | none => exact ⟨by simp [blank, bnd63], fun r hr => by cases hr⟩
   | some a => exact hx a (List.mem_of_getElem? e)
 have hw : (∀ a ∈ args, Bd a) → (∀ x ∈ ext.map EObj.toObj, BdR x.rows) → wpC (CallRel P G (some 0)) (ttOf P) off fn.ntmps body (fun x st => RetOK (ttOf P) fn.results.toList tops res sh x st ∧ Bd res) (start args (extO (ext.map EObj.toObj))) := by
  intro ha hx
  rw [← hst]
  refine wpF_sound (isBx true (some 0) P G) hsub hz body _ _ _ (fun x e hbe hq => ?_) hc (fun _ => hbd ha hx) (h _ _ (isBx true (some 0) P G) rfl)
  have hb := hbe rfl
  have main : ∀ {p : Prop}, (match endE tt0 e fn.results.toList with | some v => finB tops res sh e.o v | none => False) → p → (p ∧ ∃ v, endV (ttOf P) e.toSt fn.results.toList = some v ∧ shapeV v = true ∧ (expIds v).Nodup ∧ expV e.toSt.o (if tops then expIds v else []) v = res ∧ (sh = false → plainV res = true)) ∧ Bd res := by
   intro p hq hp
   split at hq
   ·rename_i v hv
    unfold finB at hq
    have he := endE_sound hsub hv
    refine ⟨⟨hp, v, he, hq.shape, hq.nodup, hq.eq, hq.plain⟩, ?_⟩
    rw [← hq.eq]
    exact expV_bd hb.o _ (endV_bd hb he)
   ·exact hq.elim
  cases x with
  | nml => exact main hq trivial
  | exit i => exact hq.elim
  | ret => exact main hq trivial
 refine ⟨fun ha hx => ?_, fun ha hx => ?_⟩
 ·refine call_ok hm off tops hf hb hname hnt (fun x hx => ?_) (wpC_mono body _ _ _ (fun x s hq => hq.1) (hw ha hx))
  obtain ⟨y, hy, rfl⟩ := List.mem_map.1 hx
  exact hro y hy
 ·obtain ⟨x, st', hq⟩ := wpC_ex body _ _ (hw ha hx)
  exact ⟨hq.2, hx⟩
theorem in_ok {f : FuncId} {fn : Func} {body : Code} {args : List C} {o : Nat → EObj} {res : C} {ups : List (Nat × EObj)} (hm : P.follows .mixedOrders = true) (hsub : ∀ T, tt0 T = noTy ∨ ttOf P T = tt0 T) (hz : ∀ T, ∀ c ∈ (ttOf P T).zero, Bd c)
  (off : Nat) (cs : List Nat) (hf : P.funcs[f]? = some fn) (hb : fn.body = some body) (hname : (fn.name == "runtime.NumGoroutine") = false) (hnt : args.length ≤ fn.ntmps) (hc : codeOK fn.ntmps body = true)
  (h : ∀ A F, IsBx false none P G A → F = finI res ups o → wpF A false tt0 off cs body (RetF F tt0 fn.results.toList) (startE args o)) : InlOK P G f args (toO o) res (upsO ups) := by
 refine inl_ok hm off hf hb hname hnt ?_
 refine wpF_sound (isBx false none P G) hsub hz body _ _ (startE args o) (fun x e _ hq => ?_) hc (fun h => by cases h) (h _ _ (isBx false none P G) rfl)
 have main : ∀ {p : Prop}, (match endE tt0 e fn.results.toList with | some v => finI res ups o e.o v | none => False) → p → p ∧ endV (ttOf P) e.toSt fn.results.toList = some res ∧ e.toSt.o = setAll (toO o) (upsO ups) := by
  intro p hq hp
  split at hq
  ·rename_i v hv
   unfold finI at hq
   refine ⟨hp, ?_, ?_⟩
   ·rw [← hq.1]; exact endE_sound hsub hv
   ·rw [← setE_toO]; exact hq.2
  ·exact hq.elim
 cases x with
 | nml => exact main hq trivial
 | exit i => exact hq.elim
 | ret => exact main hq trivial
end
end Go.Proofs.YtchpopejojghmaaGreatDoor.M
/- The rules in the evaluator's words: calls, loops, results. -/
namespace Go.Proofs.YtchpopejojghmaaGreatDoor.M
open Go
section
variable {A : Bx} {P : Program} {G : Glob} {fx : Bool} {rg : Option Nat} {tt0 : Nat → TyI} {own off nt : Nat} {cs : List Nat} {o : Nat → EObj}
theorem map_resC_closed (o : Nat → Obj) (ex : List Nat) (d : Nat) {r : List C} (h : r.all closedCell = true) : r.map (resC o ex d) = r := by
 rw [List.all_eq_true] at h
 conv => rhs; rw [← List.map_id r]
 exact List.map_congr_left fun c hc => closedCell_resC _ _ _ (h c hc)
theorem rows_resC_closed (o : Nat → Obj) (ex : List Nat) (d : Nat) {rows : List (List C)} (h : ∀ r ∈ rows, r.all closedCell = true) : rows.map (List.map (resC o ex d)) = rows := by
 conv => rhs; rw [← List.map_id rows]
 exact List.map_congr_left fun r hr => map_resC_closed _ _ _ (h r hr)
def closedArg : C → Bool
 | .agg cs => cs.all closedCell
 | .fn _ caps => caps.isEmpty
 | c => closedCell c
theorem closed_callIds : ∀ {vs : List C}, vs.all closedArg = true → callIds vs = [] ∧ vs.flatMap topRefs = [] := by
 intro vs h
 rw [List.all_eq_true] at h
 have h1 : vs.flatMap ptrIds = [] := by
  rw [List.flatMap_eq_nil_iff]
  intro v hv
  have := h v hv
  cases v <;> simp [closedArg, closedCell] at this <;> first | rfl | (subst this; rfl)
 have h2 : vs.flatMap topRefs = [] := by
  rw [List.flatMap_eq_nil_iff]
  intro v hv
  have := h v hv
  cases v <;> simp [closedArg, closedCell] at this <;> first | rfl | skip
  rename_i cs
  simp only [topRefs]
  rw [List.flatMap_eq_nil_iff]
  intro c hc
  have := this c hc
  cases c <;> simp [closedCell] at this <;> rfl
 exact ⟨by unfold callIds; rw [h1]; rfl, h2⟩
theorem closed_argC (o : Nat → Obj) (ids ex : List Nat) {v : C} (h : closedArg v = true) : argC o ids ex v = v := by
 cases v <;> simp [closedArg, closedCell] at h <;> simp only [argC] <;> first
  | exact closedCell_resC _ _ _ rfl
  | (subst h; rfl)
  | (congr 1
     exact (List.map_congr_left fun c hc => closedCell_resC _ _ _ (h c hc)).trans (List.map_id _))
theorem callT_plain (hA : IsBx true rg P G A) {g : FuncId} {vs : List C} {res : C} {K : C → List (Nat × EObj) → Prop} {sh : Bool} (hok : FnOK P G g vs [] res [] sh) (hc : vs.all closedArg = true)
  (hK : K (impV (toO o) own res) (impUpsE o own res)) : A.call own o g vs K := by
 obtain ⟨h1, h2⟩ := closed_callIds hc
 rw [hA.call]
 unfold callB
 refine .inl ⟨false, vs, [], res, [], sh, impUpsE o own res, ?_, hK⟩
 refine ⟨?_, by rw [h1]; rfl, hok, (fun h => by cases h), (fun h => by cases h), fun _ _ => h1, (fun h => by cases h), fun _ => ?_, ?_⟩
 ·conv => rhs; rw [← List.map_id vs]
  rw [List.all_eq_true] at hc
  exact List.map_congr_left fun v hv => closed_argC _ _ _ (hc v hv)
 ·rw [h1, h2]; exact ⟨(fun i hi => by cases hi), (fun i hi => by cases hi)⟩
 ·rw [h2]; cases sh <;> simp [freezeE]
def closeCell (o : Nat → EObj) (c : C) (K : C → Prop) : Prop :=
 match c with
 | .nils => K (.sl [])
 | .ref id g _ base len => if (o id).gen = g then
   match (o id).dat with
   | .many rows => (Side → base + len ≤ rows.length) ∧ (Side → ∀ r ∈ rows, r.all closedCell = true) ∧ ∀ ys, ys = (rows.drop base).take len → K (.sl ys)
   | .one _ => False
  else False
 | c => if closedCell c = true then K c else False
def closeCells (o : Nat → EObj) : List C → (List C → Prop) → Prop
 | [], K => K []
 | c :: r, K => closeCell o c fun c' => closeCells o r fun r' => K (c' :: r')
def closePtr (o : Nat → EObj) (ids : List Nat) (c : C) (K : C → Prop) : Prop :=
 match c with
 | .ptr id g es row off => if (o id).gen = g ∧ ids.contains id = true then K (.ptr (ids.idxOf id) 0 es row off) else False
 | _ => False
def closePtrs (o : Nat → EObj) (ids : List Nat) : List C → (List C → Prop) → Prop
 | [], K => K []
 | c :: r, K => closePtr o ids c fun c' => closePtrs o ids r fun r' => K (c' :: r')
def closeV (o : Nat → EObj) (ids : List Nat) (v : C) (K : C → Prop) : Prop :=
 match v with
 | .agg cs => closeCells o cs fun cs' => K (.agg cs')
 | .fn g caps => closePtrs o ids caps fun caps' => K (.fn g caps')
 | .ptr id g es row off => closePtr o ids (.ptr id g es row off) K
 | c => closeCell o c K
def closeVs (o : Nat → EObj) (ids : List Nat) : List C → (List C → Prop) → Prop
 | [], K => K []
 | c :: r, K => closeV o ids c fun c' => closeVs o ids r fun r' => K (c' :: r')
def closeX (o : Nat → EObj) : List Nat → (List EObj → Prop) → Prop
 | [], K => K []
 | i :: r, K => match (o i).dat with
  | .one c => if c.all closedCell = true then closeX o r fun l => K (⟨0, false, (o i).es, .one c⟩ :: l) else False
  | .many _ => False
theorem closeCell_sound {c : C} {K : C → Prop} (h : closeCell o c K) : ∃ c', resC (toO o) [] resD c = c' ∧ K c' := by
 unfold closeCell at h
 split at h
 ·exact ⟨_, rfl, h⟩
 ·rename_i id g es base len
  split at h
  ·rename_i e
   split at h
   ·rename_i rows hd
    obtain ⟨h1, h2, h⟩ := h
    have h1 := h1 trivial
    have h2 := h2 trivial
    have hr := toO_rows hd
    refine ⟨_, ?_, h _ rfl⟩
    show resC (toO o) [] 3 (.ref id g es base len) = _
    simp only [resC]
    rw [if_pos ⟨toO_at e, by rw [hr]; exact h1, by simp⟩, hr]
    rw [rows_resC_closed]
    intro r hr
    exact h2 r (List.mem_of_mem_drop (List.mem_of_mem_take hr))
   ·exact h.elim
  ·exact h.elim
 ·split at h
  ·rename_i e; exact ⟨_, closedCell_resC _ _ _ e, h⟩
  ·exact h.elim
theorem closeCells_sound : ∀ {l : List C} {K : List C → Prop}, closeCells o l K → ∃ l', l.map (resC (toO o) [] resD) = l' ∧ K l'
 | [], K, h => ⟨[], rfl, h⟩
 | c :: r, K, h => by
  obtain ⟨c', h1, h⟩ := closeCell_sound h
  obtain ⟨r', h2, h⟩ := closeCells_sound h
  exact ⟨c' :: r', by rw [List.map_cons, h1, h2], h⟩
theorem closePtr_sound {ids : List Nat} {c : C} {K : C → Prop} (h : closePtr o ids c K) : ∃ c', ptrC (toO o) ids c = c' ∧ K c' := by
 unfold closePtr at h
 split at h
 ·split at h
  ·rename_i e
   refine ⟨_, ?_, h⟩
   simp only [ptrC]
   rw [if_pos ⟨toO_at e.1, by simpa using e.2⟩]
  ·exact h.elim
 ·exact h.elim
theorem closePtrs_sound {ids : List Nat} : ∀ {l : List C} {K : List C → Prop}, closePtrs o ids l K → ∃ l', l.map (ptrC (toO o) ids) = l' ∧ K l'
 | [], K, h => ⟨[], rfl, h⟩
 | c :: r, K, h => by
  obtain ⟨c', h1, h⟩ := closePtr_sound h
  obtain ⟨r', h2, h⟩ := closePtrs_sound h
  exact ⟨c' :: r', by rw [List.map_cons, h1, h2], h⟩
theorem closeV_sound {ids : List Nat} {c : C} {K : C → Prop} (h : closeV o ids c K) : ∃ c', argC (toO o) ids [] c = c' ∧ K c' := by
 unfold closeV at h
 split at h
 ·obtain ⟨l, h1, h⟩ := closeCells_sound h
  exact ⟨_, by simp only [argC, h1], h⟩
 ·obtain ⟨l, h1, h⟩ := closePtrs_sound h
  exact ⟨_, by simp only [argC, h1], h⟩
 ·obtain ⟨l, h1, h⟩ := closePtr_sound h
  exact ⟨_, by simp only [argC, h1], h⟩
 ·rename_i n1 n2 n3
  obtain ⟨c', h1, h⟩ := closeCell_sound h
  refine ⟨c', ?_, h⟩
  unfold argC
  split
  ·exact absurd rfl (n3 _ _ _ _ _)
  ·exact absurd rfl (n2 _ _)
  ·exact absurd rfl (n1 _)
  ·exact h1
theorem closeVs_sound {ids : List Nat} : ∀ {l : List C} {K : List C → Prop}, closeVs o ids l K → ∃ l', l.map (argC (toO o) ids []) = l' ∧ K l'
 | [], K, h => ⟨[], rfl, h⟩
 | c :: r, K, h => by
  obtain ⟨c', h1, h⟩ := closeV_sound h
  obtain ⟨r', h2, h⟩ := closeVs_sound h
  exact ⟨c' :: r', by rw [List.map_cons, h1, h2], h⟩
theorem closeX_sound : ∀ {l : List Nat} {K : List EObj → Prop}, closeX o l K → ∃ l', l.map (extOf (toO o) [] false) = l'.map EObj.toObj ∧ (∀ i ∈ l, ∀ r ∈ (o i).dat.rows, r.all closedCell = true) ∧ K l'
 | [], K, h => ⟨[], rfl, (fun i hi => by cases hi), h⟩
 | i :: r, K, h => by
  unfold closeX at h
  split at h
  ·rename_i c hd
   split at h
   ·rename_i e
    obtain ⟨l', h1, h2, h⟩ := closeX_sound h
    refine ⟨_, ?_, ?_, h⟩
    ·rw [List.map_cons, List.map_cons, h1]
     congr 1
     simp only [extOf, toO_one hd, EObj.toObj, ED.rows, List.map_cons, List.map_nil, map_resC_closed _ _ _ e]
     simp [toO, EObj.toObj]
    ·intro j hj r' hr'
     rcases List.mem_cons.1 hj with rfl | hj
     ·rw [hd] at hr'; simp [ED.rows] at hr'; subst hr'; exact e
     ·exact h2 j hj r' hr'
   ·exact h.elim
  ·exact h.elim
def callR (P : Program) (G : Glob) (own : Nat) (o : Nat → EObj) (g : FuncId) (bs : List C) (ext : List EObj) (K : C → List (Nat × EObj) → Prop) : Prop :=
 ∃ res, FnOK P G g bs (ext.map EObj.toObj) res (ext.map EObj.toObj) false ∧ K (impV (toO o) own res) (impUpsE o own res)
def callS (P : Program) (G : Glob) (own : Nat) (o : Nat → EObj) (g : FuncId) (bs : List C) (tops : List Nat) (K : C → List (Nat × EObj) → Prop) : Prop :=
 ∃ res, FnOK P G g bs [] res [] true ∧ (∀ i ∈ tops, ∀ r ∈ (o i).dat.rows, r.all closedCell = true) ∧ K (impV (toO o) own res) (freezeE o tops ++ impUpsE o own res)
theorem callT_cl (hA : IsBx true rg P G A) {g : FuncId} {vs : List C} {K : C → List (Nat × EObj) → Prop} (h : ∀ R, R = callR P G own o g → closeVs o (callIds vs) vs fun bs => closeX o (callIds vs) fun ext => R bs ext K) : A.call own o g vs K := by
 rw [hA.call]
 have h := h _ rfl
 obtain ⟨bs, h1, h⟩ := closeVs_sound h
 obtain ⟨ext, h2, h3, h⟩ := closeX_sound h
 unfold callR at h
 obtain ⟨res, hok, hK⟩ := h
 unfold callB
 refine .inl ⟨false, bs, ext.map EObj.toObj, res, ext.map EObj.toObj, false, impUpsE o own res, ?_, hK⟩
 exact ⟨h1, h2, hok, fun h => (by cases h), fun h => (by cases h), fun h => (by cases h), fun h => (by cases h), fun h => (by cases h), (by simp)⟩
theorem callT_sh (hA : IsBx true rg P G A) {g : FuncId} {vs : List C} {K : C → List (Nat × EObj) → Prop} (hids : callIds vs = []) (h : ∀ R, R = callS P G own o g → closeVs o [] vs fun bs => R bs (vs.flatMap topRefs) K) : A.call own o g vs K := by
 rw [hA.call]
 have h := h _ rfl
 obtain ⟨bs, h1, h⟩ := closeVs_sound h
 unfold callS at h
 obtain ⟨res, hok, hfr, hK⟩ := h
 unfold callB
 refine .inl ⟨false, bs, [], res, [], true, freezeE o (vs.flatMap topRefs) ++ impUpsE o own res, ?_, hK⟩
 refine ⟨by rw [hids]; exact h1, by rw [hids]; rfl, hok, fun h => (by cases h), fun h => (by cases h), fun _ _ => hids, fun h => (by cases h), fun _ => ?_, (by simp)⟩
 rw [hids]
 exact ⟨fun i hi => ⟨by simp, hfr i hi⟩, fun i hi => by cases hi⟩
theorem callR_of {R : List C → List EObj → (C → List (Nat × EObj) → Prop) → Prop} {g : FuncId} (hR : R = callR P G own o g) {bs : List C} {ext : List EObj} {res : C} {K : C → List (Nat × EObj) → Prop} (hok : FnOK P G g bs (ext.map EObj.toObj) res (ext.map EObj.toObj) false) (hK : K (impV (toO o) own res) (impUpsE o own res)) : R bs ext K := by
 rw [hR]; unfold callR; exact ⟨res, hok, hK⟩
theorem callS_of {R : List C → List Nat → (C → List (Nat × EObj) → Prop) → Prop} {g : FuncId} (hR : R = callS P G own o g) {bs : List C} {tops : List Nat} {res : C} {K : C → List (Nat × EObj) → Prop} (hok : FnOK P G g bs [] res [] true) (hfr : ∀ i ∈ tops, ∀ r ∈ (o i).dat.rows, r.all closedCell = true) (hK : K (impV (toO o) own res) (freezeE o tops ++ impUpsE o own res)) : R bs tops K := by
 rw [hR]; unfold callS; exact ⟨res, hok, hfr, hK⟩
/- Results. -/
def noRefC : C → Bool
 | .ref .. | .ptr .. | .fn .. | .ip .. | .fr .. | .frp .. | .agg _ | .tup _ => false
 | _ => true
def noRefA : C → Bool
 | .agg cs => cs.all noRefC
 | c => noRefC c
def noRefV : C → Bool
 | .tup vs => vs.all noRefA
 | c => noRefA c
theorem noRef_expC (o : Nat → Obj) (ex : List Nat) {c : C} (h : noRefC c = true) : expC o ex c = c ∧ idOf c = none := by
 cases c <;> simp [noRefC] at h <;> simp only [expC, idOf, and_true] <;> first | rfl | exact closedCell_resC _ _ _ rfl
theorem noRef_atom (o : Nat → Obj) (ex : List Nat) {c : C} (hn : ∀ cs, c ≠ .agg cs) (h : noRefC c = true) : expA o ex c = c ∧ ∀ x ∈ c.cells, idOf x = none := by
 have := noRef_expC o ex h
 cases c <;> first | exact absurd rfl (hn _) | exact ⟨this.1, fun x hx => by simp [C.cells] at hx; subst hx; exact this.2⟩
theorem noRef_expA (o : Nat → Obj) (ex : List Nat) {c : C} (h : noRefA c = true) : expA o ex c = c ∧ ∀ x ∈ c.cells, idOf x = none := by
 by_cases hn : ∃ cs, c = .agg cs
 rotate_left
 ·have hn : ∀ cs, c ≠ .agg cs := fun cs e => hn ⟨cs, e⟩
  refine noRef_atom o ex hn ?_
  cases c <;> first | exact absurd rfl (hn _) | exact h
 ·obtain ⟨cs, rfl⟩ := hn
  simp only [noRefA, List.all_eq_true] at h
  refine ⟨?_, fun x hx => (noRef_expC o ex (h x hx)).2⟩
  simp only [expA]
  congr 1
  exact (List.map_congr_left fun c hc => (noRef_expC o ex (h c hc)).1).trans (List.map_id _)
theorem noRef_expV (o : Nat → Obj) (ex : List Nat) {c : C} (h : noRefV c = true) : expV o ex c = c ∧ expIds c = [] := by
 by_cases hn : ∃ vs, c = .tup vs
 rotate_left
 ·have hn : ∀ vs, c ≠ .tup vs := fun vs e => hn ⟨vs, e⟩
  have hA : noRefA c = true := by cases c <;> first | exact absurd rfl (hn _) | exact h
  have := noRef_expA o ex hA
  have h1 : posCells c = c.cells.zipIdx.map fun (x : C × Nat) => (x.2, x.1) := posCells_nt hn
  refine ⟨?_, ?_⟩
  ·have e : expV o ex c = expA o ex c := by cases c <;> first | exact absurd rfl (hn _) | rfl
   rw [e]; exact this.1
  ·unfold expIds
   rw [h1, List.filterMap_eq_nil_iff]
   intro x hx
   simp only [List.mem_map] at hx
   obtain ⟨⟨z, j⟩, hz, rfl⟩ := hx
   exact this.2 z (List.mem_of_getElem? (mem_zipIdx_lt hz))
 ·obtain ⟨vs, rfl⟩ := hn
  simp only [noRefV, List.all_eq_true] at h
  refine ⟨?_, ?_⟩
  ·simp only [expV]
   congr 1
   exact (List.map_congr_left fun c hc => (noRef_expA o ex (h c hc)).1).trans (List.map_id _)
  ·unfold expIds posCells
   rw [List.filterMap_eq_nil_iff]
   intro x hx
   simp only [List.mem_flatMap, List.mem_map] at hx
   obtain ⟨⟨u, i⟩, hu, ⟨z, j⟩, hz, rfl⟩ := hx
   exact (noRef_expA o ex (h u (List.mem_of_getElem? (mem_zipIdx_lt hu)))).2 z (List.mem_of_getElem? (mem_zipIdx_lt hz))
theorem fin_plain {F : (Nat → EObj) → C → Prop} {tops sh : Bool} {r v : C} (hF : F = finB tops r sh) (h : r = v) (hn : noRefV v = true) (hs : shapeV v = true) (hp : plainV v = true) : F o v := by
 rw [hF]
 unfold finB
 obtain ⟨h1, h2⟩ := noRef_expV (toO o) (if tops then expIds v else []) hn
 exact ⟨hs, by rw [h2]; exact .nil, by rw [h1, h], fun _ => by rw [h]; exact hp⟩
theorem fin_raw {F : (Nat → EObj) → C → Prop} {tops sh : Bool} {r v : C} (hF : F = finB tops r sh) (hs : shapeV v = true) (hn : (expIds v).Nodup) (h : expV (toO o) (if tops then expIds v else []) v = r) (hp : sh = false → plainV r = true) : F o v := by
 rw [hF]; unfold finB; exact ⟨hs, hn, h, hp⟩
def expCF (o : Nat → EObj) (c : C) (K : C → Prop) : Prop :=
 match c with
 | .ref id g es base len => if (o id).gen = g ∧ (o id).rw = true then
   match (o id).dat with
   | .many rows => (Side → base = 0 ∧ len = rows.length) ∧ (Side → ∀ r ∈ rows, r.all closedCell = true) ∧ ∀ ys, ys = rows → K (.fr es ys)
   | .one _ => False
  else False
 | .ptr id g es row off => if (o id).gen = g ∧ (o id).rw = true ∧ row = 0 ∧ off = 0 then
   match (o id).dat with
   | .one r => if r.all closedCell = true then K (.frp r) else False
   | .many _ => False
  else False
 | c => if noRefC c = true then K c else False
def expLF (o : Nat → EObj) : List C → (List C → Prop) → Prop
 | [], K => K []
 | c :: r, K => expCF o c fun c' => expLF o r fun r' => K (c' :: r')
def expAF (o : Nat → EObj) (c : C) (K : C → Prop) : Prop :=
 match c with
 | .agg cs => expLF o cs fun cs' => K (.agg cs')
 | c => expCF o c K
def expMF (o : Nat → EObj) : List C → (List C → Prop) → Prop
 | [], K => K []
 | c :: r, K => expAF o c fun c' => expMF o r fun r' => K (c' :: r')
def expVF (o : Nat → EObj) (c : C) (K : C → Prop) : Prop :=
 match c with
 | .tup vs => expMF o vs fun vs' => K (.tup vs')
 | c => expAF o c K
theorem expCF_sound {c : C} {K : C → Prop} {ex : List Nat} (hx : ∀ i, idOf c = some i → i ∈ ex) (h : expCF o c K) : K (expC (toO o) ex c) := by
 unfold expCF at h
 split at h
 ·rename_i id g es base len
  split at h
  ·rename_i e
   split at h
   ·rename_i rows hd
    obtain ⟨h12, h3, h⟩ := h
    obtain ⟨h1, h2⟩ := h12 trivial
    have h3 := h3 trivial
    have hr := toO_rows hd
    simp only [expC]
    rw [if_pos ⟨hx id rfl, toO_at e.1, e.2, h1, by rw [hr]; exact h2⟩, hr, rows_resC_closed _ _ _ h3]
    exact h _ rfl
   ·exact h.elim
  ·exact h.elim
 ·rename_i id g es row off
  split at h
  ·rename_i e
   split at h
   ·rename_i r hd
    split at h
    ·rename_i hc
     have hr := toO_one hd
     simp only [expC]
     rw [if_pos ⟨hx id rfl, toO_at e.1, e.2.1, by rw [hr]; rfl, e.2.2.1, e.2.2.2⟩, hr]
     simp only [List.getD_cons_zero]
     rw [map_resC_closed _ _ _ hc]
     exact h
    ·exact h.elim
   ·exact h.elim
  ·exact h.elim
 ·split at h
  ·rename_i e; rw [(noRef_expC (toO o) ex e).1]; exact h
  ·exact h.elim
theorem expLF_sound {ex : List Nat} : ∀ {l : List C} {K : List C → Prop}, (∀ c ∈ l, ∀ i, idOf c = some i → i ∈ ex) → expLF o l K → K (l.map (expC (toO o) ex))
 | [], K, _, h => h
 | c :: r, K, hx, h => by
  have h := expCF_sound (hx c (by simp)) h
  exact expLF_sound (K := fun r' => K (expC (toO o) ex c :: r')) (fun d hd => hx d (by simp [hd])) h
theorem expAF_sound {ex : List Nat} {c : C} {K : C → Prop} (hx : ∀ d ∈ c.cells, ∀ i, idOf d = some i → i ∈ ex) (h : expAF o c K) : K (expA (toO o) ex c) := by
 by_cases hn : ∃ cs, c = .agg cs
 ·obtain ⟨cs, rfl⟩ := hn
  exact expLF_sound (K := fun cs' => K (.agg cs')) hx h
 ·have hn : ∀ cs, c ≠ .agg cs := fun cs e => hn ⟨cs, e⟩
  have e1 : expAF o c K = expCF o c K := by cases c <;> first | exact absurd rfl (hn _) | rfl
  have e2 : expA (toO o) ex c = expC (toO o) ex c := by cases c <;> first | exact absurd rfl (hn _) | rfl
  rw [e1] at h
  rw [e2]
  exact expCF_sound (hx c (by rw [cells1 hn]; simp)) h
theorem expMF_sound {ex : List Nat} : ∀ {l : List C} {K : List C → Prop}, (∀ c ∈ l, ∀ d ∈ c.cells, ∀ i, idOf d = some i → i ∈ ex) → expMF o l K → K (l.map (expA (toO o) ex))
 | [], K, _, h => h
 | c :: r, K, hx, h => by
  have h := expAF_sound (hx c (by simp)) h
  exact expMF_sound (K := fun r' => K (expA (toO o) ex c :: r')) (fun d hd => hx d (by simp [hd])) h
theorem expVF_sound {v : C} {K : C → Prop} (h : expVF o v K) : K (expV (toO o) (expIds v) v) := by
 have hmem : ∀ x ∈ posCells v, ∀ i, idOf x.2 = some i → i ∈ expIds v := fun x hx i hi => List.mem_filterMap.2 ⟨x, hx, hi⟩
 have hz : ∀ {α : Type} {l : List α} {a : α}, a ∈ l → ∃ i, (a, i) ∈ l.zipIdx := by
  intro α l a ha
  obtain ⟨i, hi, rfl⟩ := List.getElem_of_mem ha
  exact ⟨i, List.mem_zipIdx_iff_getElem?.2 (by simp [hi])⟩
 by_cases hn : ∃ vs, v = .tup vs
 ·obtain ⟨vs, rfl⟩ := hn
  refine expMF_sound (K := fun vs' => K (.tup vs')) (fun c hc d hd i hi => ?_) h
  obtain ⟨k, hk⟩ := hz hc
  obtain ⟨j, hj⟩ := hz hd
  exact hmem (8 * k + j, d) (by simp only [posCells, List.mem_flatMap, List.mem_map]; exact ⟨(c, k), hk, (d, j), hj, rfl⟩) i hi
 ·have hn : ∀ vs, v ≠ .tup vs := fun vs e => hn ⟨vs, e⟩
  have e1 : expVF o v K = expAF o v K := by cases v <;> first | exact absurd rfl (hn _) | rfl
  have e2 : expV (toO o) (expIds v) v = expA (toO o) (expIds v) v := by cases v <;> first | exact absurd rfl (hn _) | rfl
  rw [e1] at h
  rw [e2]
  refine expAF_sound (fun d hd i hi => ?_) h
  obtain ⟨j, hj⟩ := hz hd
  exact hmem (j, d) (by rw [posCells_nt hn]; exact List.mem_map.2 ⟨(d, j), hj, rfl⟩) i hi
theorem fin_ref {F : (Nat → EObj) → C → Prop} {sh : Bool} {r v : C} (hF : F = finB true r sh) (hs : shapeV v = true) (hn : (expIds v).Nodup) (h : expVF o v fun v' => r = v' ∧ (sh = false → plainV v' = true)) : F o v := by
 obtain ⟨h1, h2⟩ := expVF_sound h
 refine fin_raw hF hs hn h1.symm fun hf => ?_
 rw [h1]; exact h2 hf
end
end Go.Proofs.YtchpopejojghmaaGreatDoor.M
/- The rules in the evaluator's words: loops, joints; tables of types. -/
namespace Go.Proofs.YtchpopejojghmaaGreatDoor.M
open Go
def tyG : List (Nat × TyI) → Nat → TyI
 | [], _ => noTy
 | (k, v) :: r, n => if n = k then v else tyG r n
def tyOK (f : Nat → TyI) : List (Nat × TyI) → Prop
 | [] => True
 | (k, v) :: r => f k = v ∧ tyOK f r
theorem tyG_sub {f : Nat → TyI} : ∀ {t : List (Nat × TyI)}, tyOK f t → ∀ n, tyG t n = noTy ∨ f n = tyG t n
 | [], _, n => .inl rfl
 | (k, v) :: r, ⟨h1, h2⟩, n => by
  unfold tyG
  split
  ·rename_i e; subst e; exact .inr h1
  ·exact tyG_sub h2 n
theorem kindsOf_none {P : Program} : ∀ (fs : List Field) (i : Nat), (∃ f ∈ fs, kdOf P f.type = none) → kindsOf P i fs = none
 | [], _, ⟨f, h, _⟩ => by cases h
 | f :: fs, i, ⟨g, hg, hk⟩ => by
  unfold kindsOf
  split
  ·rcases List.mem_cons.1 hg with rfl | hg
   ·rw [hk]
   ·rw [kindsOf_none fs (i + 1) ⟨g, hg, hk⟩]
    split
    ·rename_i h; cases h
    ·rfl
  ·rfl
theorem eqKinds_none {P : Program} {T : Nat} {fs : Array Field} (h : ∃ f ∈ fs.toList, kdOf P f.type = none) : eqKinds P T fs = [] := by
 unfold eqKinds
 rw [kindsOf_none _ _ h]
 split <;> rfl
theorem kd_slice {P : Program} {T e : Nat} (h : P.underlying T = some (.slice e)) : kdOf P T = none := by unfold kdOf; rw [h]
def blankE : EObj := ⟨0, true, 0, .many []⟩
def updL {α : Type} (f : Nat → α) : List (Nat × α) → Nat → α
 | [] => f
 | (i, v) :: r => upd (updL f r) i v
def pinS (ps : List (Nat × C)) (os : List (Nat × EObj)) : ESt := ⟨updL (fun _ => .undef) ps, updL (fun _ => blankE) os⟩
def pinC (o : Nat → EObj) (ks : List Nat) (ns : List (Nat × Nat)) (c c' : C) : Prop :=
 match c with
 | .nils => match c' with
  | .nils => True
  | .ref id g es base len => if ns.lookup id = some es ∧ ks.contains id = true ∧ g = 0 then base = 0 ∧ len = 0 else False
  | _ => False
 | .ref id g es base len => if (o id).gen = g ∧ ks.contains id = true ∧ ns.lookup id = none then match c' with
   | .ref id' g' es' base' len' => if id' = id ∧ g' = 0 ∧ es' = es then base = base' ∧ len = len' else False
   | _ => False
  else False
 | .ptr id g es row off => if (o id).gen = g ∧ ks.contains id = true ∧ ns.lookup id = none then match c' with
   | .ptr id' g' es' row' off' => if id' = id ∧ g' = 0 ∧ es' = es then row = row' ∧ off = off' else False
   | _ => False
  else False
 | .int k n => match c' with
  | .int k' n' => k = k' ∧ n = n'
  | _ => False
 | .bool b => match c' with
  | .bool b' => b = b'
  | _ => False
 | .str ⟨⟨a⟩⟩ => match c' with
  | .str ⟨⟨a'⟩⟩ => a = a'
  | _ => False
 | .sl a => match c' with
  | .sl a' => a = a'
  | _ => False
 | .nilp => match c' with
  | .nilp => True
  | _ => False
 | .ip a off => match c' with
  | .ip a' off' => a = a' ∧ off = off'
  | _ => False
 | _ => False
def pinCs (o : Nat → EObj) (ks : List Nat) (ns : List (Nat × Nat)) : List C → List C → Prop
 | [], [] => True
 | c :: l, c' :: l' => pinC o ks ns c c' ∧ pinCs o ks ns l l'
 | _, _ => False
def isPtr : C → Bool
 | .ptr .. => true
 | _ => false
def pinV (o : Nat → EObj) (ks : List Nat) (ns : List (Nat × Nat)) (c c' : C) : Prop :=
 match c with
 | .agg cs => match c' with
  | .agg cs' => pinCs o ks ns cs cs'
  | _ => False
 | .fn g caps => match c' with
  | .fn g' caps' => if caps.all isPtr = true then g = g' ∧ pinCs o ks ns caps caps' else False
  | _ => False
 | c => pinC o ks ns c c'
def pinP (e : ESt) (ks : List Nat) (ns : List (Nat × Nat)) : List (Nat × C) → Prop
 | [] => True
 | (t, c) :: r => pinV e.o ks ns (e.s t) c ∧ pinP e ks ns r
def pinRows (o : Nat → EObj) (ks : List Nat) (ns : List (Nat × Nat)) (rows rows' : List (List C)) : Prop := rows'.length = rows.length ∧ ∀ (k : Nat) (r r' : List C), rows[k]? = some r → rows'[k]? = some r' → pinCs o ks ns r r'
def pinO (B : (Nat → EObj) → List (List C) → List (List C) → Prop) (o : Nat → EObj) (ks : List Nat) (ns : List (Nat × Nat)) : List (Nat × EObj) → Prop
 | [] => True
 | (i, x) :: r => (match ns.lookup i with
  | some es => if x.gen = 0 ∧ x.rw = true ∧ x.es = es then (match x.dat with | .many rows => rows = [] | .one _ => False) else False
  | none => if x.gen = 0 ∧ x.rw = (o i).rw ∧ x.es = (o i).es then (match (o i).dat with
   | .one c => match x.dat with
    | .one c' => pinCs o ks ns c c'
    | .many _ => False
   | .many rows => match x.dat with
    | .many rows' => B o rows rows'
    | .one _ => False) else False) ∧ pinO B o ks ns r
structure Pinned (e : ESt) (ns : List (Nat × Nat)) (ps : List (Nat × C)) (os : List (Nat × EObj)) : Prop where
 s : pinP e (os.map Prod.fst) ns ps
 o : ∀ B : (Nat → EObj) → List (List C) → List (List C) → Prop, (∀ o rows rows', pinRows o (os.map Prod.fst) ns rows rows' → B o rows rows') → pinO B e.o (os.map Prod.fst) ns os
theorem updL_get {α : Type} (f : Nat → α) (t : Nat) : ∀ (l : List (Nat × α)), (∃ v, (t, v) ∈ l ∧ updL f l t = v) ∨ (t ∉ l.map Prod.fst ∧ updL f l t = f t)
 | [] => .inr ⟨by simp, rfl⟩
 | (i, v) :: r => by
  by_cases e : t = i
  ·subst e; exact .inl ⟨v, by simp, upd_same _ _ _⟩
  ·rcases updL_get f t r with ⟨w, h1, h2⟩ | ⟨h1, h2⟩
   ·exact .inl ⟨w, by simp [h1], by rw [updL, upd_ne _ _ e]; exact h2⟩
   ·exact .inr ⟨by simp only [List.map_cons, List.mem_cons, not_or]; exact ⟨e, h1⟩, by rw [updL, upd_ne _ _ e]; exact h2⟩
section
variable {P : Program} {G : Glob} {fx : Bool} {rg : Option Nat} {e : ESt} {ns : List (Nat × Nat)} {ps : List (Nat × C)} {os : List (Nat × EObj)}
def keptO (o : Nat → EObj) (ks : List Nat) : Nat → Obj := fun i => if ks.contains i = true then toO o i else ⟨(o i).gen + 1, true, 0, []⟩
def midC (o : Nat → EObj) (c c' : C) : C :=
 match c, c' with
 | .nils, .ref id _ es _ _ => .ref id ((o id).gen + 1) es 0 0
 | c, _ => c
def midV (o : Nat → EObj) (c c' : C) : C :=
 match c, c' with
 | .agg cs, .agg cs' => .agg (List.zipWith (midC o) cs cs')
 | c, c' => midC o c c'
def nsF (ks : List Nat) (ns : List (Nat × Nat)) (i : Nat) : Option Nat := if ks.contains i = true then ns.lookup i else none
theorem pinCs_iff {o : Nat → EObj} {ks : List Nat} : ∀ {cs cs' : List C}, pinCs o ks ns cs cs' ↔ cs'.length = cs.length ∧ ∀ (j : Nat) (c c' : C), cs[j]? = some c → cs'[j]? = some c' → pinC o ks ns c c'
 | [], [] => by simp [pinCs]
 | [], c' :: l' => by simp [pinCs]
 | c :: l, [] => by simp [pinCs]
 | c :: l, c' :: l' => by
  simp only [pinCs, pinCs_iff, List.length_cons, Nat.add_right_cancel_iff]
  constructor
  ·rintro ⟨h1, h2, h3⟩
   refine ⟨h2, fun j d d' hd hd' => ?_⟩
   cases j with
   | zero => simp at hd hd'; subst hd; subst hd'; exact h1
   | succ j => exact h3 j d d' (by simpa using hd) (by simpa using hd')
  ·rintro ⟨h2, h3⟩
   exact ⟨h3 0 c c' rfl rfl, h2, fun j d d' hd hd' => h3 (j + 1) d d' (by simpa using hd) (by simpa using hd')⟩
theorem pinC_mid {o : Nat → EObj} {ks : List Nat} {o2 : Nat → Obj} (h2 : ∀ i, ks.contains i = true → (o2 i).gen = (o i).gen + (if (ns.lookup i).isSome then 1 else 0)) {c c' : C} (h : pinC o ks ns c c') :
  nrC (keptO o ks) (nsF ks ns) c (midC o c c') ∧ rgC o2 (midC o c c') = c' := by
 have hk : ∀ i, ks.contains i = true → keptO o ks i = toO o i := fun i hi => if_pos hi
 unfold pinC at h
 split at h
 ·split at h
  ·exact ⟨.inl rfl, rfl⟩
  ·rename_i id g es base len
   split at h
   ·rename_i e
    obtain ⟨e1, e2, rfl⟩ := e
    obtain ⟨rfl, rfl⟩ := h
    refine ⟨.inr ⟨rfl, id, es, ?_, ?_⟩, ?_⟩
    ·unfold nsF; rw [if_pos e2]; exact e1
    ·simp only [midC, hk id e2]; rfl
    ·simp only [midC, rgC]
     rw [if_pos (by rw [h2 id e2, e1]; rfl)]
   ·exact h.elim
  ·exact h.elim
 ·rename_i id g es base len
  split at h
  ·rename_i e
   split at h
   ·split at h
    ·rename_i e'
     obtain ⟨rfl, rfl, rfl⟩ := e'
     obtain ⟨rfl, rfl⟩ := h
     refine ⟨.inl rfl, ?_⟩
     simp only [midC, rgC]
     rw [if_pos (by rw [h2 _ e.2.1, e.2.2]; simp [e.1])]
    ·exact h.elim
   ·exact h.elim
  ·exact h.elim
 ·rename_i id g es row off
  split at h
  ·rename_i e
   split at h
   ·split at h
    ·rename_i e'
     obtain ⟨rfl, rfl, rfl⟩ := e'
     obtain ⟨rfl, rfl⟩ := h
     refine ⟨.inl rfl, ?_⟩
     simp only [midC, rgC]
     rw [if_pos (by rw [h2 _ e.2.1, e.2.2]; simp [e.1])]
    ·exact h.elim
   ·exact h.elim
  ·exact h.elim
 ·split at h
  ·obtain ⟨rfl, rfl⟩ := h; exact ⟨.inl rfl, rfl⟩
  ·exact h.elim
 ·split at h
  ·subst h; exact ⟨.inl rfl, rfl⟩
  ·exact h.elim
 ·split at h
  ·subst h; exact ⟨.inl rfl, rfl⟩
  ·exact h.elim
 ·split at h
  ·subst h; exact ⟨.inl rfl, rfl⟩
  ·exact h.elim
 ·split at h
  ·exact ⟨.inl rfl, rfl⟩
  ·exact h.elim
 ·split at h
  ·obtain ⟨rfl, rfl⟩ := h; exact ⟨.inl rfl, rfl⟩
  ·exact h.elim
 ·exact h.elim
theorem pinC_shape {o : Nat → EObj} {ks : List Nat} {c c' : C} (h : pinC o ks ns c c') : (∀ cs, c ≠ .agg cs) ∧ (∀ cs, c ≠ .tup cs) ∧ (∀ g caps, c ≠ .fn g caps) ∧ (isPtr c = true → ∀ o2, midC o2 c c' = c) := by
 unfold pinC at h
 split at h <;> first
  | exact h.elim
  | (refine ⟨by simp, by simp, by simp, fun hp o2 => ?_⟩
     first | rfl | (simp [isPtr] at hp))
theorem zip_mid {o : Nat → EObj} {ks : List Nat} {o2 : Nat → Obj} (h2 : ∀ i, ks.contains i = true → (o2 i).gen = (o i).gen + (if (ns.lookup i).isSome then 1 else 0)) {cs cs' : List C} (h : pinCs o ks ns cs cs') :
  (List.zipWith (midC o) cs cs').length = cs.length ∧ (∀ (j : Nat) (c d : C), cs[j]? = some c → (List.zipWith (midC o) cs cs')[j]? = some d → nrC (keptO o ks) (nsF ks ns) c d) ∧ (List.zipWith (midC o) cs cs').map (rgC o2) = cs' := by
 obtain ⟨hl, hc⟩ := pinCs_iff.1 h
 refine ⟨by simp [hl], fun j c d hj hd => ?_, ?_⟩
 ·rw [List.getElem?_zipWith] at hd
  rw [hj] at hd
  have hlt : j < cs'.length := by rw [hl]; exact (List.getElem?_eq_some_iff.1 hj).1
  rw [List.getElem?_eq_getElem hlt] at hd
  cases hd
  exact (pinC_mid h2 (hc j c _ hj (List.getElem?_eq_getElem hlt))).1
 ·apply List.ext_getElem?
  intro j
  rw [List.getElem?_map, List.getElem?_zipWith]
  by_cases hj : j < cs.length
  ·have hlt : j < cs'.length := by rw [hl]; exact hj
   rw [List.getElem?_eq_getElem hj, List.getElem?_eq_getElem hlt]
   exact congrArg some (pinC_mid h2 (hc j _ _ (List.getElem?_eq_getElem hj) (List.getElem?_eq_getElem hlt))).2
  ·have hlt : ¬ j < cs'.length := by rw [hl]; exact hj
   rw [List.getElem?_eq_none (Nat.le_of_not_lt hj), List.getElem?_eq_none (Nat.le_of_not_lt hlt)]
   rfl
theorem pinV_mid {o : Nat → EObj} {ks : List Nat} {o2 : Nat → Obj} (h2 : ∀ i, ks.contains i = true → (o2 i).gen = (o i).gen + (if (ns.lookup i).isSome then 1 else 0)) {c c' : C} (h : pinV o ks ns c c') :
  nrA (keptO o ks) (nsF ks ns) c (midV o c c') ∧ rgV o2 (midV o c c') = c' := by
 unfold pinV at h
 split at h
 ·rename_i cs
  split at h
  ·rename_i cs'
   obtain ⟨q1, q2, q3⟩ := zip_mid h2 h
   refine ⟨⟨q1, fun j c d hc hd => q2 j c d hc hd⟩, ?_⟩
   simp only [midV, rgV, rgA, q3]
  ·exact h.elim
 ·rename_i g caps
  split at h
  ·rename_i g' caps'
   split at h
   ·rename_i hp
    obtain ⟨rfl, h⟩ := h
    refine ⟨.inl rfl, ?_⟩
    obtain ⟨q1, q2, q3⟩ := zip_mid h2 h
    obtain ⟨hl, hc⟩ := pinCs_iff.1 h
    have hz : List.zipWith (midC o) caps caps' = caps := by
     apply List.ext_getElem?
     intro j
     rw [List.getElem?_zipWith]
     by_cases hj : j < caps.length
     ·have hlt : j < caps'.length := by rw [hl]; exact hj
      rw [List.getElem?_eq_getElem hj, List.getElem?_eq_getElem hlt]
      rw [List.all_eq_true] at hp
      exact congrArg some ((pinC_shape (hc j _ _ (List.getElem?_eq_getElem hj) (List.getElem?_eq_getElem hlt))).2.2.2 (hp _ (List.getElem_mem hj)) o)
     ·have hlt : ¬ j < caps'.length := by rw [hl]; exact hj
      rw [List.getElem?_eq_none (Nat.le_of_not_lt hj), List.getElem?_eq_none (Nat.le_of_not_lt hlt)]
    rw [hz] at q3
    simp only [midV, midC, rgV, rgA, rgF, q3]
   ·exact h.elim
  ·exact h.elim
 ·rename_i n1 n2
  obtain ⟨q1, q2⟩ := pinC_mid h2 h
  obtain ⟨s1, s2, s3, _⟩ := pinC_shape h
  have hm : midV o c c' = midC o c c' := by
   unfold midV
   split
   ·exact absurd rfl (s1 _)
   ·rfl
  rw [hm]
  have hmid : midC o c c' = c ∨ ∃ id g es b l, midC o c c' = .ref id g es b l := by
   unfold midC
   split
   ·exact .inr ⟨_, _, _, _, _, rfl⟩
   ·exact .inl rfl
  refine ⟨?_, ?_⟩
  ·unfold nrA
   split
   ·exact absurd rfl (s1 _)
   ·exact q1
  ·have hv : ∀ d : C, (∀ cs, d ≠ .tup cs) → (∀ cs, d ≠ .agg cs) → (∀ g caps, d ≠ .fn g caps) → rgV o2 d = rgC o2 d := by
    intro d a b c
    cases d <;> first | rfl | exact absurd rfl (a _) | exact absurd rfl (b _) | exact absurd rfl (c _ _)
   rw [hv, q2]
   all_goals
    intros
    rcases hmid with e | ⟨id, g, es, b, l, e⟩ <;> rw [e]
    first | exact s2 _ | exact s1 _ | exact s3 _ _ | (intro h; cases h)
    try (intro h; cases h)
theorem pin_wkN {n : Nat} (h : Pinned e ns ps os) (hN : ∀ i, i < n → (os.map Prod.fst).contains i = true ∧ (e.o i).gen = 0 ∧ ns.lookup i = none) : Wk (some n) e.toSt (pinS ps os).toSt := by
 classical
 obtain ⟨hs, ho⟩ := h
 have hsm : ∀ {l : List (Nat × C)}, pinP e (os.map Prod.fst) ns l → ∀ p ∈ l, pinV e.o (os.map Prod.fst) ns (e.s p.1) p.2 := by
  intro l
  induction l with
  | nil => intro _ p hp; cases hp
  | cons a l ih =>
   intro h p hp
   rcases List.mem_cons.1 hp with rfl | hp
   ·exact h.1
   ·exact ih h.2 p hp
 generalize hks : os.map Prod.fst = ks at *
 let one : Nat × EObj → Prop := fun q => match ns.lookup q.1 with
  | some es => if q.2.gen = 0 ∧ q.2.rw = true ∧ q.2.es = es then (match q.2.dat with | .many rows => rows = [] | .one _ => False) else False
  | none => if q.2.gen = 0 ∧ q.2.rw = (e.o q.1).rw ∧ q.2.es = (e.o q.1).es then (match (e.o q.1).dat with
   | .one c => match q.2.dat with
    | .one c' => pinCs e.o ks ns c c'
    | .many _ => False
   | .many rows => match q.2.dat with
    | .many rows' => pinRows e.o ks ns rows rows'
    | .one _ => False) else False
 have hom : ∀ {l : List (Nat × EObj)}, pinO (fun o rows rows' => pinRows o ks ns rows rows') e.o ks ns l → ∀ q ∈ l, one q := by
  intro l
  induction l with
  | nil => intro _ p hp; cases hp
  | cons a l ih =>
   intro h p hp
   rcases List.mem_cons.1 hp with rfl | hp
   ·exact h.1
   ·exact ih h.2 p hp
 have hS := hsm hs
 have hO := hom (ho _ fun _ _ _ h => h)
 let S : Nat → C := updL (fun _ => .undef) ps
 let X : Nat → EObj := updL (fun _ => blankE) os
 have hX : ∀ i, (ks.contains i = true ∧ one (i, X i)) ∨ (ks.contains i = false ∧ X i = blankE) := by
  intro i
  rcases updL_get (fun _ => blankE) i os with ⟨v, h1, h2⟩ | ⟨h1, h2⟩
  ·left
   refine ⟨?_, ?_⟩
   ·rw [List.contains_iff_mem, ← hks]; exact List.mem_map.2 ⟨_, h1, rfl⟩
   ·show one (i, updL (fun _ => blankE) os i)
    rw [h2]; exact hO _ h1
  ·right
   refine ⟨?_, h2⟩
   rw [← Bool.not_eq_true, List.contains_iff_mem, ← hks]; exact h1
 let s1 : Nat → C := fun t => if t ∈ ps.map Prod.fst then e.s t else .undef
 let o1 : Nat → Obj := keptO e.o ks
 let o2 : Nat → Obj := fun i => match nsF ks ns i with
  | some es => ⟨(o1 i).gen + 1, true, es, []⟩
  | none => { o1 i with rows := List.zipWith (List.zipWith (midC e.o)) (o1 i).rows (X i).dat.rows }
 let s2 : Nat → C := fun t => midV e.o (s1 t) (S t)
 have hk1 : ∀ i, ks.contains i = true → o1 i = toO e.o i := fun i hi => if_pos hi
 have hg2 : ∀ i, ks.contains i = true → (o2 i).gen = (e.o i).gen + (if (ns.lookup i).isSome then 1 else 0) := by
  intro i hi
  simp only [o2]
  have hn : nsF ks ns i = ns.lookup i := if_pos hi
  rw [hn]
  cases hl : ns.lookup i with
  | some es => simp only [hk1 i hi]; rfl
  | none => simp only [hk1 i hi]; rfl
 have hrows : ∀ i, nsF ks ns i = none → (List.zipWith (List.zipWith (midC e.o)) (o1 i).rows (X i).dat.rows).length = (o1 i).rows.length ∧
   (∀ (k : Nat) (r r' : List C), (o1 i).rows[k]? = some r → (List.zipWith (List.zipWith (midC e.o)) (o1 i).rows (X i).dat.rows)[k]? = some r' → r'.length = r.length ∧ ∀ (j : Nat) (c c' : C), r[j]? = some c → r'[j]? = some c' → nrC o1 (nsF ks ns) c c') ∧
   (List.zipWith (List.zipWith (midC e.o)) (o1 i).rows (X i).dat.rows).map (List.map (rgC o2)) = (X i).dat.rows := by
  intro i hn
  rcases hX i with ⟨hk, h⟩ | ⟨hk, h⟩
  ·have hl : ns.lookup i = none := by rw [← hn]; exact (if_pos hk).symm
   simp only [one] at h
   rw [hl] at h
   simp only at h
   split at h
   ·have key : pinRows e.o ks ns (e.o i).dat.rows (X i).dat.rows := by
     split at h
     ·rename_i r hd
      split at h
      ·rename_i r' hd'
       rw [hd, hd']
       refine ⟨rfl, fun k a b ha hb => ?_⟩
       cases k with
       | zero => simp [ED.rows] at ha hb; subst ha; subst hb; exact h
       | succ k => simp [ED.rows] at ha
      ·exact h.elim
     ·rename_i rows hd
      split at h
      ·rename_i rows' hd'
       rw [hd, hd']; exact h
      ·exact h.elim
    obtain ⟨hlen, hr⟩ := key
    have hr1 : (o1 i).rows = (e.o i).dat.rows := by rw [hk1 i hk]; rfl
    rw [hr1]
    refine ⟨by simp [hlen], fun k a b ha hb => ?_, ?_⟩
    ·rw [List.getElem?_zipWith, ha] at hb
     have hlt : k < (X i).dat.rows.length := by rw [hlen]; exact (List.getElem?_eq_some_iff.1 ha).1
     rw [List.getElem?_eq_getElem hlt] at hb
     cases hb
     obtain ⟨q1, q2, q3⟩ := zip_mid hg2 (hr k a _ ha (List.getElem?_eq_getElem hlt))
     exact ⟨q1, q2⟩
    ·apply List.ext_getElem?
     intro k
     rw [List.getElem?_map, List.getElem?_zipWith]
     by_cases hj : k < (e.o i).dat.rows.length
     ·have hlt : k < (X i).dat.rows.length := by rw [hlen]; exact hj
      rw [List.getElem?_eq_getElem hj, List.getElem?_eq_getElem hlt]
      exact congrArg some (zip_mid hg2 (hr k _ _ (List.getElem?_eq_getElem hj) (List.getElem?_eq_getElem hlt))).2.2
     ·have hlt : ¬ k < (X i).dat.rows.length := by rw [hlen]; exact hj
      rw [List.getElem?_eq_none (Nat.le_of_not_lt hj), List.getElem?_eq_none (Nat.le_of_not_lt hlt)]
      rfl
   ·exact h.elim
  ·have h1 : (o1 i).rows = [] := by
    have : o1 i = ⟨(e.o i).gen + 1, true, 0, []⟩ := if_neg (by rw [hk]; simp)
    rw [this]
   rw [h1, h]
   exact ⟨rfl, fun k r r' hr => by simp at hr, rfl⟩
 have hslot : ∀ t, nrA o1 (nsF ks ns) (s1 t) (s2 t) ∧ rgV o2 (s2 t) = S t := by
  intro t
  rcases updL_get (fun _ => C.undef) t ps with ⟨v, h1, h2⟩ | ⟨h1, h2⟩
  ·have e1 : s1 t = e.s t := if_pos (List.mem_map.2 ⟨_, h1, rfl⟩)
   have e2 : S t = v := h2
   simp only [s2]
   rw [e1, e2]
   exact pinV_mid hg2 (hS _ h1)
  ·have e1 : s1 t = .undef := if_neg h1
   have e2 : S t = .undef := h2
   simp only [s2]
   rw [e1, e2]
   exact ⟨.inl rfl, rfl⟩
 refine .cut (s' := s1) (o' := o1) (fun t => ?_) (fun i => ?_) (.nref (nsF ks ns) (s' := s2) (o' := o2) (fun t => (hslot t).1) (fun i es hi => ?_) (fun i hi => ?_) (.regen n rfl (fun id h => ?_) ?_))
 ·show (if t ∈ ps.map Prod.fst then e.s t else .undef) = e.s t ∨ _
  by_cases ht : t ∈ ps.map Prod.fst
  ·exact .inl (if_pos ht)
  ·exact .inr (if_neg ht)
 ·by_cases hk : ks.contains i = true
  ·exact .inl (if_pos hk)
  ·exact .inr (if_neg hk)
 ·simp only [o2, hi]
 ·obtain ⟨q1, q2, q3⟩ := hrows i hi
  have e2 : o2 i = { o1 i with rows := List.zipWith (List.zipWith (midC e.o)) (o1 i).rows (X i).dat.rows } := by simp only [o2, hi]
  rw [e2]
  exact ⟨rfl, rfl, rfl, q1, q2⟩
 ·obtain ⟨q1, q2, q3⟩ := hN id h
  have hk : ks.contains id = true := q1
  have hns : nsF ks ns id = none := by unfold nsF; rw [if_pos hk]; exact q3
  have e2 : o2 id = { o1 id with rows := List.zipWith (List.zipWith (midC e.o)) (o1 id).rows (X id).dat.rows } := by simp only [o2, hns]
  have e1 : o1 id = (e.o id).toObj := if_pos hk
  show (o2 id).gen = 0
  rw [e2]
  show (o1 id).gen = 0
  rw [e1]
  exact q2
 ·have : regen ⟨s2, o2⟩ = (pinS ps os).toSt := by
   unfold regen ESt.toSt pinS
   congr 1
   ·funext t; exact (hslot t).2
   ·funext i
    show (⟨0, (o2 i).rw, (o2 i).es, (o2 i).rows.map (List.map (rgC o2))⟩ : Obj) = (X i).toObj
    cases hn : nsF ks ns i with
    | some es =>
     have e2 : o2 i = ⟨(o1 i).gen + 1, true, es, []⟩ := by simp only [o2, hn]
     have hk : ks.contains i = true := by
      unfold nsF at hn
      split at hn
      ·assumption
      ·cases hn
     have hl : ns.lookup i = some es := by rw [← hn]; exact (if_pos hk).symm
     rcases hX i with ⟨_, h⟩ | ⟨hk', _⟩
     ·simp only [one, hl] at h
      split at h
      ·rename_i hx
       obtain ⟨x1, x2, x3⟩ := hx
       split at h
       ·rename_i rows hd
        subst h
        rw [e2]
        simp only [EObj.toObj, x1, x2, x3, hd, ED.rows, List.map_nil]
       ·exact h.elim
      ·exact h.elim
     ·rw [hk] at hk'; cases hk'
    | none =>
     obtain ⟨_, _, q3⟩ := hrows i hn
     have e2 : o2 i = { o1 i with rows := List.zipWith (List.zipWith (midC e.o)) (o1 i).rows (X i).dat.rows } := by simp only [o2, hn]
     rw [e2]
     simp only [q3]
     rcases hX i with ⟨hk, h⟩ | ⟨hk, h⟩
     ·have hl : ns.lookup i = none := by rw [← hn]; exact (if_pos hk).symm
      simp only [one, hl] at h
      split at h
      ·rename_i hx
       rw [hk1 i hk]
       simp only [toO, EObj.toObj, hx.1, hx.2.1, hx.2.2]
      ·exact h.elim
     ·rw [h]
      have : o1 i = ⟨(e.o i).gen + 1, true, 0, []⟩ := if_neg (by rw [hk]; simp)
      rw [this]; rfl
  rw [this]; exact .refl _
theorem side {p : Prop} (h : p) : Side → p := fun _ => h
theorem row {α : Type} {n : Int} {xs : List α} {f : α → List C} {K : List C → Prop} (h : ∀ (j : Nat) (p : α), j = n.toNat → xs[j]? = some p → K (f p)) : ∀ (j : Nat) (r : List C), j = n.toNat → (xs.map f)[j]? = some r → K r := by
 intro j r hj hr
 rw [List.getElem?_map, Option.map_eq_some_iff] at hr
 obtain ⟨p, hp, rfl⟩ := hr
 exact h j p hj hp
theorem pin_wk (h : Pinned e ns ps os) : Wk (some 0) e.toSt (pinS ps os).toSt := pin_wkN h fun i hi => (Nat.not_lt_zero _ hi).elim
theorem next {α : Type} {φ : α → Prop} {μ : α → Nat} {pins : α → List (Nat × C)} {objs : α → List (Nat × EObj)} {x : α} {e : ESt} (x' : α) (h1 : φ x') (h2 : μ x' < μ x) (h3 : Pinned e [] (pins x') (objs x')) : ∃ x', φ x' ∧ μ x' < μ x ∧ Wk (some 0) e.toSt (pinS (pins x') (objs x')).toSt := ⟨x', h1, h2, pin_wk h3⟩
theorem seq_pinsN {n : Nat} {A : Bx} (hA : IsBx fx (some n) P G A) {α : Type} {a b : (Ex → ESt → Prop) → ESt → Prop} {Q : Ex → ESt → Prop} {e : ESt} (pins : α → List (Nat × C)) (objs : α → List (Nat × EObj)) (φ : α → Prop)
  (ha : a (fun ex s' => match ex with | .nml => ∃ x, φ x ∧ Wk (some n) s'.toSt (pinS (pins x) (objs x)).toSt | ex => Q ex s') e) (hb : ∀ x, φ x → b Q (pinS (pins x) (objs x))) : A.seq a b Q e := by
 rw [hA.seq]
 unfold seqB
 exact ⟨α, fun x => pinS (pins x) (objs x), φ, ha, fun x hx _ => hb x hx⟩
end
end Go.Proofs.YtchpopejojghmaaGreatDoor.M
/- Calls by the kind of their result. -/
namespace Go.Proofs.YtchpopejojghmaaGreatDoor.M
open Go
section
variable {A : Bx} {P : Program} {G : Glob} {rg : Option Nat} {own : Nat} {o : Nat → EObj} {g : FuncId} {vs : List C} {sh : Bool} {K : C → List (Nat × EObj) → Prop}
variable {R : List C → List EObj → (C → List (Nat × EObj) → Prop) → Prop} {bs : List C} {ext : List EObj}
end
end Go.Proofs.YtchpopejojghmaaGreatDoor.M
/- Results whose nil slices are seen as empty ones; results that are closed as a whole. -/
namespace Go.Proofs.YtchpopejojghmaaGreatDoor.M
open Go
def softC : C → C
 | .nils => .sl []
 | c => c
def softA : C → C
 | .agg cs => .agg (cs.map softC)
 | c => softC c
def softV : C → C
 | .tup vs => .tup (vs.map softA)
 | c => softA c
theorem softC_na {c : C} (h : ∀ cs, c ≠ .agg cs) : softA c = softC c := by cases c <;> first | rfl | exact absurd rfl (h _)
theorem softA_nt {c : C} (h : ∀ vs, c ≠ .tup vs) : softV c = softA c := by cases c <;> first | rfl | exact absurd rfl (h _)
theorem softA_notup {c : C} (h : ∀ vs, c ≠ .tup vs) : ∀ vs, softA c ≠ .tup vs := by
 intro vs e
 cases c <;> simp [softA, softC] at e <;> exact absurd rfl (h _)
theorem okRes_soft {c : C} (h : okRes c) : okRes (softC c) := by
 cases c <;> simp only [softC] <;> first | exact h | rfl
theorem compOK_soft {c : C} (h : compOK c) : compOK (softA c) := by
 cases c <;> simp only [softA, softC] <;> first
  | exact h
  | exact (show okRes (.sl []) from rfl)
  | (simp only [compOK] at h ⊢
     refine ⟨by simpa using h.1, fun d hd => ?_⟩
     obtain ⟨x, hx, rfl⟩ := List.mem_map.1 hd
     exact okRes_soft (h.2 x hx))
theorem resShape_soft {c : C} (h : resShape c) : resShape (softV c) := by
 by_cases hn : ∃ vs, c = .tup vs
 ·obtain ⟨vs, rfl⟩ := hn
  intro v hv
  obtain ⟨x, hx, rfl⟩ := List.mem_map.1 hv
  exact compOK_soft (h x hx)
 ·have hn : ∀ vs, c ≠ .tup vs := fun vs e => hn ⟨vs, e⟩
  rw [softA_nt hn]
  have h1 : compOK c := by cases c <;> first | exact absurd rfl (hn _) | exact h
  have h2 := compOK_soft h1
  have h3 := softA_notup hn
  generalize softA c = d at h2 h3
  cases d <;> first | exact absurd rfl (h3 _) | exact h2
theorem cells_soft (c : C) (h : ∀ vs, c ≠ .tup vs) : (softA c).cells = c.cells.map softC := by
 cases c <;> first | rfl | exact absurd rfl (h _)
theorem impUp_soft (o : Nat → Obj) (own p : Nat) (c : C) : impUp o own p (softC c) = impUp o own p c := by cases c <;> rfl
theorem posCells_soft {c : C} (h : resShape c) : posCells (softV c) = (posCells c).map fun x => (x.1, softC x.2) := by
 by_cases hn : ∃ vs, c = .tup vs
 ·obtain ⟨vs, rfl⟩ := hn
  have hv : ∀ v ∈ vs, ∀ us, v ≠ .tup us := by
   rintro v hv us rfl
   exact h _ hv
  simp only [softV, posCells, List.zipIdx_map, List.flatMap_map, List.map_flatMap]
  have : ∀ x ∈ vs.zipIdx, (fun (x : C × Nat) => (softA x.1).cells.zipIdx.map fun (y : C × Nat) => (8 * x.2 + y.2, y.1)) x = (fun (x : C × Nat) => (x.1.cells.zipIdx.map fun (y : C × Nat) => (8 * x.2 + y.2, y.1)).map fun z => (z.1, softC z.2)) x := by
   rintro ⟨v, i⟩ hx
   have hm : v ∈ vs := List.mem_of_getElem? (mem_zipIdx_lt hx)
   simp only [cells_soft v (hv v hm), List.zipIdx_map, List.map_map]
   rfl
  exact congrArg List.flatten (List.map_congr_left this)
 ·have hn : ∀ vs, c ≠ .tup vs := fun vs e => hn ⟨vs, e⟩
  have h2 := softA_notup hn
  rw [softA_nt hn, posCells_nt hn, posCells_nt h2, cells_soft c hn, List.zipIdx_map, List.map_map, List.map_map]
  rfl
theorem impUps_soft {c : C} (h : resShape c) (o : Nat → Obj) (own : Nat) : impUps o own (softV c) = impUps o own c := by
 unfold impUps
 rw [posCells_soft h, List.filterMap_map]
 congr 1
 funext x
 exact impUp_soft o own x.1 x.2
theorem resO_soft {c : C} (h : resShape c) : resO (softV c) = resO c := by unfold resO; rw [impUps_soft h]
section
variable {P : Program} {w w' : World} {g g' : Gh} {o : Nat → Obj}
theorem vc_soft {c : C} {p : Nat} {v : Value} (h : VC w g o (impCell (fun _ => blank) 0 p c) v) : VC w g o (impCell (fun _ => blank) 0 p (softC c)) v := by
 cases c <;> first
  | exact h
  | (simp only [impCell, softC] at h ⊢
     cases h with
     | closed h => cases h
     | nils => exact .closed (.sl [] none 0 0 (fun _ _ => undef) (Nat.le_refl _) (fun _ h => by cases h) (fun h => absurd rfl h) (fun i r h => by simp at h)))
theorem va_soft {c : C} {p : Nat} {v : Value} (hc : compOK c) (h : VA w g o (impA (fun _ => blank) 0 p c) v) : VA w g o (impA (fun _ => blank) 0 p (softA c)) v := by
 by_cases hn : ∃ cs, c = .agg cs
 ·obtain ⟨cs, rfl⟩ := hn
  obtain ⟨us, rfl, h1, h2⟩ := h
  refine ⟨us, rfl, by simpa [impA, softA] using h1, fun i d hd => ?_⟩
  simp only [softA, impA, List.zipIdx_map, List.map_map, List.getElem?_map, List.getElem?_zipIdx, Option.map_map, Option.map_eq_some_iff, Function.comp, Nat.zero_add] at hd
  obtain ⟨x, hx, rfl⟩ := hd
  refine vc_soft (h2 i _ ?_)
  simp only [List.getElem?_map, List.getElem?_zipIdx, Option.map_map, Option.map_eq_some_iff, Function.comp, Nat.zero_add]
  exact ⟨x, hx, rfl⟩
 ·have hn : ∀ cs, c ≠ .agg cs := fun cs e => hn ⟨cs, e⟩
  have ht : ∀ cs, c ≠ .tup cs := by rintro cs rfl; exact hc
  rw [softC_na hn]
  by_cases hnil : c = .nils
  ·subst hnil
   have : VC w g o .nils v := h
   have := vc_soft (c := .nils) (p := p) this
   exact VC.va this
  ·have e : softC c = c := by cases c <;> first | rfl | exact absurd rfl hnil
   rw [e]; exact h
theorem vr_soft {c : C} {v : Value} (hc : resShape c) (h : VR w g o (impV (fun _ => blank) 0 c) v) : VR w g o (impV (fun _ => blank) 0 (softV c)) v := by
 by_cases hn : ∃ vs, c = .tup vs
 ·obtain ⟨vs, rfl⟩ := hn
  obtain ⟨us, rfl, h1, h2⟩ := h
  refine ⟨us, rfl, by simpa [impV, softV] using h1, fun i d hd => ?_⟩
  simp only [softV, impV, List.zipIdx_map, List.map_map, List.getElem?_map, List.getElem?_zipIdx, Option.map_map, Option.map_eq_some_iff, Function.comp, Nat.zero_add] at hd
  obtain ⟨x, hx, rfl⟩ := hd
  refine va_soft (hc x (List.mem_of_getElem? hx)) (h2 i _ ?_)
  simp only [List.getElem?_map, List.getElem?_zipIdx, Option.map_map, Option.map_eq_some_iff, Function.comp, Nat.zero_add]
  exact ⟨x, hx, rfl⟩
 ·have hn : ∀ vs, c ≠ .tup vs := fun vs e => hn ⟨vs, e⟩
  have h2 := softA_notup hn
  have hc' : compOK c := by cases c <;> first | exact absurd rfl (hn _) | exact hc
  have e1 : impV (fun _ => blank) 0 c = impA (fun _ => blank) 0 0 c := by cases c <;> first | exact absurd rfl (hn _) | rfl
  have e2 : impV (fun _ => blank) 0 (softA c) = impA (fun _ => blank) 0 0 (softA c) := by
   generalize softA c = d at h2
   cases d <;> first | exact absurd rfl (h2 _) | rfl
  rw [softA_nt hn, e2]
  rw [e1] at h
  have hva : VA w g o (impA (fun _ => blank) 0 0 c) v := by
   have : ∀ us, impA (fun _ => blank) 0 0 c ≠ .tup us := by
    intro us e
    cases c <;> simp [impA, impCell] at e <;> exact absurd rfl (hn _)
   generalize impA (fun _ => blank) 0 0 c = d at h this
   cases d <;> first | exact absurd rfl (this _) | exact h
  exact VA.vr (va_soft hc' hva)
theorem Left.soft {ext ext' : List Obj} {res : C} {sh : Bool} {v : Value} (h : Left P w g ext res ext' sh v w') : Left P w g ext (softV res) ext' sh v w' := by
 obtain ⟨g', r1, r2, r3, r4, r5, r6⟩ := h.res
 exact ⟨h.os, h.tape, h.output, h.size, h.keep, h.same, resShape_soft h.shape, g', by rw [resO_soft h.shape]; exact r1, by rw [resO_soft h.shape]; exact r2, r3, r4, by rw [resO_soft h.shape]; exact vr_soft h.shape r5, r6⟩
end
theorem softC_bd {c : C} (h : Bd c) : Bd (softC c) := by
 cases c <;> first | exact h | exact .sl _ (by simp [bnd63]) (fun r hr => by cases hr)
theorem softA_bd {c : C} (h : Bd c) : Bd (softA c) := by
 cases h with
 | agg cs h => exact .agg _ fun d hd => by obtain ⟨x, hx, rfl⟩ := List.mem_map.1 hd; exact softC_bd (h x hx)
 | nils => exact softC_bd .nils
 | undef => exact .undef
 | int k n => exact .int k n
 | bool b => exact .bool b
 | str s h => exact .str s h
 | nilp => exact .nilp
 | sl x h hr => exact .sl x h hr
 | fr e x h hr => exact .fr e x h hr
 | frp cs h => exact .frp cs h
 | ref a b c d e h => exact .ref a b c d e h
 | ptr a b c d e => exact .ptr a b c d e
 | ip cs off h => exact .ip cs off h
 | fn g caps h => exact .fn g caps h
 | tup vs h => exact .tup vs h
theorem softV_bd {c : C} (h : Bd c) : Bd (softV c) := by
 by_cases hn : ∃ vs, c = .tup vs
 ·obtain ⟨vs, rfl⟩ := hn
  cases h with | tup _ h => exact .tup _ fun d hd => by obtain ⟨x, hx, rfl⟩ := List.mem_map.1 hd; exact softA_bd (h x hx)
 ·rw [softA_nt fun vs e => hn ⟨vs, e⟩]; exact softA_bd h
section
variable {P : Program} {G : Glob} {tt0 : Nat → TyI}
theorem call_okS (hm : P.follows .mixedOrders = true) {f : FuncId} {fn : Func} {body : Code} {args : List C} {ext : List Obj} {res : C} {sh : Bool} (off : Nat) (tops : Bool)
  (hf : P.funcs[f]? = some fn) (hb : fn.body = some body) (hname : (fn.name == "runtime.NumGoroutine") = false) (hnt : args.length ≤ fn.ntmps) (hro : ∀ x ∈ ext, x.rw = false)
  (h : wpC (CallRel P G (some 0)) (ttOf P) off fn.ntmps body (fun e st => ∃ r0, RetOK (ttOf P) fn.results.toList tops r0 sh e st ∧ softV r0 = res) (start args (extO ext))) : CallOK P G f args ext res ext sh := by
 refine ⟨enters_of hf hname hb, fun w g vals hglob hlt hobj hap hsz hargs => ?_⟩
 have hro' : ∀ id, (extO ext id).rw = false := by
  intro id
  by_cases hid : id < ext.length
  ·have : extO ext id = ext[id] := by simp [extO, hid]
   rw [this]; exact hro _ (List.getElem_mem hid)
  ·rw [extO_ge (by omega)]; rfl
 let X : Env := ⟨fun _ => False, g.Q, fun _ h => h.elim, w, g, extO ext, false, G, 0⟩
 refine calls_of_wp hf hb ?_
 have I : Inv w.heap.size X w w g (start args (extO ext)) { tmps := vals ++ Array.replicate (fn.ntmps - vals.size) undef, defers := [] } :=
  ⟨start_slots hsz fun i c hi => VA.vr (hargs i c hi), hobj, hap.apart, fun i x hi => by rw [show ((start args (extO ext)).o i).rw = false from hro' i] at hi; (cases hi), hlt, fun b hb => .inr hb, ⟨(fun h => by cases h), (fun id hi => (Nat.not_lt_zero _ hi).elim)⟩, rfl, rfl, rfl, rfl, Nat.le_refl _, fun _ _ _ => rfl, ⟨fun b hb => ⟨(hglob.out b hb).1, fun h => h⟩, hglob.at_⟩⟩
 refine Go.wp_mono (code_sound (X := X) hm (by intro n h; cases h; exact ⟨rfl, rfl⟩) body _ _ _ _ _ h I (by simp; omega)) ?_
 rintro e a' w' ⟨x, st', g', rfl, ⟨r0, ⟨hx, v, hv, hsh, hn, hres, hpl⟩, hr0⟩, I', hs'⟩
 obtain ⟨u, hu1, hu2⟩ := results_rel I' hv
 have hq : ∀ b, b < w.heap.size → w'.heap[b]? = w.heap[b]? := fun b hb => I'.keep b hb (fun h => h)
 have left : Left P w g ext r0 ext sh u w' := by
  subst hres
  refine ⟨I'.os, I'.tape, I'.output, I'.size, fun b hb _ => hq b hb, ⟨rfl, fun _ => ⟨rfl, rfl, rfl, rfl⟩⟩, resShape_expV hsh, ?_⟩
  ·obtain ⟨gr, r1, r2, r3, r4, r5⟩ := exp_left I' (ex := if tops then expIds v else []) hu2 hsh hn hpl (fun _ h => h)
   refine ⟨gr, r1, r2, r3, r4, r5, fun id hid => ?_⟩
   have h0 := (hobj id).other (g' := g) (w' := w') ⟨fun b hb => ⟨hb, hq b (hlt b hb)⟩, fun _ => .inr ⟨rfl, rfl, Nat.le_refl _, rfl, rfl⟩⟩ rfl rfl rfl fun b hb => ⟨Iff.rfl, hq _ ((hobj id).lt hb)⟩
   exact obj_wide (fun b hb => .inl hb) (hro' id) h0
 have left := left.soft
 rw [hr0] at left
 cases x with
 | nml => exact ⟨I'.dd, u, hu1, u, rfl, left⟩
 | exit i => exact hx.elim
 | ret => exact ⟨I'.dd, u, hu1, u, rfl, left⟩
structure FinSOK (o : Nat → Obj) (res : C) (v : C) : Prop where
 shape : shapeV v = true
 nodup : (expIds v).Nodup
 eq : softV (expV o [] v) = res
def finS (res : C) (o : Nat → EObj) (v : C) : Prop := FinSOK (toO o) res v
theorem fn_okS {f : FuncId} {fn : Func} {body : Code} {args : List C} {ext : List EObj} {res : C} (hm : P.follows .mixedOrders = true) (hsub : ∀ T, tt0 T = noTy ∨ ttOf P T = tt0 T) (hz : ∀ T, ∀ c ∈ (ttOf P T).zero, Bd c)
  (off : Nat) (cs : List Nat) (hf : P.funcs[f]? = some fn) (hb : fn.body = some body) (hname : (fn.name == "runtime.NumGoroutine") = false) (hnt : args.length ≤ fn.ntmps) (hro : ∀ x ∈ ext, x.rw = false) (hc : codeOK fn.ntmps body = true)
  (h : ∀ A F, IsBx true (some 0) P G A → F = finS res → wpF A true tt0 off cs body (RetF F tt0 fn.results.toList) (startE args (extE ext))) : FnOK P G f args (ext.map EObj.toObj) res (ext.map EObj.toObj) true := by
 have hst : (startE args (extE ext)).toSt = start args (extO (ext.map EObj.toObj)) := by
  unfold startE ESt.toSt start
  congr 1
  funext i
  simp only [toO, extE, extO, List.getD_eq_getElem?_getD, List.getElem?_map]
  cases ext[i]? <;> rfl
 have hbd : (∀ a ∈ args, Bd a) → (∀ x ∈ ext.map EObj.toObj, BdR x.rows) → BdSt (startE args (extE ext)).toSt := by
  intro ha hx
  rw [hst]
  refine ⟨fun t => ?_, fun i => ?_⟩
  ·show Bd (args.getD t .undef)
   rw [List.getD_eq_getElem?_getD]
   cases e : args[t]? with
   | none => exact .undef
   | some a => exact ha a (List.mem_of_getElem? e)
  ·show BdR ((extO (ext.map EObj.toObj)) i).rows
   rw [extO, List.getD_eq_getElem?_getD]
   cases e : (ext.map EObj.toObj)[i]? with
   | none => exact ⟨by simp [blank, bnd63], fun r hr => by cases hr⟩
   | some a => exact hx a (List.mem_of_getElem? e)
 have hw : (∀ a ∈ args, Bd a) → (∀ x ∈ ext.map EObj.toObj, BdR x.rows) → wpC (CallRel P G (some 0)) (ttOf P) off fn.ntmps body (fun x st => (∃ r0, RetOK (ttOf P) fn.results.toList false r0 true x st ∧ softV r0 = res) ∧ Bd res) (start args (extO (ext.map EObj.toObj))) := by
  intro ha hx
  rw [← hst]
  refine wpF_sound (isBx true (some 0) P G) hsub hz body _ _ _ (fun x e hbe hq => ?_) hc (fun _ => hbd ha hx) (h _ _ (isBx true (some 0) P G) rfl)
  have hb := hbe rfl
  have main : ∀ {p : Prop}, (match endE tt0 e fn.results.toList with | some v => finS res e.o v | none => False) → p → (∃ r0, (p ∧ ∃ v, endV (ttOf P) e.toSt fn.results.toList = some v ∧ shapeV v = true ∧ (expIds v).Nodup ∧ expV e.toSt.o (if false = true then expIds v else []) v = r0 ∧ (true = false → plainV r0 = true)) ∧ softV r0 = res) ∧ Bd res := by
   intro p hq hp
   split at hq
   ·rename_i v hv
    unfold finS at hq
    have he := endE_sound hsub hv
    refine ⟨⟨_, ⟨hp, v, he, hq.shape, hq.nodup, rfl, fun h => by cases h⟩, hq.eq⟩, ?_⟩
    rw [← hq.eq]
    exact softV_bd (expV_bd hb.o _ (endV_bd hb he))
   ·exact hq.elim
  cases x with
  | nml => exact main hq trivial
  | exit i => exact hq.elim
  | ret => exact main hq trivial
 refine ⟨fun ha hx => ?_, fun ha hx => ?_⟩
 ·refine call_okS hm off false hf hb hname hnt (fun x hx => ?_) (wpC_mono body _ _ _ (fun x s hq => hq.1) (hw ha hx))
  obtain ⟨y, hy, rfl⟩ := List.mem_map.1 hx
  exact hro y hy
 ·obtain ⟨x, st', hq⟩ := wpC_ex body _ _ (hw ha hx)
  exact ⟨hq.2, hx⟩
end
/- Closing a result. -/
def clAF (o : Nat → EObj) (c : C) (K : C → Prop) : Prop :=
 match c with
 | .agg cs => closeCells o cs fun cs' => K (.agg cs')
 | c => closeCell o c K
def clMF (o : Nat → EObj) : List C → (List C → Prop) → Prop
 | [], K => K []
 | c :: r, K => clAF o c fun c' => clMF o r fun r' => K (c' :: r')
def clVF (o : Nat → EObj) (c : C) (K : C → Prop) : Prop :=
 match c with
 | .tup vs => clMF o vs fun vs' => K (.tup vs')
 | c => clAF o c K
theorem soft_expC (o : Nat → Obj) (c : C) : softC (expC o [] c) = resC o [] resD c := by
 have hs := resC_shut o [] resD c
 cases c <;> simp only [expC, List.not_mem_nil, false_and, if_false, softC] <;> first
  | rfl
  | (generalize resC o [] resD _ = x at hs; cases x <;> simp [shut] at hs <;> rfl)
section
variable {o : Nat → EObj}
theorem clAF_sound {c : C} {K : C → Prop} (h : clAF o c K) : K (softA (expA (toO o) [] c)) := by
 by_cases hn : ∃ cs, c = .agg cs
 ·obtain ⟨cs, rfl⟩ := hn
  obtain ⟨l, h1, h⟩ := closeCells_sound h
  simp only [expA, softA, List.map_map]
  have : cs.map (softC ∘ expC (toO o) []) = l := by rw [← h1]; exact List.map_congr_left fun c _ => soft_expC _ _
  rw [this]; exact h
 ·have hn : ∀ cs, c ≠ .agg cs := fun cs e => hn ⟨cs, e⟩
  have e1 : clAF o c K = closeCell o c K := by cases c <;> first | exact absurd rfl (hn _) | rfl
  have e2 : expA (toO o) [] c = expC (toO o) [] c := by cases c <;> first | exact absurd rfl (hn _) | rfl
  rw [e1] at h
  obtain ⟨l, h1, h⟩ := closeCell_sound h
  rw [e2]
  have hna : ∀ cs, expC (toO o) [] c ≠ .agg cs := fun cs => (expC_nt (o := toO o) [] c).2 cs
  rw [softC_na hna, soft_expC, h1]; exact h
theorem clMF_sound : ∀ {l : List C} {K : List C → Prop}, clMF o l K → K (l.map fun c => softA (expA (toO o) [] c))
 | [], K, h => h
 | c :: r, K, h => clMF_sound (K := fun r' => K (softA (expA (toO o) [] c) :: r')) (clAF_sound h)
theorem clVF_sound {v : C} {K : C → Prop} (hs : shapeV v = true) (h : clVF o v K) : K (softV (expV (toO o) [] v)) := by
 by_cases hn : ∃ vs, v = .tup vs
 ·obtain ⟨vs, rfl⟩ := hn
  have := clMF_sound h
  simp only [expV, softV, List.map_map]
  exact this
 ·have hn : ∀ vs, v ≠ .tup vs := fun vs e => hn ⟨vs, e⟩
  have e1 : clVF o v K = clAF o v K := by cases v <;> first | exact absurd rfl (hn _) | rfl
  have e2 : expV (toO o) [] v = expA (toO o) [] v := by cases v <;> first | exact absurd rfl (hn _) | rfl
  rw [e1] at h
  rw [e2]
  have hnt : ∀ vs, expA (toO o) [] v ≠ .tup vs := by
   intro vs e
   cases v <;> first
    | exact absurd rfl (hn _)
    | (simp only [expA] at e; first | exact absurd e (by simp) | exact (expC_nt (o := toO o) [] _).1 vs e)
  rw [softA_nt hnt]
  exact clAF_sound h
theorem fin_close {F : (Nat → EObj) → C → Prop} {r v : C} (hF : F = finS r) (hs : shapeV v = true) (hn : (expIds v).Nodup) (h : clVF o v fun v' => r = v') : F o v := by
 rw [hF]; exact ⟨hs, hn, (clVF_sound hs h).symm⟩
end
end Go.Proofs.YtchpopejojghmaaGreatDoor.M
