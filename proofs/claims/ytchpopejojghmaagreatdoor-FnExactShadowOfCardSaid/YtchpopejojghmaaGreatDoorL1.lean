/- The library's functions: from the shelf's contracts to these. -/
import Derived.Test.YtchpopejojghmaaGreatDoorD2
set_option linter.unusedVariables false
set_option linter.unusedSimpArgs false
namespace Go.Proofs.YtchpopejojghmaaGreatDoor.M
open Go Go.Proofs Go.RowKit
abbrev Hm : Prop := pg.follows .mixedOrders = true
abbrev Hz : Prop := ∀ T, ∀ c ∈ (ttOf pg T).zero, Bd c
structure GF (G : Glob) : Prop where
 triv : True
def g0 : Gh := ⟨fun _ => False, fun _ => none, fun _ => 0⟩
theorem bl_obj {w : World} {g : Gh} (h : ∀ id, g.loc id = none) (id : Nat) : ObjAt w g (fun _ => blank) id := ⟨fun _ => rfl, fun a ha => by rw [h id] at ha; cases ha⟩
section
variable {G : Glob} {f : Nat} {fn : Func} {body : Code} {args : List C} {res : C}
theorem lib_ok (hf : pg.funcs[f]? = some fn) (hb : fn.body = some body) (hname : (fn.name == "runtime.NumGoroutine") = false) (sh : Bool) (hsh : resShape res) (hup : impUps (fun _ => blank) 0 res = []) (him : impV (fun _ => blank) 0 res = res) (hbd : (∀ a ∈ args, Bd a) → Bd res)
  (h : ∀ (w : World) (g : Gh) (vals : Array Value), G.W w → (∀ b, b < G.B → b < w.heap.size) → vals.size = args.length → (∀ i c, args[i]? = some c → VA w g (extO []) c (vals.getD i undef)) → (∀ a ∈ args, Bd a) →
   Calls pg f vals w fun e w' => ∃ v, e = .returned v ∧ Below w.heap.size w w' ∧ ∃ g' : Gh, (∀ id, g'.loc id = none) ∧ (∀ b, g'.Q b → w.heap.size ≤ b ∧ b < w'.heap.size) ∧ VR w' g' (fun _ => blank) res v) : FnOK pg G f args [] res [] sh := by
 refine ⟨fun ha _ => ⟨enters_of hf hname hb, fun w g vals hg hq hobj hap hsz hargs => ?_⟩, fun ha hx => ⟨hbd ha, hx⟩⟩
 refine (h w g vals hg.at_ (fun b hb => (hg.out b hb).1) hsz hargs ha).mono ?_
 rintro e w' ⟨v, he, hB, g', hl, hQ, hv⟩
 refine ⟨v, he, hB.os, hB.tape, hB.output, hB.size, fun b hb' _ => hB.block b hb', ⟨rfl, fun _ => ⟨rfl, rfl, rfl, rfl⟩⟩, hsh, g', ?_⟩
 have hr : resO res = fun _ => blank := by unfold resO; rw [hup]; rfl
 rw [hr, him]
 exact ⟨bl_obj hl, ⟨fun i j a b _ _ _ hi => by rw [hl i] at hi; cases hi⟩, (fun id a hi => by rw [hl id] at hi; cases hi), fun b hb' => ⟨(hQ b hb').2, fun hlt => by have := (hQ b hb').1; omega⟩, hv, fun id hid => by cases hid⟩
theorem arg_str {w : World} {g : Gh} {o : Nat → Obj} {s : ByteArray} {v : Value} (h : VA w g o (.str s) v) : v = .string s := by
 cases h with
 | closed h => cases h; rfl
theorem vals1 {vals : Array Value} {a : Value} (h : vals.size = 1) (h0 : vals.getD 0 undef = a) : vals = #[a] := by
 obtain ⟨l⟩ := vals
 match l, h with
 | [x], _ => simp [Array.getD] at h0; rw [h0]
theorem vals2 {vals : Array Value} {a b : Value} (h : vals.size = 2) (h0 : vals.getD 0 undef = a) (h1 : vals.getD 1 undef = b) : vals = #[a, b] := by
 obtain ⟨l⟩ := vals
 match l, h with
 | [x, y], _ => simp [Array.getD] at h0 h1; rw [h0, h1]
theorem lvrS {w : World} {g : Gh} {o : Nat → Obj} {s : ByteArray} : VR w g o (.str s) (.string s) := .closed (.str s)
end
end Go.Proofs.YtchpopejojghmaaGreatDoor.M
