/- The library's functions that rewrite a slice of texts in place, and Grow: from the shelf's contracts to calls that go on in the caller's objects. -/
import Derived.Test.YtchpopejojghmaaGreatDoorL1
import Derived.Test.YtchpopejojghmaaGreatDoorS2
set_option linter.unusedVariables false
set_option linter.unusedSimpArgs false
set_option linter.unusedSectionVars false
namespace Go.Proofs.YtchpopejojghmaaGreatDoor.M
open Go Go.Proofs
set_option maxRecDepth 100000
theorem putRow_other {w : World} {blk off n b : Nat} {d : Array (List UInt8)} {os : Array Go.Obj} (hb : b < w.heap.size) (hne : b ≠ blk) : (Sort.grow (Sort.putRow encStr (Sort.ahead w n) blk off d) os).heap[b]? = w.heap[b]? := by
 rw [Sort.heap_grow_old _ _ (by simp [Sort.putRow, Sort.mapBlock, Sort.ahead]; exact hb)]
 simp only [Sort.putRow, Sort.mapBlock, Sort.ahead, Array.getElem?_modify]
 rw [if_neg (fun h => hne h.symm)]
theorem putRow_at {w : World} {blk off n : Nat} {d : Array (List UInt8)} {os : Array Go.Obj} {cells : Array Value} {elem : Nat} {fr : Nat × Nat} (h : w.heap[blk]? = some (.cells cells elem fr)) : (Sort.grow (Sort.putRow encStr (Sort.ahead w n) blk off d) os).heap[blk]? = some (.cells (Sort.putCells encStr off d cells) elem fr) := by
 have hb : blk < w.heap.size := (Array.getElem?_eq_some_iff.1 h).1
 rw [Sort.heap_grow_old _ _ (by simp [Sort.putRow, Sort.mapBlock, Sort.ahead]; exact hb)]
 simp only [Sort.putRow, Sort.mapBlock, Sort.ahead, Array.getElem?_modify]
 rw [if_pos trivial, h]; rfl
theorem vc_str {w : World} {g : Gh} {o : Nat → Obj} {s : ByteArray} {v : Value} (h : VC w g o (.str s) v) : v = .string s := by
 cases h with
 | closed h => cases h; rfl
theorem inl_texts {G : Glob} {f : Nat} {fn : Func} {body : Code} (hf : pg.funcs[f]? = some fn) (hb : fn.body = some body) (hname : (fn.name == "runtime.NumGoroutine") = false)
  {o : Nat → Obj} {id gen : Nat} {l l' : List Str} (hll : l'.length = l.length) (ho : o id = ⟨gen, true, 1, l.map eS⟩) {res : C} {rv : Option Addr → Nat → Value}
  (hres : ∀ (w : World) (g : Gh) (A : Option Addr) (cap : Nat), l.length ≤ cap → (0 < cap → ∃ b, A = some b ∧ b.spot = none) → RefOK g (upd o id ⟨gen, true, 1, l'.map eS⟩) id 1 0 l.length A cap → VR w g (upd o id ⟨gen, true, 1, l'.map eS⟩) res (rv A cap))
  (h0 : l = [] → ∀ (p : Option Addr) (cap : Nat) (w : World), Calls pg f #[.slice p 0 cap] w fun e w' => e = .returned (rv p cap) ∧ w' = w)
  (h1 : l ≠ [] → ∀ (blk off cap : Nat) (w : World), Sort.Holds encStr w blk off l.toArray → blk < w.heap.size → l.length ≤ cap →
   Calls pg f #[.slice (some ⟨blk, off, none⟩) l.length cap] w fun e w' => e = .returned (rv (some ⟨blk, off, none⟩) cap) ∧ ∃ n os, w' = Sort.grow (Sort.putRow encStr (Sort.ahead w n) blk off l'.toArray) os) :
  InlOK pg G f [.ref id gen 1 0 l.length] o res [(id, ⟨gen, true, 1, l'.map eS⟩)] := by
 refine ⟨enters_of hf hname hb, fun base X w0 w g vals hXG I hsz hargs => ?_⟩
 obtain ⟨A, cap, hve, hlc, hA, hg, hok⟩ := vr_ref (hargs 0 _ rfl)
 have R := hok (by rw [ho])
 obtain rfl : vals = #[.slice A l.length cap] := vals1 hsz hve
 have hR' : ∀ g' : Gh, g'.loc id = g.loc id → g'.siz id = g.siz id → RefOK g' (upd o id ⟨gen, true, 1, l'.map eS⟩) id 1 0 l.length A cap := by
  intro g' e1 e2
  refine ⟨by rw [upd_get, if_pos rfl], by rw [upd_get, if_pos rfl]; simp [hll], ?_⟩
  rw [e1, e2]; exact R.at_
 show Calls pg f _ w fun e w' => ∃ v g', e = .returned v ∧ OInv base X w0 w' g' (upd o id ⟨gen, true, 1, l'.map eS⟩) ∧ Mono w g o w' g' (upd o id ⟨gen, true, 1, l'.map eS⟩) ∧ VR w' g' (upd o id ⟨gen, true, 1, l'.map eS⟩) res v
 by_cases hl : l = []
 ·subst hl
  have hl' : l' = [] := List.eq_nil_of_length_eq_zero hll
  subst hl'
  have e0 : upd o id ⟨gen, true, 1, ([] : List Str).map eS⟩ = o := by
   funext j; rw [upd_get]; split
   ·rename_i h; subst h; exact ho.symm
   ·rfl
  refine (h0 rfl A cap w).mono ?_
  rintro e w' ⟨he, rfl⟩
  refine ⟨_, g, he, by rw [e0]; exact I, by rw [e0]; exact Mono.refl _ _ _, hres _ _ _ _ hlc hA (hR' g rfl rfl)⟩
 ·have hlen : 0 < l.length := List.length_pos_iff.2 hl
  have hcap : 0 < cap := by omega
  obtain ⟨a, hloc, hAe, hsz2⟩ := R.at_ hcap
  have hAe : A = some ⟨a.block, a.off, none⟩ := by rw [hAe, Nat.zero_mul, Nat.add_zero]
  subst hAe
  obtain ⟨hsp, hnQ, _, cells, elem, hheap, hcs, hfit, hrows⟩ := (I.objs id).some_ a hloc
  simp only [ho] at hnQ hfit hrows
  have hnQ := hnQ trivial
  have hfit : a.off + l.length ≤ cells.size := by simpa using hfit
  have hblk : a.block < w.heap.size := (Array.getElem?_eq_some_iff.1 hheap).1
  have hH : Sort.Holds encStr w a.block a.off l.toArray := by
   intro j hj
   have hj : j < l.length := by simpa using hj
   have h2 := (hrows j [.str ⟨⟨l[j]⟩⟩] (by rw [List.getElem?_map, List.getElem?_eq_getElem hj]; rfl)).2 0 _ rfl
   have h3 := vc_str h2
   rw [Nat.mul_one, Nat.add_zero] at h3
   refine ⟨?_, ?_⟩
   ·unfold World.cell?
    simp only [hheap]
    have hlt : a.off + j < cells.size := by omega
    simp only [Option.isSome_none, Bool.false_eq_true, if_false]
    rw [Array.getElem?_eq_getElem hlt]
    rw [Array.getD_eq_getD_getElem?, Array.getElem?_eq_getElem hlt] at h3
    simp only [Option.getD_some] at h3
    rw [h3]
    simp [encStr, hj]
   ·unfold World.frozen?
    simp only [hheap]
    simp
  refine (h1 hl a.block a.off cap w hH hblk hlc).mono ?_
  rintro e w' ⟨he, n, os, rfl⟩
  have hoth : ∀ b, b < w.heap.size → b ≠ a.block → _ := fun b h1 h2 => @putRow_other w a.block a.off n b l'.toArray os h1 h2
  have hat := @putRow_at w a.block a.off n l'.toArray os cells elem (0, 0) hheap
  have hsize : w.heap.size ≤ (Sort.grow (Sort.putRow encStr (Sort.ahead w n) a.block a.off l'.toArray) os).heap.size := by
   rw [Sort.size_grow]; simp [Sort.putRow, Sort.mapBlock, Sort.ahead]
  have m : Mono w g o (Sort.grow (Sort.putRow encStr (Sort.ahead w n) a.block a.off l'.toArray) os) g (upd o id ⟨gen, true, 1, l'.map eS⟩) := by
   refine ⟨fun b hb => ⟨hb, hoth b (I.lt b hb) fun e => hnQ (e ▸ hb)⟩, fun j => .inr ?_⟩
   rw [upd_get]
   split
   ·rename_i h; subst h
    rw [ho]
    exact ⟨rfl, rfl, by simp [hll], rfl, rfl⟩
   ·exact ⟨rfl, rfl, Nat.le_refl _, rfl, rfl⟩
  have hrw : ∀ j, (upd o id ⟨gen, true, 1, l'.map eS⟩ j).rw = (o j).rw := by
   intro j; rw [upd_get]; split
   ·rename_i h; subst h; rw [ho]
   ·rfl
  have hobj : ∀ j, ObjAt (Sort.grow (Sort.putRow encStr (Sort.ahead w n) a.block a.off l'.toArray) os) g (upd o id ⟨gen, true, 1, l'.map eS⟩) j := by
   intro j
   by_cases hj : j = id
   ·subst hj
    refine ⟨fun h => (by rw [hloc] at h; cases h), fun a' ha' => ?_⟩
    rw [hloc] at ha'; cases ha'
    refine ⟨hsp, fun _ => hnQ, fun h => ?_, _, elem, hat, ?_, ?_, ?_⟩
    ·rw [upd_get, if_pos rfl] at h; cases h
    ·rw [← hcs]; simp [Sort.putCells]
    ·rw [upd_get, if_pos rfl]; simp [Sort.putCells, hll]; exact hfit
    ·intro i r hr
     rw [upd_get, if_pos rfl] at hr ⊢
     simp only at hr ⊢
     rw [List.getElem?_map, Option.map_eq_some_iff] at hr
     obtain ⟨s, hs, rfl⟩ := hr
     obtain ⟨hi, es⟩ := List.getElem?_eq_some_iff.1 hs
     refine ⟨rfl, fun q c hc => ?_⟩
     match q, hc with
     | 0, hc =>
      have hc : C.str ⟨⟨s⟩⟩ = c := by simpa [eS] using hc
      subst hc
      have hlt : a.off + i < cells.size := by omega
      rw [Nat.mul_one, Nat.add_zero, Array.getD_eq_getD_getElem?]
      simp only [Sort.putCells, Array.getElem?_mapIdx, Array.getElem?_eq_getElem hlt, Option.map_some, Option.getD_some]
      rw [if_pos ⟨by omega, by simp; omega⟩]
      have : encStr (l'.toArray)[a.off + i - a.off]! = .string ⟨⟨s⟩⟩ := by
       rw [show a.off + i - a.off = i by omega]
       simp [encStr, hi, es]
      rw [this]
      exact .closed (.str _)
     | q + 1, hc => simp [eS] at hc
   ·have hold := I.objs j
    have ej : upd o id ⟨gen, true, 1, l'.map eS⟩ j = o j := by rw [upd_get, if_neg hj]
    refine ⟨fun h => by rw [ej]; exact hold.none_ h, fun a' ha' => ?_⟩
    obtain ⟨k1, k2, k3, c2, e2, k4, k5, k6, k7⟩ := hold.some_ a' ha'
    have hne : a'.block ≠ a.block := by
     intro e
     cases hr : (o j).rw with
     | true => exact I.apart j id a' a hj hr (by show (o id).rw = true; rw [ho]) ha' hloc e
     | false => exact hnQ (e ▸ k3 hr)
    rw [ej]
    refine ⟨k1, k2, k3, c2, e2, (hoth _ (Array.getElem?_eq_some_iff.1 k4).1 hne).trans k4, k5, k6, fun i r hr => ⟨(k7 i r hr).1, fun q c hc => ((k7 i r hr).2 q c hc).mono m⟩⟩
  refine ⟨_, g, he, ?_, m, hres _ _ _ _ hlc hA (hR' g rfl rfl)⟩
  have key := I.next m hobj (fun i j a b hij hi hj => I.apart i j a b hij (by rw [← hrw i]; exact hi) (by rw [← hrw j]; exact hj)) (fun i a hi => I.mine i a (by rw [← hrw i]; exact hi)) (fun b hb => Nat.lt_of_lt_of_le (I.lt b hb) hsize) I.low rfl rfl rfl hsize
   (fun b hb hx => hoth b (Nat.lt_of_lt_of_le hb I.size) fun e => by
    rcases I.mine id a (by show (o id).rw = true; rw [ho]) hloc with h | h
    ·omega
    ·exact hx (e ▸ h)) none (fun t h => by cases h) (VR.int .i64 0)
  exact key
def sortL (l : List Str) : List Str := l.mergeSort fun x y => decide (x ≤ y)
theorem sort_inl {G : Glob} {o : Nat → Obj} {id gen : Nat} {l : List Str} (hl : l.length < 4611686018427387904) (ho : o id = ⟨gen, true, 1, l.map eS⟩) :
  InlOK pg G 147 [.ref id gen 1 0 l.length] o (.tup []) [(id, ⟨gen, true, 1, (sortL l).map eS⟩)] := by
 refine inl_texts (rv := fun _ _ => .tuple #[]) (body := bodyOf Tryz.f147) (by unfold pg; exact Tryz.func147) rfl (by simp [Tryz.f147]) (by simp [sortL]) ho (fun w g A cap _ _ _ => ⟨#[], rfl, rfl, fun i c h => by cases h⟩) (fun e p cap w => ?_) (fun _ blk off cap w hH hb hc => ?_)
 ·unfold pg; exact Tryz.slices_Sort_string_none p cap w
 ·unfold pg; exact Tryz.slices_Sort_string blk off cap l w hH hb hl
theorem compact_inl {G : Glob} {o : Nat → Obj} {id gen : Nat} {l : List Str} (hl : l.length < 4611686018427387904) (ho : o id = ⟨gen, true, 1, l.map eS⟩) (hcl : (Lib.compact l).length ≤ l.length) :
  InlOK pg G 149 [.ref id gen 1 0 l.length] o (.ref id gen 1 0 (Lib.compact l).length) [(id, ⟨gen, true, 1, (Lib.compact l ++ List.replicate (l.length - (Lib.compact l).length) []).map eS⟩)] := by
 refine inl_texts (rv := fun A cap => .slice A (Lib.compact l).length cap) (body := bodyOf Tryz.f149) (by unfold pg; exact Tryz.func149) rfl (by simp [Tryz.f149]) (by simp; omega) ho (fun w g A cap h1 h2 R => ?_) (fun e p cap w => ?_) (fun _ blk off cap w hH hb hc => ?_)
 ·refine VC.vr (.ref id gen 1 0 _ A cap (by omega) h2 (by rw [upd_get, if_pos rfl]; exact Nat.le_refl _) fun _ => ⟨R.hes, ?_, R.at_⟩)
  exact Nat.le_trans (by omega) R.rows
 ·subst e; unfold pg; exact Tryz.slices_Compact_string_empty p cap w
 ·unfold pg
  refine (Tryz.slices_Compact_string blk off cap l w hH (by omega) hc).mono ?_
  rintro e w' ⟨he, q, hw⟩
  exact ⟨he, q, #[], by rw [hw, Sort.grow_empty]⟩
theorem inl_grow {G : Glob} {f : Nat} {fn : Func} {body : Code} (hf : pg.funcs[f]? = some fn) (hb : fn.body = some body) (hname : (fn.name == "runtime.NumGoroutine") = false) {o : Nat → Obj} {id es : Nat} {n : Int}
  (h : ∀ w : World, Calls pg f #[.slice none 0 0, .int .i64 n] w fun e w' => (e = .returned (.slice none 0 0) ∧ w' = w) ∨ ∃ (c : Nat) (cells : Array Value) (elem : Nat), e = .returned (.slice (some ⟨w.heap.size, 0, none⟩) 0 c) ∧ cells.size = c * es ∧ w' = w.drew.alloc (.cells cells elem (0, 0))) :
  InlOK pg G f [.nils, .int .i64 n] o (.ref id ((o id).gen + 1) es 0 0) [(id, ⟨(o id).gen + 1, true, es, []⟩)] := by
 refine ⟨enters_of hf hname hb, fun base X w0 w g vals hXG I hsz hargs => ?_⟩
 have hv0 := vr_nils (hargs 0 _ rfl)
 have hv1 := vr_int (hargs 1 _ rfl)
 obtain rfl : vals = #[.slice none 0 0, .int .i64 n] := vals2 hsz hv0 hv1
 show Calls pg f _ w fun e w' => ∃ v g', e = .returned v ∧ OInv base X w0 w' g' (upd o id ⟨(o id).gen + 1, true, es, []⟩) ∧ Mono w g o w' g' (upd o id ⟨(o id).gen + 1, true, es, []⟩) ∧ VR w' g' (upd o id ⟨(o id).gen + 1, true, es, []⟩) (.ref id ((o id).gen + 1) es 0 0) v
 have main : ∀ (w' : World) (lo : Option Addr) (sz : Nat) (A : Option Addr) (c : Nat), (∀ b, b < w.heap.size → w'.heap[b]? = w.heap[b]?) → w.heap.size ≤ w'.heap.size → w'.os = w.os → w'.tape = w.tape → w'.output = w.output →
   (∀ a, lo = some a → a.spot = none ∧ w.heap.size ≤ a.block ∧ ∃ cells elem, w'.heap[a.block]? = some (.cells cells elem (0, 0)) ∧ cells.size = sz ∧ a.off ≤ cells.size) →
   (0 < c → ∃ b, A = some b ∧ b.spot = none) → (0 < c → ∃ a, lo = some a ∧ A = some ⟨a.block, a.off + 0 * es, none⟩ ∧ a.off + (0 + c) * es ≤ sz) →
   ∃ g', OInv base X w0 w' g' (upd o id ⟨(o id).gen + 1, true, es, []⟩) ∧ Mono w g o w' g' (upd o id ⟨(o id).gen + 1, true, es, []⟩) ∧ VR w' g' (upd o id ⟨(o id).gen + 1, true, es, []⟩) (.ref id ((o id).gen + 1) es 0 0) (.slice A 0 c) := by
  intro w' lo sz A c hk hs1 hos htp hou hlo hA hat
  have hlt : ∀ j b, g.loc j = some b → b.block < w.heap.size := fun j b hb => by
   obtain ⟨_, _, _, cells, elem, hh, _⟩ := (I.objs j).some_ b hb
   exact (Array.getElem?_eq_some_iff.1 hh).1
  have m : Mono w g o w' ⟨g.Q, upd g.loc id lo, upd g.siz id sz⟩ (upd o id ⟨(o id).gen + 1, true, es, []⟩) := by
   refine ⟨fun b hb => ⟨hb, hk b (I.lt b hb)⟩, fun j => ?_⟩
   by_cases hj : j = id
   ·subst hj; left; rw [upd_get, if_pos rfl]; exact Nat.lt_succ_self _
   ·right; simp only [upd_get, if_neg hj]; exact ⟨trivial, trivial, Nat.le_refl _, trivial, trivial⟩
  have hobj : ∀ j, ObjAt w' ⟨g.Q, upd g.loc id lo, upd g.siz id sz⟩ (upd o id ⟨(o id).gen + 1, true, es, []⟩) j := by
   intro j
   by_cases hj : j = id
   ·subst hj
    refine ⟨fun _ => by rw [upd_get, if_pos rfl], fun a ha => ?_⟩
    have ha : lo = some a := by simpa only [upd_get, if_pos] using ha
    obtain ⟨k1, k2, cells, elem, k3, k4, k5⟩ := hlo a ha
    refine ⟨k1, fun _ hQ => by have := I.lt _ hQ; omega, fun hr => ?_, cells, elem, k3, ?_, ?_, ?_⟩
    ·rw [upd_get, if_pos rfl] at hr; cases hr
    ·simp only [upd_get, if_pos]; exact k4
    ·rw [upd_get, if_pos rfl]; simpa using k5
    ·intro i r hr; rw [upd_get, if_pos rfl] at hr; simp at hr
   ·have hold := I.objs j
    have ej : upd o id ⟨(o id).gen + 1, true, es, []⟩ j = o j := by rw [upd_get, if_neg hj]
    have el : upd g.loc id lo j = g.loc j := by rw [upd_get, if_neg hj]
    refine ⟨fun h => by rw [ej]; exact hold.none_ (el ▸ h), fun a ha => ?_⟩
    obtain ⟨k1, k2, k3, c2, e2, k4, k5, k6, k7⟩ := hold.some_ a (el ▸ ha)
    rw [ej]
    refine ⟨k1, k2, k3, c2, e2, (hk _ (Array.getElem?_eq_some_iff.1 k4).1).trans k4, by simp only [upd_get, if_neg hj]; exact k5, k6, fun i r hr => ⟨(k7 i r hr).1, fun q c hc => ((k7 i r hr).2 q c hc).mono m⟩⟩
  have hlocs : ∀ j b, upd g.loc id lo j = some b → (j = id ∧ w.heap.size ≤ b.block) ∨ (j ≠ id ∧ g.loc j = some b) := by
   intro j b hb
   rw [upd_get] at hb
   split at hb
   ·rename_i e; exact .inl ⟨e, (hlo b hb).2.1⟩
   ·rename_i e; exact .inr ⟨e, hb⟩
  have hrw : ∀ j, j ≠ id → (upd o id ⟨(o id).gen + 1, true, es, []⟩ j).rw = (o j).rw := fun j hj => by rw [upd_get, if_neg hj]
  refine ⟨⟨g.Q, upd g.loc id lo, upd g.siz id sz⟩, ?_, m, ?_⟩
  ·exact I.next m hobj (fun i j a b hij hi hj hla hlb => by
     rcases hlocs i a hla with ⟨e1, l1⟩ | ⟨e1, l1⟩
     ·rcases hlocs j b hlb with ⟨e2, l2⟩ | ⟨e2, l2⟩
      ·exact absurd (e1.trans e2.symm) hij
      ·have := hlt j b l2; omega
     ·rcases hlocs j b hlb with ⟨e2, l2⟩ | ⟨e2, l2⟩
      ·have := hlt i a l1; omega
      ·exact I.apart i j a b hij (by rw [← hrw i e1]; exact hi) (by rw [← hrw j e2]; exact hj) l1 l2)
    (fun i a hi hla => by
     rcases hlocs i a hla with ⟨e1, l1⟩ | ⟨e1, l1⟩
     ·left; have := I.size; omega
     ·exact I.mine i a (by rw [← hrw i e1]; exact hi) l1)
    (fun b hb => Nat.lt_of_lt_of_le (I.lt b hb) hs1) I.low hos htp hou hs1 (fun b hb hx => hk b (Nat.lt_of_lt_of_le hb I.size)) none (fun t h => by cases h) (VR.int .i64 0)
  ·refine VC.vr (.ref id _ es 0 0 A c (Nat.zero_le _) hA (by rw [upd_get, if_pos rfl]; exact Nat.le_refl _) fun _ => ⟨by rw [upd_get, if_pos rfl], Nat.zero_le _, fun hc => ?_⟩)
   obtain ⟨a, h1, h2, h3⟩ := hat hc
   exact ⟨a, by simp only [upd_get, if_pos]; exact h1, h2, by simp only [upd_get, if_pos]; exact h3⟩
 refine (h w).mono ?_
 rintro e w' (⟨he, rfl⟩ | ⟨c, cells, elem, he, hc, rfl⟩)
 ·obtain ⟨g', h1, h2, h3⟩ := main w' none 0 none 0 (fun _ _ => rfl) (Nat.le_refl _) rfl rfl rfl (fun a ha => by cases ha) (fun h => by omega) (fun h => by omega)
  exact ⟨_, g', he, h1, h2, h3⟩
 ·obtain ⟨g', h1, h2, h3⟩ := main (w.drew.alloc (.cells cells elem (0, 0))) (some ⟨w.heap.size, 0, none⟩) cells.size (some ⟨w.heap.size, 0, none⟩) c
   (fun b hb => by rw [Sort.alloc_eq_grow, Sort.heap_grow_old _ _ (show b < w.drew.heap.size from hb)]; rfl) (by rw [Sort.alloc_eq_grow, Sort.size_grow]; exact Nat.le_add_right _ _) rfl rfl rfl
   (fun a ha => by
    cases ha
    refine ⟨rfl, Nat.le_refl _, cells, elem, ?_, rfl, Nat.zero_le _⟩
    show (w.heap.push _)[w.heap.size]? = _
    simp)
   (fun _ => ⟨_, rfl, rfl⟩) (fun _ => ⟨⟨w.heap.size, 0, none⟩, rfl, by rw [Nat.zero_mul], by rw [hc, Nat.zero_add, Nat.zero_add]; exact Nat.le_refl _⟩)
  exact ⟨_, g', he, h1, h2, h3⟩
theorem grow_calls {f T es : Nat} {ρ : Go.Shelf.Ren} (L : Go.Proofs.Lays8.n4 pg ρ) (hf : ρ.f 4 = f) (hT : ρ.t 25 = T) (ht : (ttOf pg T).size = es) (hes : 0 < es) (hby : (ttOf pg T).bytes ≤ 100) {n : Int} (h0 : 0 ≤ n) (h1 : n ≤ 1000000000) (w : World) :
  Calls pg f #[.slice none 0 0, .int .i64 n] w fun e w' => (e = .returned (.slice none 0 0) ∧ w' = w) ∨ ∃ (c : Nat) (cells : Array Value) (elem : Nat), e = .returned (.slice (some ⟨w.heap.size, 0, none⟩) 0 c) ∧ cells.size = c * es ∧ w' = w.drew.alloc (.cells cells elem (0, 0)) := by
 obtain ⟨k, rfl⟩ : ∃ k : Nat, n = (k : Int) := ⟨n.toNat, by omega⟩
 subst hf
 by_cases hk : k = 0
 ·subst hk
  exact (Any8.slices_Grow_room L none 0 0 0 w (Nat.le_refl _) (by omega) (by omega) (Nat.le_refl _)).mono fun e w' h => .inl h
 ·obtain ⟨ti, z, i1, i2, i3, i4, i5, _, _⟩ := (tyFact (P := pg) (T := T) (by omega)).info
  have hb : k * ti.bytes ≤ 140737488355328 := by
   rw [i4]
   have : k * (ttOf pg T).bytes ≤ k * 100 := Nat.mul_le_mul_left _ hby
   omega
  refine (Any8.slices_Grow_grow L ti z (by rw [hT]; exact i1) i2 (by omega) none 0 0 k [] w (Nat.le_refl _) (by omega) (by rw [Nat.zero_add]; exact hb) (by omega) (by simp) (fun _ => rfl) (fun a ha => by cases ha)).mono ?_
  rintro e w' ⟨he, hw⟩
  refine .inr ⟨_, _, _, he, ?_, hw⟩
  have hg := grownCap_ge w (0 + k) 0 (ρ.t 25)
  have e1 : z.cells.size = es := by rw [i5, i3, ht]
  simp only [Array.size_append, Builtin.zeroCells, Array.size_map, Array.size_range, e1, List.size_toArray, List.length_nil]
  rw [Nat.zero_add, ← Nat.add_mul]
  congr 1; omega
theorem growS_inl {G : Glob} {o : Nat → Obj} {id : Nat} {n : Int} (h0 : 0 ≤ n) (h1 : n ≤ 1000000000) : InlOK pg G 182 [.nils, .int .i64 n] o (.ref id ((o id).gen + 1) 1 0 0) [(id, ⟨(o id).gen + 1, true, 1, []⟩)] :=
 inl_grow (body := bodyOf Tryz.f182) (by unfold pg; exact Tryz.func182) rfl (by simp [Tryz.f182]) (grow_calls (by unfold pg; exact Tryz.laysGrowS) rfl rfl (by rw [show Tryz.laysGrowS_ren.t 25 = 9 from rfl, tt9] <;> rfl) (by decide) (by rw [show Tryz.laysGrowS_ren.t 25 = 9 from rfl, tt9] <;> decide) h0 h1)
theorem growP_inl {G : Glob} {o : Nat → Obj} {id : Nat} {n : Int} (h0 : 0 ≤ n) (h1 : n ≤ 1000000000) : InlOK pg G 190 [.nils, .int .i64 n] o (.ref id ((o id).gen + 1) 4 0 0) [(id, ⟨(o id).gen + 1, true, 4, []⟩)] :=
 inl_grow (body := bodyOf Tryz.f190) (by unfold pg; exact Tryz.func190) rfl (by simp [Tryz.f190]) (grow_calls (by unfold pg; exact Tryz.laysGrowP) rfl rfl (by rw [show Tryz.laysGrowP_ren.t 25 = 65 from rfl, tt65] <;> rfl) (by decide) (by rw [show Tryz.laysGrowP_ren.t 25 = 65 from rfl, tt65] <;> decide) h0 h1)
end Go.Proofs.YtchpopejojghmaaGreatDoor.M
