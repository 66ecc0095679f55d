/- What the row's list gives of a slice of bytes; a law over one, called. -/
import Derived.Test.YtoofegkjdjlpkaaGreatDoorR1
import Derived.Test.YtoofegkjdjlpkaaGreatDoorO1
import Derived.Test.YtoofegkjdjlpkaaGreatDoorQ1
set_option linter.unusedVariables false
namespace Go.Proofs.YtoofegkjdjlpkaaGreatDoor.M
open Go Go.Proofs Go.RowKit Go.ChangeShapes Go.WideShapes Go.ChangeAt
theorem laidOutT : laidOutB Tryz.prog = true := by kernel_rfl
theorem cel5 : Tryz.prog.cellsOf 5 = 1 := by kernel_rfl
theorem kinds_bytes {P : Program} (h32 : P.underlying 32 = some (.slice 5)) (h5 : P.underlying 5 = some (.int .u8)) (hc : P.cellsOf 5 = 1) : kinds P 3 32 = some [.sl [.int .u8]] := by
  have k5 : kinds P 2 5 = some [.int .u8] := by simp only [kinds, h5]
  rw [kinds, h32]
  simp only [k5, hc, Option.bind_some, List.length_cons, List.length_nil]
  rfl
theorem kindsB : kinds Tryz.prog 3 32 = some [.sl [.int .u8]] := kinds_bytes Tryz.underlying32 Tryz.underlying5 cel5
set_option maxRecDepth 100000 in
theorem open_bytes {H : Type} {enc : TypeId × Value → H} {W : World} {base : Nat} {v : Value} {d : DataW H} {ps : List MemPlace} (hval : Value.okWide Tryz.prog W .any base 32 v) (h : DataW.Trod enc Tryz.prog W 0 (fun _ => true) true 32 v d ps) :
    ∃ l : List Int, bytesOK l ∧ l.length ≤ maxLen ∧ CV W (fun b => b < W.heap.size) (.sl (l.map eIu8)) v := by
  obtain ⟨a1, len, cap, rfl⟩ := okWide_slice Tryz.underlying32 hval
  obtain ⟨fuel, hf⟩ := h
  obtain ⟨xs, hx⟩ := open_gen 3 32 _ kindsB fuel _ _ hf
  obtain ⟨h1, h2⟩ := hx.len
  obtain ⟨c, rfl⟩ : ∃ c, xs = [c] := by
    match xs, h2 with
    | [c], _ => exact ⟨c, rfl⟩
  have hfit := hx.fits 0 _ _ rfl rfl
  have hcv := hx.cv 0 _ _ rfl rfl
  cases hfit with
  | sl row xss hm hl hr =>
    have hrow : ∀ r ∈ xss, ∃ n : Int, r = eIu8 n ∧ 0 ≤ n ∧ n ≤ 255 := by
      intro r hr'
      have hlen := hl r hr'
      match r, hlen with
      | [c], _ =>
        have := hr _ hr' 0 _ c rfl rfl
        cases this with
        | int k n hw =>
          have hw : (0 : Int) ≤ n ∧ n ≤ 255 := by
            have h1 : IntKind.u8.min ≤ n ∧ n ≤ IntKind.u8.max := by simpa [Lit.wf] using hw
            have e1 : IntKind.u8.min = 0 := by decide
            have e2 : IntKind.u8.max = 255 := by decide
            rw [e1, e2] at h1; exact h1
          exact ⟨n, rfl, hw.1, hw.2⟩
    have : ∀ xss : List (List C), (∀ r ∈ xss, ∃ n : Int, r = eIu8 n ∧ 0 ≤ n ∧ n ≤ 255) → ∃ l : List Int, bytesOK l ∧ xss = l.map eIu8 := by
      intro xss
      induction xss with
      | nil => intro _; exact ⟨[], (fun b hb => absurd hb List.not_mem_nil), rfl⟩
      | cons r rs ih =>
        intro h
        obtain ⟨l, h1, h2⟩ := ih fun r' hr' => h r' (by simp [hr'])
        obtain ⟨n, h3, h4⟩ := h r (by simp)
        refine ⟨n :: l, fun b hb => ?_, by rw [h2, h3]; rfl⟩
        rcases List.mem_cons.1 hb with rfl | hb
        · exact h4
        · exact h1 b hb
    obtain ⟨l, h3, h4⟩ := this xss hrow
    subst h4
    exact ⟨l, h3, by simpa using hm, hcv⟩
theorem walkB {f : Nat} {l : List Int} (h : FnOK pg libG f [.sl (l.map eIu8)] [] (.bool true) [] false) (hl : l.length ≤ maxLen) {W : World} {v0 : Value} (hv : CV W (fun b => b < W.heap.size) (.sl (l.map eIu8)) v0) (h8 : 8 ≤ W.heap.size) (hA : libAt W) :
    Calls Tryz.prog f #[v0] W fun e w' => e = .returned (.bool true) ∧ Below W.heap.size W w' := by
  have hb : ∀ a ∈ [C.sl (l.map eIu8)], Bd a := fun a ha => by
    obtain rfl := List.mem_singleton.1 ha
    refine .sl _ ?_ fun r hr c hc => ?_
    · rw [List.length_map]; exact Nat.le_trans hl (by decide)
    · obtain ⟨x, _, rfl⟩ := List.mem_map.1 hr
      obtain rfl := List.mem_singleton.1 hc
      exact .int _ _
  have hx : ∀ x ∈ ([] : List Obj), BdR x.rows := fun x hx => by cases hx
  have e0 : ∀ id, (extO [] id).rw = false := fun id => rfl
  let g1 : Gh := ⟨fun b => b < W.heap.size, fun _ => none, fun _ => 0⟩
  have := (h.ok hb hx).2 W g1 #[v0] ⟨fun b hb => ⟨Nat.lt_of_lt_of_le hb h8, fun id a hr => by rw [e0] at hr; cases hr⟩, hA⟩ (fun b hb => hb) (fun id => ⟨fun _ => rfl, fun a ha => by cases ha⟩)
    ⟨fun i j a b _ hr => by rw [e0] at hr; cases hr⟩ rfl (fun i c hc => by
      match i, hc with
      | 0, hc =>
        cases hc
        exact .closed hv
      | i + 1, hc => cases hc)
  unfold pg at this
  refine this.mono ?_
  rintro e w' ⟨v, he, L⟩
  obtain ⟨g', _, _, _, _, hv, _⟩ := L.res
  have ev : v = .bool true := by
    cases hv with
    | closed h => cases h; rfl
  subst ev
  exact ⟨he, L.os, L.tape, L.output, L.size, fun k hk => L.keep k hk fun id a hr => by rw [e0] at hr; cases hr⟩
end Go.Proofs.YtoofegkjdjlpkaaGreatDoor.M
