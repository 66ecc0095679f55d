/- THE CARD OF laws.FnExactFits: for every input the law returns true, and its arguments read as they did. -/
import Derived.Test.YtchpopejojghmaaGreatDoorR0
import Derived.Test.YtchpopejojghmaaGreatDoorXF
set_option linter.unusedVariables false
namespace Go.Proofs.YtchpopejojghmaaGreatDoor.fnExactFits
open Go Go.Proofs Go.RowKit Go.ChangeShapes Go.WideShapes Go.ChangeAt Go.Proofs.YtchpopejojghmaaGreatDoor.M
theorem k_Sig : kinds Tryz.prog 5 24 = some [.sl [.str, .int .i64, .bool, .int .i64]] := by kernel_rfl
theorem witness_row (os : Os) {H : Type} (enc : TypeId × Value → H) :
  (OpenSpec.ofChange Rows.fnExactFitsSpec).preRow enc Tryz.prog Tryz.f3 Rows.fnExactFitsRow.domain false Rows.fnExactFitsRow.laid ((laidWorld os).forCall (fun _ _ => 0) ⟨#[], #[.agg #[.slice none 0 0], .agg #[.slice none 0 0]], []⟩).memory #[.agg #[.slice none 0 0], .agg #[.slice none 0 0]] := by
 have hw : (DataW.whole enc Tryz.prog ((laidWorld os).forCall (fun _ _ => 0) ⟨#[], #[.agg #[.slice none 0 0], .agg #[.slice none 0 0]], []⟩).memory Tryz.f3.params.toList (OpenSpec.ofChange Rows.fnExactFitsSpec).vars false (#[.agg #[.slice none 0 0], .agg #[.slice none 0 0]] : Array Value).toList 8).map (fun x => (x.1, x.2.1)) =
   some ([.agg [.nil], .agg [.nil]], []) := by kernel_rfl
 obtain ⟨⟨x1, x2, x3⟩, hx, hx1⟩ := Option.map_eq_some_iff.1 hw
 simp only [Prod.mk.injEq] at hx1
 obtain ⟨rfl, rfl⟩ := hx1
 exact OpenSpec.preRow_of_cond 8 hx (by kernel_rfl) (fun k hk => by cases hk) (by kernel_rfl) (laid_met os _)
set_option maxRecDepth 100000 in
theorem lifted (os : Os) (started : os.Started) (H : Type) (enc : TypeId × Value → H) (F : Stop.Interp) :
  ReturnsInHanded {} Tryz.checked os 3 .any ((OpenSpec.ofChange Rows.fnExactFitsSpec).preRow enc Tryz.prog Tryz.f3 Rows.fnExactFitsRow.domain false Rows.fnExactFitsRow.laid) (((OpenSpec.ofChange Rows.fnExactFitsSpec).at F).post enc Tryz.prog Tryz.f3 false true false false) := by
 refine returnsInHanded_of_row (C := Tryz.checked) (s := OpenSpec.ofChange Rows.fnExactFitsSpec) own started (by kernel_rfl) Tryz.func3
  (witness_row_atRef (enc := enc) (C := Tryz.checked) false (laidWorld os) #[.agg #[.slice none 0 0], .agg #[.slice none 0 0]] rfl (by kernel_rfl) (by kernel_rfl) (by kernel_rfl) (witness_row os enc)) ?_
 intro W base args ds gs before hval0 hW _ _ _ hL hsh _
 have hval : ∀ (j : Nat) t v, Tryz.f3.params[j]? = some t → args[j]? = some v → Value.okWide Tryz.prog W .any base t v := hval0
 have hW' := hW
 have hlt : ∀ x ∈ before, x.block < W.heap.size := fun x hx => by simpa using hW'.lt x hx
 obtain ⟨p, q, hA0, hV, rfl, _, _⟩ := hW
 have hA : DataW.TrodAll enc Tryz.prog W 0 (fun _ => true) true Tryz.f3.params.toList args.toList ds p := hA0
 rw [Tryz.params3] at hA hval
 obtain ⟨v0, v1, d0, d1, p0, p1, rfl, rfl, hp, h0, h1⟩ := trodAll_two hA
 obtain ⟨rfl, rfl⟩ := trodVars_none hV
 obtain ⟨x0, hx0, hv0⟩ := open_agg Tryz.underlying24 k_Sig (hval 0 24 v0 rfl rfl) h0
 obtain ⟨s0, rfl⟩ := fit_Sig _ hx0
 obtain ⟨x1, hx1, hv1⟩ := open_agg Tryz.underlying24 k_Sig (hval 1 24 v1 rfl rfl) h1
 obtain ⟨s1, rfl⟩ := fit_Sig _ hx1
 refine (walkL (f := 3) (laws_FnExactFits.ok hm_all hz_all libGF (a1 := s0.params) (a2 := s1.params)) ?_ rfl ?_).mono fun e W' ⟨he, hg⟩ => ?_
 ·intro a ha
  simp only [List.mem_cons, List.not_mem_nil, or_false] at ha
  rcases ha with rfl | rfl
  ·exact bd_agg hx0
  ·exact bd_agg hx1
 ·intro i c hc
  match i, hc with
  | 0, hc => cases hc; exact hv0
  | 1, hc => cases hc; exact hv1
  | i + 2, hc => cases hc
 subst he
 refine ⟨_, rfl, _, _, _, [], p, [], hW', ?_, ?_, rfl, hg.frame _, fun h => by cases h⟩
 ·exact trodAll_mk1 (shut_bool Tryz.underlying4 _)
 ·subst hp; exact trodAll_mk2 (Below.trod laidOutT (by kernel_rfl) (of_decide_eq_true (by kernel_rfl)) h0 hg fun x hx => hlt x (by simp [hx])) (Below.trod laidOutT (by kernel_rfl) (of_decide_eq_true (by kernel_rfl)) h1 hg fun x hx => hlt x (by simp [hx]))
theorem c_in : Tryz.pinned.checked.prog.inPlace 3 = Rows.fnExactFitsRow.inPlace := by kernel_rfl
theorem c_un : Tryz.pinned.checked.prog.unfollowed 3 = Rows.fnExactFitsRow.unfollowed := by kernel_rfl
theorem c_re : Tryz.pinned.checked.prog.recurses 3 = Rows.fnExactFitsRow.recurses := by kernel_rfl
theorem c_nm : Tryz.pinned.checked.prog.varsNamed 3 = Rows.fnExactFitsRow.named := by kernel_rfl
theorem c_fn : Tryz.pinned.checked.prog.funcNamed Rows.fnExactFitsRow.func = some 3 := by kernel_rfl
theorem c_all : joinedFacts Tryz.pinned.checked.prog 3 Tryz.f3 (OpenSpec.ofChange Rows.fnExactFitsSpec).bare Rows.fnExactFitsRow = true := by
 unfold joinedFacts
 rw [c_in, c_un, c_re, c_nm]
 kernel_rfl
theorem c_inst : Tryz.f3.isInstance Tryz.pinned.checked.prog Rows.fnExactFitsRow.origin Rows.fnExactFitsRow.targs := of_decide_eq_true (by kernel_rfl)
theorem c_wrap : Tryz.f3.isWrapper Tryz.pinned.checked.prog Rows.fnExactFitsRow.wrapper Rows.fnExactFitsRow.mainSum := by unfold Func.isWrapper; first | (rw [if_pos (by decide +kernel)]; kernel_rfl) | (rw [if_neg (by decide +kernel)]; exact ⟨rfl, rfl⟩)
theorem said : Rows.FnExactFitsSaid :=
 OpenClaim.holds_of_cond 3 Tryz.f3 rfl rfl rfl rfl rfl rfl rfl ⟨rfl, rfl, rfl, rfl, rfl⟩ rfl rfl rfl rfl rfl c_fn Tryz.func3 c_all c_inst c_wrap
  (fun os started H enc _ F => by rw [OpenClaim.pre_eq_preRow]; exact lifted os started H enc F)
theorem c_looks : false = Tryz.pinned.checked.prog.looks [] := by kernel_rfl
theorem c_text : Rows.fnExactFitsRow.wfByText (OpenSpec.ofChange Rows.fnExactFitsSpec) = true := by kernel_rfl
theorem c_main : Tryz.pinned.checked.prog.mainIs = some (true, "58cf28f6ed61721007b4d8fb93fa40732bacea965e45d8a32e28f6f0d8fc411d".toList) := by kernel_rfl
theorem c_goes : false = Rows.fnExactFitsRow.goesBy Tryz.pinned.checked.prog := by kernel_rfl
theorem c_stand24 : Tryz.prog.wantsStandIn 24 = false := by kernel_rfl
theorem plain (f : FuncId) (fn : Func) (hf : Tryz.pinned.checked.prog.funcNamed Rows.fnExactFitsRow.func = some f) (hfn : Tryz.pinned.checked.prog.funcs[f]? = some fn) :
  false = Tryz.pinned.checked.prog.looks [] ∧ ∀ (j : Nat) t, fn.params[j]? = some t → Tryz.pinned.checked.prog.wantsStandIn t = false := by
 obtain rfl : f = 3 := Option.some.inj (c_fn.symm.trans hf) |>.symm
 obtain rfl : fn = Tryz.f3 := (Option.some.inj (Tryz.func3.symm.trans hfn)).symm
 refine ⟨c_looks, fun j t ht => ?_⟩
 rw [Tryz.params3] at ht
 match j, ht with
 | 0, ht => cases ht; exact c_stand24
 | 1, ht => cases ht; exact c_stand24
 | j + 2, ht => simp at ht
theorem card : Rows.FnExactFitsCardSaid :=
 Claim7.holds_tied_plain_at .later [] _ _ _ _ said (fun _ h => by cases h) c_text (fun _ h => by cases h) fnExactFits_row_tie rfl ⟨rfl, rfl⟩ c_main rfl plain c_goes
#print axioms card
end Go.Proofs.YtchpopejojghmaaGreatDoor.fnExactFits
