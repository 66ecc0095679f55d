/- THE CARD OF laws.FnExactShadowOf: for every input the law returns true, and its arguments read as they did. -/
import Derived.Test.YtchpopejojghmaaGreatDoorR0
import Derived.Test.YtchpopejojghmaaGreatDoorXU
set_option linter.unusedVariables false
namespace Go.Proofs.YtchpopejojghmaaGreatDoor.fnExactShadowOf
open Go Go.Proofs Go.RowKit Go.ChangeShapes Go.WideShapes Go.ChangeAt Go.Proofs.YtchpopejojghmaaGreatDoor.M
theorem k_Sigs : kinds Tryz.prog 5 32 = some [.sl [.sl [.str, .int .i64, .bool, .int .i64]]] := by kernel_rfl
theorem k_Int : kinds Tryz.prog 5 3 = some [.int .i64] := by kernel_rfl
theorem witness_row (os : Os) {H : Type} (enc : TypeId × Value → H) :
  (OpenSpec.ofChange Rows.fnExactShadowOfSpec).preRow enc Tryz.prog Tryz.f5 Rows.fnExactShadowOfRow.domain false Rows.fnExactShadowOfRow.laid ((laidWorld os).forCall (fun _ _ => 0) ⟨#[], #[.slice none 0 0, .int .i64 0], []⟩).memory #[.slice none 0 0, .int .i64 0] := by
 have hw : (DataW.whole enc Tryz.prog ((laidWorld os).forCall (fun _ _ => 0) ⟨#[], #[.slice none 0 0, .int .i64 0], []⟩).memory Tryz.f5.params.toList (OpenSpec.ofChange Rows.fnExactShadowOfSpec).vars false (#[.slice none 0 0, .int .i64 0] : Array Value).toList 8).map (fun x => (x.1, x.2.1)) =
   some ([.nil, .lit (.int .i64 0)], []) := by kernel_rfl
 obtain ⟨⟨x1, x2, x3⟩, hx, hx1⟩ := Option.map_eq_some_iff.1 hw
 simp only [Prod.mk.injEq] at hx1
 obtain ⟨rfl, rfl⟩ := hx1
 exact OpenSpec.preRow_of_cond 8 hx (by kernel_rfl) (fun k hk => by cases hk) (by kernel_rfl) (laid_met os _)
set_option maxRecDepth 100000 in
theorem lifted (os : Os) (started : os.Started) (H : Type) (enc : TypeId × Value → H) (F : Stop.Interp) :
  ReturnsInHanded {} Tryz.checked os 5 .any ((OpenSpec.ofChange Rows.fnExactShadowOfSpec).preRow enc Tryz.prog Tryz.f5 Rows.fnExactShadowOfRow.domain false Rows.fnExactShadowOfRow.laid) (((OpenSpec.ofChange Rows.fnExactShadowOfSpec).at F).post enc Tryz.prog Tryz.f5 false true false false) := by
 refine returnsInHanded_of_row (C := Tryz.checked) (s := OpenSpec.ofChange Rows.fnExactShadowOfSpec) own started (by kernel_rfl) Tryz.func5
  (witness_row_atRef (enc := enc) (C := Tryz.checked) false (laidWorld os) #[.slice none 0 0, .int .i64 0] rfl (by kernel_rfl) (by kernel_rfl) (by kernel_rfl) (witness_row os enc)) ?_
 intro W base args ds gs before hval0 hW _ _ _ hL hsh _
 have hval : ∀ (j : Nat) t v, Tryz.f5.params[j]? = some t → args[j]? = some v → Value.okWide Tryz.prog W .any base t v := hval0
 have hW' := hW
 have hlt : ∀ x ∈ before, x.block < W.heap.size := fun x hx => by simpa using hW'.lt x hx
 obtain ⟨p, q, hA0, hV, rfl, _, _⟩ := hW
 have hA : DataW.TrodAll enc Tryz.prog W 0 (fun _ => true) true Tryz.f5.params.toList args.toList ds p := hA0
 rw [Tryz.params5] at hA hval
 obtain ⟨v0, v1, d0, d1, p0, p1, rfl, rfl, hp, h0, h1⟩ := trodAll_two hA
 obtain ⟨rfl, rfl⟩ := trodVars_none hV
 obtain ⟨_, _, _, rfl⟩ := okWide_slice Tryz.underlying32 (hval 0 32 v0 rfl rfl)
 obtain ⟨x0, hx0, hc0⟩ := open_one k_Sigs rfl h0
 obtain ⟨s0, rfl⟩ := fit_sl fit_Sig hx0
 have hv0 := va_cv hc0
 obtain ⟨_, rfl⟩ := okWide_int Tryz.underlying3 (hval 1 3 v1 rfl rfl)
 obtain ⟨x1, hx1, hc1⟩ := open_one k_Int rfl h1
 obtain ⟨s1, rfl⟩ := fit_int hx1
 have hv1 := va_cv hc1
 refine (walkL (f := 5) (laws_FnExactShadowOf.ok hm_all hz_all libGF (a1 := s0) (a2 := s1)) ?_ rfl ?_).mono fun e W' ⟨he, hg⟩ => ?_
 ·intro a ha
  simp only [List.mem_cons, List.not_mem_nil, or_false] at ha
  rcases ha with rfl | rfl
  ·exact fits_bd hx0
  ·exact fits_bd hx1
 ·intro i c hc
  match i, hc with
  | 0, hc => cases hc; exact hv0
  | 1, hc => cases hc; exact hv1
  | i + 2, hc => cases hc
 subst he
 refine ⟨_, rfl, _, _, _, [], p, [], hW', ?_, ?_, rfl, hg.frame _, fun h => by cases h⟩
 ·exact trodAll_mk1 (shut_bool Tryz.underlying4 _)
 ·subst hp; exact trodAll_mk2 (Below.trod laidOutT (by kernel_rfl) (of_decide_eq_true (by kernel_rfl)) h0 hg fun x hx => hlt x (by simp [hx])) (Below.trod laidOutT (by kernel_rfl) (of_decide_eq_true (by kernel_rfl)) h1 hg fun x hx => hlt x (by simp [hx]))
theorem c_in : Tryz.pinned.checked.prog.inPlace 5 = Rows.fnExactShadowOfRow.inPlace := by kernel_rfl
theorem c_un : Tryz.pinned.checked.prog.unfollowed 5 = Rows.fnExactShadowOfRow.unfollowed := by kernel_rfl
theorem c_re : Tryz.pinned.checked.prog.recurses 5 = Rows.fnExactShadowOfRow.recurses := by kernel_rfl
theorem c_nm : Tryz.pinned.checked.prog.varsNamed 5 = Rows.fnExactShadowOfRow.named := by kernel_rfl
theorem c_fn : Tryz.pinned.checked.prog.funcNamed Rows.fnExactShadowOfRow.func = some 5 := by kernel_rfl
theorem c_all : joinedFacts Tryz.pinned.checked.prog 5 Tryz.f5 (OpenSpec.ofChange Rows.fnExactShadowOfSpec).bare Rows.fnExactShadowOfRow = true := by
 unfold joinedFacts
 rw [c_in, c_un, c_re, c_nm]
 kernel_rfl
theorem c_inst : Tryz.f5.isInstance Tryz.pinned.checked.prog Rows.fnExactShadowOfRow.origin Rows.fnExactShadowOfRow.targs := of_decide_eq_true (by kernel_rfl)
theorem c_wrap : Tryz.f5.isWrapper Tryz.pinned.checked.prog Rows.fnExactShadowOfRow.wrapper Rows.fnExactShadowOfRow.mainSum := by unfold Func.isWrapper; first | (rw [if_pos (by decide +kernel)]; kernel_rfl) | (rw [if_neg (by decide +kernel)]; exact ⟨rfl, rfl⟩)
theorem said : Rows.FnExactShadowOfSaid :=
 OpenClaim.holds_of_cond 5 Tryz.f5 rfl rfl rfl rfl rfl rfl rfl ⟨rfl, rfl, rfl, rfl, rfl⟩ rfl rfl rfl rfl rfl c_fn Tryz.func5 c_all c_inst c_wrap
  (fun os started H enc _ F => by rw [OpenClaim.pre_eq_preRow]; exact lifted os started H enc F)
theorem c_looks : false = Tryz.pinned.checked.prog.looks [] := by kernel_rfl
theorem c_text : Rows.fnExactShadowOfRow.wfByText (OpenSpec.ofChange Rows.fnExactShadowOfSpec) = true := by kernel_rfl
theorem c_main : Tryz.pinned.checked.prog.mainIs = some (true, "58cf28f6ed61721007b4d8fb93fa40732bacea965e45d8a32e28f6f0d8fc411d".toList) := by kernel_rfl
theorem c_goes : false = Rows.fnExactShadowOfRow.goesBy Tryz.pinned.checked.prog := by kernel_rfl
theorem c_stand32 : Tryz.prog.wantsStandIn 32 = false := by kernel_rfl
theorem c_stand3 : Tryz.prog.wantsStandIn 3 = false := by kernel_rfl
theorem plain (f : FuncId) (fn : Func) (hf : Tryz.pinned.checked.prog.funcNamed Rows.fnExactShadowOfRow.func = some f) (hfn : Tryz.pinned.checked.prog.funcs[f]? = some fn) :
  false = Tryz.pinned.checked.prog.looks [] ∧ ∀ (j : Nat) t, fn.params[j]? = some t → Tryz.pinned.checked.prog.wantsStandIn t = false := by
 obtain rfl : f = 5 := Option.some.inj (c_fn.symm.trans hf) |>.symm
 obtain rfl : fn = Tryz.f5 := (Option.some.inj (Tryz.func5.symm.trans hfn)).symm
 refine ⟨c_looks, fun j t ht => ?_⟩
 rw [Tryz.params5] at ht
 match j, ht with
 | 0, ht => cases ht; exact c_stand32
 | 1, ht => cases ht; exact c_stand3
 | j + 2, ht => simp at ht
theorem card : Rows.FnExactShadowOfCardSaid :=
 Claim7.holds_tied_plain_at .later [] _ _ _ _ said (fun _ h => by cases h) c_text (fun _ h => by cases h) fnExactShadowOf_row_tie rfl ⟨rfl, rfl⟩ c_main rfl plain c_goes
#print axioms card
end Go.Proofs.YtchpopejojghmaaGreatDoor.fnExactShadowOf
