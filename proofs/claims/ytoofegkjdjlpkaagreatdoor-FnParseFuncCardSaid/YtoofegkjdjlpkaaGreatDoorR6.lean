/- THE CARD OF laws.FnParseFunc: for every slice of bytes the law returns true, and the slice reads as it did. -/
import Derived.Test.YtoofegkjdjlpkaaGreatDoorR1
import Derived.Test.YtoofegkjdjlpkaaGreatDoorV7
import Derived.Test.YtoofegkjdjlpkaaGreatDoorRB
import Derived.Carry
set_option linter.unusedVariables false
namespace Go.Proofs.YtoofegkjdjlpkaaGreatDoor.fnParseFunc
open Go Go.Proofs Go.RowKit Go.ChangeShapes Go.WideShapes Go.ChangeAt Go.Proofs.YtoofegkjdjlpkaaGreatDoor.M
theorem witness_row (os : Os) {H : Type} (enc : TypeId × Value → H) :
    (OpenSpec.ofChange Rows.fnParseFuncSpec).preRow enc Tryz.prog Tryz.f11 Rows.fnParseFuncRow.domain false Rows.fnParseFuncRow.laid ((laidWorld os).forCall (fun _ _ => 0) ⟨#[], #[.slice none 0 0], []⟩).memory #[.slice none 0 0] := by
  have hw : (DataW.whole enc Tryz.prog ((laidWorld os).forCall (fun _ _ => 0) ⟨#[], #[.slice none 0 0], []⟩).memory Tryz.f11.params.toList (OpenSpec.ofChange Rows.fnParseFuncSpec).vars false #[Value.slice none 0 0].toList 8).map (fun x => (x.1, x.2.1)) =
      some ([.nil], []) := by kernel_rfl
  obtain ⟨⟨x1, x2, x3⟩, hx, hx1⟩ := Option.map_eq_some_iff.1 hw
  simp only [Prod.mk.injEq] at hx1
  obtain ⟨rfl, rfl⟩ := hx1
  exact OpenSpec.preRow_of_cond 8 hx (by kernel_rfl) (fun k hk => by cases hk) (by kernel_rfl) (laid_met os _)
set_option maxRecDepth 100000 in
theorem lifted (os : Os) (started : os.Started) (H : Type) (enc : TypeId × Value → H) (F : Stop.Interp) :
    ReturnsInHanded {} Tryz.checked os 11 .any ((OpenSpec.ofChange Rows.fnParseFuncSpec).preRow enc Tryz.prog Tryz.f11 Rows.fnParseFuncRow.domain false Rows.fnParseFuncRow.laid) (((OpenSpec.ofChange Rows.fnParseFuncSpec).at F).post enc Tryz.prog Tryz.f11 false true false false) := by
  refine returnsInHanded_of_row (C := Tryz.checked) (s := OpenSpec.ofChange Rows.fnParseFuncSpec) own started (by kernel_rfl) Tryz.func11
    (witness_row_atRef (enc := enc) (C := Tryz.checked) false (laidWorld os) #[.slice none 0 0] rfl (by kernel_rfl) (by kernel_rfl) (by kernel_rfl) (witness_row os enc)) ?_
  intro W base args ds gs before hval0 hW _ _ _ hL hsh _
  have hval : ∀ (j : Nat) t v, Tryz.f11.params[j]? = some t → args[j]? = some v → Value.okWide Tryz.prog W .any base t v := hval0
  have hW' := hW
  have h8 : 8 ≤ W.heap.size := heap8 hsh
  have hlt : ∀ x ∈ before, x.block < W.heap.size := fun x hx => by simpa using hW'.lt x hx
  obtain ⟨p, q, hA0, hV, rfl, _, _⟩ := hW
  have hA : DataW.TrodAll enc Tryz.prog W 0 (fun _ => true) true Tryz.f11.params.toList args.toList ds p := hA0
  rw [Tryz.params11] at hA hval
  obtain ⟨v0, d0, rfl, rfl, h0⟩ := trodAll_one hA
  obtain ⟨rfl, rfl⟩ := trodVars_none hV
  obtain ⟨l, hl1, hl2, hcv⟩ := open_bytes (hval 0 32 v0 rfl rfl) h0
  refine (walkB (f := 11) (laws_FnParseFunc.ok hm_all hz_all libGF hl1) hl2 hcv h8 (libAt_of hsh hL)).mono fun e W' ⟨he, hg⟩ => ?_
  subst he
  refine ⟨_, rfl, _, _, _, [], p, [], hW', ?_, ?_, rfl, hg.frame _, fun h => by cases h⟩
  · exact trodAll_mk1 (shut_bool Tryz.underlying4 _)
  · exact trodAll_mk1 (Below.trod laidOutT (by kernel_rfl) (of_decide_eq_true (by kernel_rfl)) h0 hg fun x hx => hlt x (List.mem_append_left _ hx))
theorem c_in : Tryz.pinned.checked.prog.inPlace 11 = Rows.fnParseFuncRow.inPlace := by kernel_rfl
theorem c_un : Tryz.pinned.checked.prog.unfollowed 11 = Rows.fnParseFuncRow.unfollowed := by kernel_rfl
theorem c_re : Tryz.pinned.checked.prog.recurses 11 = Rows.fnParseFuncRow.recurses := by kernel_rfl
theorem c_nm : Tryz.pinned.checked.prog.varsNamed 11 = Rows.fnParseFuncRow.named := by kernel_rfl
theorem c_fn : Tryz.pinned.checked.prog.funcNamed Rows.fnParseFuncRow.func = some 11 := by kernel_rfl
theorem c_all : joinedFacts Tryz.pinned.checked.prog 11 Tryz.f11 (OpenSpec.ofChange Rows.fnParseFuncSpec).bare Rows.fnParseFuncRow = true := by
  unfold joinedFacts
  rw [c_in, c_un, c_re, c_nm]
  kernel_rfl
theorem c_inst : Tryz.f11.isInstance Tryz.pinned.checked.prog Rows.fnParseFuncRow.origin Rows.fnParseFuncRow.targs := of_decide_eq_true (by kernel_rfl)
theorem c_wrap : Tryz.f11.isWrapper Tryz.pinned.checked.prog Rows.fnParseFuncRow.wrapper Rows.fnParseFuncRow.mainSum := by unfold Func.isWrapper; first | (rw [if_pos (by decide +kernel)]; kernel_rfl) | (rw [if_neg (by decide +kernel)]; exact ⟨rfl, rfl⟩)
theorem said : Rows.FnParseFuncSaid :=
  OpenClaim.holds_of_cond 11 Tryz.f11 rfl rfl rfl rfl rfl rfl rfl ⟨rfl, rfl, rfl, rfl, rfl⟩ rfl rfl rfl rfl rfl c_fn Tryz.func11 c_all c_inst c_wrap
    (fun os started H enc _ F => by rw [OpenClaim.pre_eq_preRow]; exact lifted os started H enc F)
theorem c_looks : true = Tryz.pinned.checked.prog.looks [] := by kernel_rfl
theorem c_stand : Tryz.prog.wantsStandIn 32 = false := by kernel_rfl
theorem c_text : Rows.fnParseFuncRow.wfByText (OpenSpec.ofChange Rows.fnParseFuncSpec) = true := by kernel_rfl
theorem c_main : Tryz.pinned.checked.prog.mainIs = some (true, "6af407fc56b56d24dafd4bef92b6c41c39bb5ba1700148006ccefa22d4aecaeb".toList) := by kernel_rfl
theorem c_goes : false = Rows.fnParseFuncRow.goesBy Tryz.pinned.checked.prog := by kernel_rfl
theorem plain (f : FuncId) (fn : Func) (hf : Tryz.pinned.checked.prog.funcNamed Rows.fnParseFuncRow.func = some f) (hfn : Tryz.pinned.checked.prog.funcs[f]? = some fn) :
    true = Tryz.pinned.checked.prog.looks [] ∧ ∀ (j : Nat) t, fn.params[j]? = some t → Tryz.pinned.checked.prog.wantsStandIn t = false := by
  obtain rfl : f = 11 := Option.some.inj (c_fn.symm.trans hf) |>.symm
  obtain rfl : fn = Tryz.f11 := (Option.some.inj (Tryz.func11.symm.trans hfn)).symm
  refine ⟨c_looks, fun j t ht => ?_⟩
  rw [Tryz.params11] at ht
  obtain rfl : t = 32 := by simpa using Array.mem_of_getElem? ht
  exact c_stand
theorem card : Rows.FnParseFuncCardSaid :=
  Claim7.holds_tied_plain_at .later [] _ _ _ _ said (fun _ h => by cases h) c_text (fun _ h => by cases h) fnParseFunc_row_tie rfl ⟨rfl, rfl⟩ c_main rfl plain c_goes
#print axioms card
end Go.Proofs.YtoofegkjdjlpkaaGreatDoor.fnParseFunc
