/- THE SECOND FORM's CARD OF laws.FnTopCall. -/
import Derived.Test.YtoofegkjdjlpkaaGreatDoorR1
set_option linter.unusedVariables false
namespace Go.Proofs.YtoofegkjdjlpkaaGreatDoor.topCall
open Go Go.Proofs Go.RowKit Go.ChangeShapes Go.WideShapes Go.ChangeAt Go.Proofs.YtoofegkjdjlpkaaGreatDoor.M
open Go.ChangeMaps (open_string shut_string)

theorem witness_row (os : Os) {H : Type} (enc : TypeId × Value → H) :
    (Rows.OpenSpec.upto Rows.fnTopCallSpec).preRow enc Tryz.prog Tryz.f3 Rows.fnTopCallUptoRow.domain false Rows.fnTopCallUptoRow.laid ((laidWorld os).forCall (fun _ _ => 0) ⟨#[], #[.string ⟨#[]⟩], []⟩).memory #[.string ⟨#[]⟩] := by
  have hw : (DataW.whole enc Tryz.prog ((laidWorld os).forCall (fun _ _ => 0) ⟨#[], #[.string ⟨#[]⟩], []⟩).memory Tryz.f3.params.toList (Rows.OpenSpec.upto Rows.fnTopCallSpec).vars false #[Value.string ⟨#[]⟩].toList 8).map (fun x => (x.1, x.2.1)) =
      some ([.lit (.string [])], []) := by kernel_rfl
  obtain ⟨⟨x1, x2, x3⟩, hx, hx1⟩ := Option.map_eq_some_iff.1 hw
  simp only [Prod.mk.injEq] at hx1
  obtain ⟨rfl, rfl⟩ := hx1
  exact OpenSpec.preRow_of_cond 8 hx (by kernel_rfl) (fun k hk => by cases hk; kernel_rfl) (by kernel_rfl) (laid_met os _)

set_option maxRecDepth 100000 in
theorem lifted (os : Os) (started : os.Started) (H : Type) (enc : TypeId × Value → H) (F : Stop.Interp) :
    ReturnsInHanded {} Tryz.checked os 3 .any ((Rows.OpenSpec.upto Rows.fnTopCallSpec).preRow enc Tryz.prog Tryz.f3 Rows.fnTopCallUptoRow.domain false Rows.fnTopCallUptoRow.laid) (((Rows.OpenSpec.upto Rows.fnTopCallSpec).at F).post enc Tryz.prog Tryz.f3 false true false false) := by
  refine returnsInHanded_of_row (C := Tryz.checked) (s := Rows.OpenSpec.upto Rows.fnTopCallSpec) own started (by kernel_rfl) Tryz.func3
    (witness_row_atRef (enc := enc) (C := Tryz.checked) false (laidWorld os) #[.string ⟨#[]⟩] rfl (by kernel_rfl) (by kernel_rfl) (by kernel_rfl) (witness_row os enc)) ?_
  intro W base args ds gs before hval0 hW _ hcond0 _ hL hsh _
  have hcond : Rows.uptoSmall H (ds ++ gs) = true := hcond0 _ rfl
  have hval : ∀ (j : Nat) t v, Tryz.f3.params[j]? = some t → args[j]? = some v → Value.okWide Tryz.prog W .any base t v := hval0
  have hW' := hW
  have h8 : 8 ≤ W.heap.size := heap8 hsh
  obtain ⟨p, q, hA0, hV, rfl, _, _⟩ := hW
  have hA : DataW.TrodAll enc Tryz.prog W 0 (fun _ => true) true Tryz.f3.params.toList args.toList ds p := hA0
  rw [Tryz.params3] at hA hval
  obtain ⟨v0, d0, rfl, rfl, h0⟩ := trodAll_one hA
  obtain ⟨rfl, rfl⟩ := trodVars_none hV
  obtain ⟨s, rfl, rfl, rfl, hs⟩ := open_string Tryz.underlying9 (hval 0 9 v0 rfl rfl) h0
  clear hA0 hval0
  simp only [List.append_nil] at hW' hcond
  obtain ⟨⟨l⟩⟩ := s
  have hl : l.length ≤ 1048576 := by
    simp [Rows.uptoSmall, Rows.uptoBulkAll, Rows.uptoBulk] at hcond
    omega
  refine (walk1 (f := 3) (laws_FnTopCall.ok hm_all hz_all libGF hl) hl h8 (libAt_of hsh hL)).mono fun e W' ⟨he, hg⟩ => ?_
  subst he
  refine ⟨_, rfl, _, _, _, [], [], [], hW', ?_, ?_, rfl, hg.frame _, fun h => by cases h⟩
  · exact trodAll_mk1 (shut_bool Tryz.underlying4 _)
  · exact trodAll_mk1 (shut_string Tryz.underlying9 hs)

/-! The closed facts, each by itself: each asks the kernel some 3 GB. -/
theorem c_in : Tryz.pinned.checked.prog.inPlace 3 = Rows.fnTopCallUptoRow.inPlace := by kernel_rfl
theorem c_un : Tryz.pinned.checked.prog.unfollowed 3 = Rows.fnTopCallUptoRow.unfollowed := by kernel_rfl
theorem c_re : Tryz.pinned.checked.prog.recurses 3 = Rows.fnTopCallUptoRow.recurses := by kernel_rfl
theorem c_nm : Tryz.pinned.checked.prog.varsNamed 3 = Rows.fnTopCallUptoRow.named := by kernel_rfl
theorem c_fn : Tryz.pinned.checked.prog.funcNamed Rows.fnTopCallUptoRow.func = some 3 := by kernel_rfl
theorem c_all : joinedFacts Tryz.pinned.checked.prog 3 Tryz.f3 (Rows.OpenSpec.upto Rows.fnTopCallSpec).bare Rows.fnTopCallUptoRow = true := by
  unfold joinedFacts
  rw [c_in, c_un, c_re, c_nm]
  kernel_rfl
theorem c_inst : Tryz.f3.isInstance Tryz.pinned.checked.prog Rows.fnTopCallUptoRow.origin Rows.fnTopCallUptoRow.targs := of_decide_eq_true (by kernel_rfl)
theorem c_wrap : Tryz.f3.isWrapper Tryz.pinned.checked.prog Rows.fnTopCallUptoRow.wrapper Rows.fnTopCallUptoRow.mainSum := by unfold Func.isWrapper; first | (rw [if_pos (by decide +kernel)]; kernel_rfl) | (rw [if_neg (by decide +kernel)]; exact ⟨rfl, rfl⟩)
theorem saidUpto : Rows.FnTopCallUptoSaid :=
  OpenClaim.holds_of_cond 3 Tryz.f3 rfl rfl rfl rfl rfl rfl rfl ⟨rfl, rfl, rfl, rfl, rfl⟩ rfl rfl rfl rfl rfl c_fn Tryz.func3 c_all c_inst c_wrap
    (fun os started H enc _ F => by rw [OpenClaim.pre_eq_preRow]; exact lifted os started H enc F)

theorem c_looks : true = Tryz.pinned.checked.prog.looks [] := by kernel_rfl
theorem c_stand : Tryz.prog.wantsStandIn 9 = false := by kernel_rfl
theorem c_text : Rows.fnTopCallUptoRow.wfByText (Rows.OpenSpec.upto Rows.fnTopCallSpec) = true := by kernel_rfl
theorem c_main : Tryz.pinned.checked.prog.mainIs = some (true, "6af407fc56b56d24dafd4bef92b6c41c39bb5ba1700148006ccefa22d4aecaeb".toList) := by kernel_rfl
theorem c_goes : false = Rows.fnTopCallUptoRow.goesBy Tryz.pinned.checked.prog := by kernel_rfl
theorem plain (f : FuncId) (fn : Func) (hf : Tryz.pinned.checked.prog.funcNamed Rows.fnTopCallUptoRow.func = some f) (hfn : Tryz.pinned.checked.prog.funcs[f]? = some fn) :
    true = Tryz.pinned.checked.prog.looks [] ∧ ∀ (j : Nat) t, fn.params[j]? = some t → Tryz.pinned.checked.prog.wantsStandIn t = false := by
  obtain rfl : f = 3 := Option.some.inj (c_fn.symm.trans hf) |>.symm
  obtain rfl : fn = Tryz.f3 := (Option.some.inj (Tryz.func3.symm.trans hfn)).symm
  refine ⟨c_looks, fun j t ht => ?_⟩
  rw [Tryz.params3] at ht
  obtain rfl : t = 9 := by simpa using Array.mem_of_getElem? ht
  exact c_stand

theorem cardUpto : Rows.FnTopCallUptoCardSaid :=
  Claim7.holds_tied_plain_at .later [] _ _ _ _ saidUpto (fun _ h => by cases h) c_text (fun _ h => by cases h) fnTopCallUpto_row_tie rfl ⟨rfl, rfl⟩ c_main rfl plain c_goes

#print axioms cardUpto
end Go.Proofs.YtoofegkjdjlpkaaGreatDoor.topCall
