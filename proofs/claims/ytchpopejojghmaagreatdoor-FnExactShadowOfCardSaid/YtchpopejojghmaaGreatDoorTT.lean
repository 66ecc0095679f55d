/- The facts of this translation's types. -/
import Derived.Test.YtchpopejojghmaaGreatDoorE11
import Derived.Test.YtchpopejojghmaaGreatDoorChecked
set_option linter.unusedVariables false
set_option linter.unusedSimpArgs false
namespace Go.Proofs.YtchpopejojghmaaGreatDoor.M
open Go Go.Proofs
@[irreducible] noncomputable def pg : Program := Tryz.prog
def bodyOf (f : Func) : Code := f.body.getD .skip
theorem kd3 : kdOf Tryz.prog 3 = some (.int .i64) := by simp [kdOf, Tryz.underlying3]
theorem ce3 : Tryz.prog.cellsOf 3 = 1 := cells_of Tryz.type3
theorem kd4 : kdOf Tryz.prog 4 = some (.bool) := by simp [kdOf, Tryz.underlying4]
theorem ce4 : Tryz.prog.cellsOf 4 = 1 := cells_of Tryz.type4
theorem kd9 : kdOf Tryz.prog 9 = some (.str) := by simp [kdOf, Tryz.underlying9]
theorem ce9 : Tryz.prog.cellsOf 9 = 1 := cells_of Tryz.type9
noncomputable def ty3 : Nat × TyI := (3, ⟨1, 8, .int .i64, [.int .i64 0], 0, [], []⟩)
theorem tt3 : ttOf pg 3 = ty3.2 := by unfold pg; exact (tt_int Tryz.type3 rfl rfl rfl Tryz.underlying3 : ttOf Tryz.prog 3 = ⟨1, 8, .int .i64, [.int .i64 0], 0, [], []⟩)
noncomputable def ty4 : Nat × TyI := (4, ⟨1, 1, .bool, [.bool false], 0, [], []⟩)
theorem tt4 : ttOf pg 4 = ty4.2 := by unfold pg; exact (tt_bool Tryz.type4 rfl rfl rfl Tryz.underlying4 : ttOf Tryz.prog 4 = ⟨1, 1, .bool, [.bool false], 0, [], []⟩)
noncomputable def ty5 : Nat × TyI := (5, ⟨1, 1, .int .u8, [.int .u8 0], 0, [], []⟩)
theorem tt5 : ttOf pg 5 = ty5.2 := by unfold pg; exact (tt_int Tryz.type5 rfl rfl rfl Tryz.underlying5 : ttOf Tryz.prog 5 = ⟨1, 1, .int .u8, [.int .u8 0], 0, [], []⟩)
noncomputable def ty9 : Nat × TyI := (9, ⟨1, 16, .str, [.str ⟨#[]⟩], 0, [], []⟩)
theorem tt9 : ttOf pg 9 = ty9.2 := by unfold pg; exact (tt_string Tryz.type9 rfl rfl rfl Tryz.underlying9 : ttOf Tryz.prog 9 = ⟨1, 16, .str, [.str ⟨#[]⟩], 0, [], []⟩)
noncomputable def ty21 : Nat × TyI := (21, ⟨1, 4, .int .i32, [.int .i32 0], 0, [], []⟩)
theorem tt21 : ttOf pg 21 = ty21.2 := by unfold pg; exact (tt_int Tryz.type21 rfl rfl rfl Tryz.underlying21 : ttOf Tryz.prog 21 = ⟨1, 4, .int .i32, [.int .i32 0], 0, [], []⟩)
noncomputable def ty22 : Nat × TyI := (22, ⟨1, 24, .slice, [.nils], 125, [], []⟩)
theorem tt22 : ttOf pg 22 = ty22.2 := by unfold pg; exact (tt_slice Tryz.type22 rfl rfl rfl Tryz.underlying22 : ttOf Tryz.prog 22 = ⟨1, 24, .slice, [.nils], 125, [], []⟩)
noncomputable def ty24 : Nat × TyI := (24, ⟨1, 24, .struct, [.nils], 0, [(0, 22)], []⟩)
theorem tt24 : ttOf pg 24 = ty24.2 := by unfold pg; exact ((tt_struct Tryz.type24 rfl rfl Tryz.underlying24).trans (by rw [eqKinds_none]; (rfl); exact ⟨_, List.mem_of_getElem? (i := 0) rfl, kd_slice Tryz.underlying22⟩) : ttOf Tryz.prog 24 = ⟨1, 24, .struct, [.nils], 0, [(0, 22)], []⟩)
noncomputable def ty27 : Nat × TyI := (27, ⟨1, 24, .slice, [.nils], 65, [], []⟩)
theorem tt27 : ttOf pg 27 = ty27.2 := by unfold pg; exact (tt_slice Tryz.type27 rfl rfl rfl Tryz.underlying27 : ttOf Tryz.prog 27 = ⟨1, 24, .slice, [.nils], 65, [], []⟩)
noncomputable def ty29 : Nat × TyI := (29, ⟨1, 24, .struct, [.nils], 0, [(0, 27)], []⟩)
theorem tt29 : ttOf pg 29 = ty29.2 := by unfold pg; exact ((tt_struct Tryz.type29 rfl rfl Tryz.underlying29).trans (by rw [eqKinds_none]; (rfl); exact ⟨_, List.mem_of_getElem? (i := 0) rfl, kd_slice Tryz.underlying27⟩) : ttOf Tryz.prog 29 = ⟨1, 24, .struct, [.nils], 0, [(0, 27)], []⟩)
noncomputable def ty32 : Nat × TyI := (32, ⟨1, 24, .slice, [.nils], 24, [], []⟩)
theorem tt32 : ttOf pg 32 = ty32.2 := by unfold pg; exact (tt_slice Tryz.type32 rfl rfl rfl Tryz.underlying32 : ttOf Tryz.prog 32 = ⟨1, 24, .slice, [.nils], 24, [], []⟩)
noncomputable def ty35 : Nat × TyI := (35, ⟨1, 24, .slice, [.nils], 29, [], []⟩)
theorem tt35 : ttOf pg 35 = ty35.2 := by unfold pg; exact (tt_slice Tryz.type35 rfl rfl rfl Tryz.underlying35 : ttOf Tryz.prog 35 = ⟨1, 24, .slice, [.nils], 29, [], []⟩)
noncomputable def ty39 : Nat × TyI := (39, ⟨1, 24, .slice, [.nils], 3, [], []⟩)
theorem tt39 : ttOf pg 39 = ty39.2 := by unfold pg; exact (tt_slice Tryz.type39 rfl rfl rfl Tryz.underlying39 : ttOf Tryz.prog 39 = ⟨1, 24, .slice, [.nils], 3, [], []⟩)
noncomputable def ty45 : Nat × TyI := (45, ⟨1, 24, .slice, [.nils], 136, [], []⟩)
theorem tt45 : ttOf pg 45 = ty45.2 := by unfold pg; exact (tt_slice Tryz.type45 rfl rfl rfl Tryz.underlying45 : ttOf Tryz.prog 45 = ⟨1, 24, .slice, [.nils], 136, [], []⟩)
noncomputable def ty47 : Nat × TyI := (47, ⟨2, 48, .struct, [.nils, .nils], 0, [(0, 39), (1, 45)], []⟩)
theorem tt47 : ttOf pg 47 = ty47.2 := by unfold pg; exact ((tt_struct Tryz.type47 rfl rfl Tryz.underlying47).trans (by rw [eqKinds_none]; (rfl); exact ⟨_, List.mem_of_getElem? (i := 0) rfl, kd_slice Tryz.underlying39⟩) : ttOf Tryz.prog 47 = ⟨2, 48, .struct, [.nils, .nils], 0, [(0, 39), (1, 45)], []⟩)
noncomputable def ty51 : Nat × TyI := (51, ⟨1, 24, .slice, [.nils], 102, [], []⟩)
theorem tt51 : ttOf pg 51 = ty51.2 := by unfold pg; exact (tt_slice Tryz.type51 rfl rfl rfl Tryz.underlying51 : ttOf Tryz.prog 51 = ⟨1, 24, .slice, [.nils], 102, [], []⟩)
noncomputable def ty53 : Nat × TyI := (53, ⟨1, 24, .struct, [.nils], 0, [(0, 51)], []⟩)
theorem tt53 : ttOf pg 53 = ty53.2 := by unfold pg; exact ((tt_struct Tryz.type53 rfl rfl Tryz.underlying53).trans (by rw [eqKinds_none]; (rfl); exact ⟨_, List.mem_of_getElem? (i := 0) rfl, kd_slice Tryz.underlying51⟩) : ttOf Tryz.prog 53 = ⟨1, 24, .struct, [.nils], 0, [(0, 51)], []⟩)
noncomputable def ty65 : Nat × TyI := (65, ⟨4, 40, .struct, [.str ⟨#[]⟩, .int .i64 0, .bool false, .int .i64 0], 0, [(0, 9), (1, 3), (2, 4), (3, 3)], [.str, .int .i64, .bool, .int .i64]⟩)
theorem tt65 : ttOf pg 65 = ty65.2 := by unfold pg; exact ((tt_struct Tryz.type65 rfl rfl Tryz.underlying65).trans (by rw [eqKinds_of Tryz.stoodInHeld65 Tryz.eqGuardType65]; simp [kindsOf, kd3, ce3, kd4, ce4, kd9, ce9, Tryz.t65, Value.cells, ofV1]) : ttOf Tryz.prog 65 = ⟨4, 40, .struct, [.str ⟨#[]⟩, .int .i64 0, .bool false, .int .i64 0], 0, [(0, 9), (1, 3), (2, 4), (3, 3)], [.str, .int .i64, .bool, .int .i64]⟩)
noncomputable def ty68 : Nat × TyI := (68, ⟨1, 24, .slice, [.nils], 9, [], []⟩)
theorem tt68 : ttOf pg 68 = ty68.2 := by unfold pg; exact (tt_slice Tryz.type68 rfl rfl rfl Tryz.underlying68 : ttOf Tryz.prog 68 = ⟨1, 24, .slice, [.nils], 9, [], []⟩)
noncomputable def ty70 : Nat × TyI := (70, ⟨2, 32, .struct, [.int .i64 0, .nils], 0, [(0, 3), (1, 68)], []⟩)
theorem tt70 : ttOf pg 70 = ty70.2 := by unfold pg; exact ((tt_struct Tryz.type70 rfl rfl Tryz.underlying70).trans (by rw [eqKinds_none]; (rfl); exact ⟨_, List.mem_of_getElem? (i := 1) rfl, kd_slice Tryz.underlying68⟩) : ttOf Tryz.prog 70 = ⟨2, 32, .struct, [.int .i64 0, .nils], 0, [(0, 3), (1, 68)], []⟩)
noncomputable def ty98 : Nat × TyI := (98, ⟨1, 24, .slice, [.nils], 146, [], []⟩)
theorem tt98 : ttOf pg 98 = ty98.2 := by unfold pg; exact (tt_slice Tryz.type98 rfl rfl rfl Tryz.underlying98 : ttOf Tryz.prog 98 = ⟨1, 24, .slice, [.nils], 146, [], []⟩)
noncomputable def ty102 : Nat × TyI := (102, ⟨3, 56, .struct, [.bool false, .nils, .nils], 0, [(0, 4), (1, 39), (2, 45)], []⟩)
theorem tt102 : ttOf pg 102 = ty102.2 := by unfold pg; exact ((tt_struct Tryz.type102 rfl rfl Tryz.underlying102).trans (by rw [eqKinds_none]; (rfl); exact ⟨_, List.mem_of_getElem? (i := 1) rfl, kd_slice Tryz.underlying39⟩) : ttOf Tryz.prog 102 = ⟨3, 56, .struct, [.bool false, .nils, .nils], 0, [(0, 4), (1, 39), (2, 45)], []⟩)
noncomputable def ty125 : Nat × TyI := (125, ⟨4, 40, .struct, [.str ⟨#[]⟩, .int .i64 0, .bool false, .int .i64 0], 0, [(0, 9), (1, 3), (2, 4), (3, 3)], [.str, .int .i64, .bool, .int .i64]⟩)
theorem tt125 : ttOf pg 125 = ty125.2 := by unfold pg; exact ((tt_struct Tryz.type125 rfl rfl Tryz.underlying125).trans (by rw [eqKinds_of Tryz.stoodInHeld125 Tryz.eqGuardType125]; simp [kindsOf, kd3, ce3, kd4, ce4, kd9, ce9, Tryz.t125, Value.cells, ofV1]) : ttOf Tryz.prog 125 = ⟨4, 40, .struct, [.str ⟨#[]⟩, .int .i64 0, .bool false, .int .i64 0], 0, [(0, 9), (1, 3), (2, 4), (3, 3)], [.str, .int .i64, .bool, .int .i64]⟩)
noncomputable def ty136 : Nat × TyI := (136, ⟨2, 24, .struct, [.str ⟨#[]⟩, .int .i64 0], 0, [(0, 9), (1, 3)], [.str, .int .i64]⟩)
theorem tt136 : ttOf pg 136 = ty136.2 := by unfold pg; exact ((tt_struct Tryz.type136 rfl rfl Tryz.underlying136).trans (by rw [eqKinds_of Tryz.stoodInHeld136 Tryz.eqGuardType136]; simp [kindsOf, kd3, ce3, kd9, ce9, Tryz.t136, Value.cells, ofV1]) : ttOf Tryz.prog 136 = ⟨2, 24, .struct, [.str ⟨#[]⟩, .int .i64 0], 0, [(0, 9), (1, 3)], [.str, .int .i64]⟩)
noncomputable def ty146 : Nat × TyI := (146, ⟨2, 24, .struct, [.int .i64 0, .str ⟨#[]⟩], 0, [(0, 3), (1, 9)], [.int .i64, .str]⟩)
theorem tt146 : ttOf pg 146 = ty146.2 := by unfold pg; exact ((tt_struct Tryz.type146 rfl rfl Tryz.underlying146).trans (by rw [eqKinds_of Tryz.stoodInHeld146 Tryz.eqGuardType146]; simp [kindsOf, kd3, ce3, kd9, ce9, Tryz.t146, Value.cells, ofV1]) : ttOf Tryz.prog 146 = ⟨2, 24, .struct, [.int .i64 0, .str ⟨#[]⟩], 0, [(0, 3), (1, 9)], [.int .i64, .str]⟩)
noncomputable def ty181 : Nat × TyI := (181, ⟨1, 24, .slice, [.nils], 68, [], []⟩)
theorem tt181 : ttOf pg 181 = ty181.2 := by unfold pg; exact (tt_slice Tryz.type181 rfl rfl rfl Tryz.underlying181 : ttOf Tryz.prog 181 = ⟨1, 24, .slice, [.nils], 68, [], []⟩)
noncomputable def ty189 : Nat × TyI := (189, ⟨1, 24, .slice, [.nils], 27, [], []⟩)
theorem tt189 : ttOf pg 189 = ty189.2 := by unfold pg; exact (tt_slice Tryz.type189 rfl rfl rfl Tryz.underlying189 : ttOf Tryz.prog 189 = ⟨1, 24, .slice, [.nils], 27, [], []⟩)
end Go.Proofs.YtchpopejojghmaaGreatDoor.M
