/- The facts of this translation's types. -/
import Derived.Test.YtoofegkjdjlpkaaGreatDoorE11
import Derived.Test.YtoofegkjdjlpkaaGreatDoorChecked
set_option linter.unusedVariables false
set_option linter.unusedSimpArgs false
namespace Go.Proofs.YtoofegkjdjlpkaaGreatDoor.M
open Go Go.Proofs
@[irreducible] noncomputable def pg : Program := Tryz.prog
def bodyOf (f : Func) : Code := f.body.getD .skip
theorem kd3 : kdOf Tryz.prog 3 = some (.int .i64) := by simp [kdOf, Tryz.underlying3]
theorem ce3 : Tryz.prog.cellsOf 3 = 1 := cells_of Tryz.type3
theorem kd4 : kdOf Tryz.prog 4 = some (.bool) := by simp [kdOf, Tryz.underlying4]
theorem ce4 : Tryz.prog.cellsOf 4 = 1 := cells_of Tryz.type4
theorem kd9 : kdOf Tryz.prog 9 = some (.str) := by simp [kdOf, Tryz.underlying9]
theorem ce9 : Tryz.prog.cellsOf 9 = 1 := cells_of Tryz.type9
noncomputable def ty3 : Nat × TyI := (3, ⟨1, 8, .int .i64, [.int .i64 0], 0, [], []⟩)
theorem tt3 : ttOf pg 3 = ty3.2 := by unfold pg; exact (tt_int Tryz.type3 rfl rfl rfl Tryz.underlying3 : ttOf Tryz.prog 3 = ⟨1, 8, .int .i64, [.int .i64 0], 0, [], []⟩)
noncomputable def ty4 : Nat × TyI := (4, ⟨1, 1, .bool, [.bool false], 0, [], []⟩)
theorem tt4 : ttOf pg 4 = ty4.2 := by unfold pg; exact (tt_bool Tryz.type4 rfl rfl rfl Tryz.underlying4 : ttOf Tryz.prog 4 = ⟨1, 1, .bool, [.bool false], 0, [], []⟩)
noncomputable def ty5 : Nat × TyI := (5, ⟨1, 1, .int .u8, [.int .u8 0], 0, [], []⟩)
theorem tt5 : ttOf pg 5 = ty5.2 := by unfold pg; exact (tt_int Tryz.type5 rfl rfl rfl Tryz.underlying5 : ttOf Tryz.prog 5 = ⟨1, 1, .int .u8, [.int .u8 0], 0, [], []⟩)
noncomputable def ty9 : Nat × TyI := (9, ⟨1, 16, .str, [.str ⟨#[]⟩], 0, [], []⟩)
theorem tt9 : ttOf pg 9 = ty9.2 := by unfold pg; exact (tt_string Tryz.type9 rfl rfl rfl Tryz.underlying9 : ttOf Tryz.prog 9 = ⟨1, 16, .str, [.str ⟨#[]⟩], 0, [], []⟩)
noncomputable def ty22 : Nat × TyI := (22, ⟨1, 24, .slice, [.nils], 74, [], []⟩)
theorem tt22 : ttOf pg 22 = ty22.2 := by unfold pg; exact (tt_slice Tryz.type22 rfl rfl rfl Tryz.underlying22 : ttOf Tryz.prog 22 = ⟨1, 24, .slice, [.nils], 74, [], []⟩)
noncomputable def ty24 : Nat × TyI := (24, ⟨1, 24, .struct, [.nils], 0, [(0, 22)], []⟩)
theorem tt24 : ttOf pg 24 = ty24.2 := by unfold pg; exact ((tt_struct Tryz.type24 rfl rfl Tryz.underlying24).trans (by rw [eqKinds_none]; (rfl); exact ⟨_, List.mem_of_getElem? (i := 0) rfl, kd_slice Tryz.underlying22⟩) : ttOf Tryz.prog 24 = ⟨1, 24, .struct, [.nils], 0, [(0, 22)], []⟩)
noncomputable def ty32 : Nat × TyI := (32, ⟨1, 24, .slice, [.nils], 5, [], []⟩)
theorem tt32 : ttOf pg 32 = ty32.2 := by unfold pg; exact (tt_slice Tryz.type32 rfl rfl rfl Tryz.underlying32 : ttOf Tryz.prog 32 = ⟨1, 24, .slice, [.nils], 5, [], []⟩)
noncomputable def ty36 : Nat × TyI := (36, ⟨1, 24, .slice, [.nils], 3, [], []⟩)
theorem tt36 : ttOf pg 36 = ty36.2 := by unfold pg; exact (tt_slice Tryz.type36 rfl rfl rfl Tryz.underlying36 : ttOf Tryz.prog 36 = ⟨1, 24, .slice, [.nils], 3, [], []⟩)
noncomputable def ty37 : Nat × TyI := (37, ⟨1, 24, .slice, [.nils], 80, [], []⟩)
theorem tt37 : ttOf pg 37 = ty37.2 := by unfold pg; exact (tt_slice Tryz.type37 rfl rfl rfl Tryz.underlying37 : ttOf Tryz.prog 37 = ⟨1, 24, .slice, [.nils], 80, [], []⟩)
noncomputable def ty39 : Nat × TyI := (39, ⟨2, 48, .struct, [.nils, .nils], 0, [(0, 36), (1, 37)], []⟩)
theorem tt39 : ttOf pg 39 = ty39.2 := by unfold pg; exact ((tt_struct Tryz.type39 rfl rfl Tryz.underlying39).trans (by rw [eqKinds_none]; (rfl); exact ⟨_, List.mem_of_getElem? (i := 0) rfl, kd_slice Tryz.underlying36⟩) : ttOf Tryz.prog 39 = ⟨2, 48, .struct, [.nils, .nils], 0, [(0, 36), (1, 37)], []⟩)
noncomputable def ty46 : Nat × TyI := (46, ⟨1, 24, .slice, [.nils], 99, [], []⟩)
theorem tt46 : ttOf pg 46 = ty46.2 := by unfold pg; exact (tt_slice Tryz.type46 rfl rfl rfl Tryz.underlying46 : ttOf Tryz.prog 46 = ⟨1, 24, .slice, [.nils], 99, [], []⟩)
noncomputable def ty71 : Nat × TyI := (71, ⟨1, 24, .slice, [.nils], 9, [], []⟩)
theorem tt71 : ttOf pg 71 = ty71.2 := by unfold pg; exact (tt_slice Tryz.type71 rfl rfl rfl Tryz.underlying71 : ttOf Tryz.prog 71 = ⟨1, 24, .slice, [.nils], 9, [], []⟩)
noncomputable def ty74 : Nat × TyI := (74, ⟨4, 72, .struct, [.int .i64 0, .str ⟨#[]⟩, .nils, .nils], 0, [(0, 3), (1, 9), (2, 36), (3, 37)], []⟩)
theorem tt74 : ttOf pg 74 = ty74.2 := by unfold pg; exact ((tt_struct Tryz.type74 rfl rfl Tryz.underlying74).trans (by rw [eqKinds_none]; (rfl); exact ⟨_, List.mem_of_getElem? (i := 2) rfl, kd_slice Tryz.underlying36⟩) : ttOf Tryz.prog 74 = ⟨4, 72, .struct, [.int .i64 0, .str ⟨#[]⟩, .nils, .nils], 0, [(0, 3), (1, 9), (2, 36), (3, 37)], []⟩)
noncomputable def ty80 : Nat × TyI := (80, ⟨2, 24, .struct, [.str ⟨#[]⟩, .int .i64 0], 0, [(0, 9), (1, 3)], [.str, .int .i64]⟩)
theorem tt80 : ttOf pg 80 = ty80.2 := by unfold pg; exact ((tt_struct Tryz.type80 rfl rfl Tryz.underlying80).trans (by rw [eqKinds_of Tryz.stoodInHeld80 Tryz.eqGuardType80]; simp [kindsOf, kd3, ce3, kd9, ce9, Tryz.t80, Value.cells, ofV1]) : ttOf Tryz.prog 80 = ⟨2, 24, .struct, [.str ⟨#[]⟩, .int .i64 0], 0, [(0, 9), (1, 3)], [.str, .int .i64]⟩)
noncomputable def ty90 : Nat × TyI := (90, ⟨1, 8, .other, [.nilp], 0, [], []⟩)
theorem tt90 : ttOf pg 90 = ty90.2 := by unfold pg; exact (tt_pointer Tryz.type90 rfl rfl rfl Tryz.underlying90 : ttOf Tryz.prog 90 = ⟨1, 8, .other, [.nilp], 0, [], []⟩)
noncomputable def ty99 : Nat × TyI := (99, ⟨4, 40, .struct, [.str ⟨#[]⟩, .int .i64 0, .bool false, .int .i64 0], 0, [(0, 9), (1, 3), (2, 4), (3, 3)], [.str, .int .i64, .bool, .int .i64]⟩)
theorem tt99 : ttOf pg 99 = ty99.2 := by unfold pg; exact ((tt_struct Tryz.type99 rfl rfl Tryz.underlying99).trans (by rw [eqKinds_of Tryz.stoodInHeld99 Tryz.eqGuardType99]; simp [kindsOf, kd3, ce3, kd4, ce4, kd9, ce9, Tryz.t99, Value.cells, ofV1]) : ttOf Tryz.prog 99 = ⟨4, 40, .struct, [.str ⟨#[]⟩, .int .i64 0, .bool false, .int .i64 0], 0, [(0, 9), (1, 3), (2, 4), (3, 3)], [.str, .int .i64, .bool, .int .i64]⟩)
noncomputable def ty145 : Nat × TyI := (145, ⟨2, 32, .struct, [.nils, .int .i64 0], 0, [(0, 32), (1, 3)], []⟩)
theorem tt145 : ttOf pg 145 = ty145.2 := by unfold pg; exact ((tt_struct Tryz.type145 rfl rfl Tryz.underlying145).trans (by rw [eqKinds_none]; (rfl); exact ⟨_, List.mem_of_getElem? (i := 0) rfl, kd_slice Tryz.underlying32⟩) : ttOf Tryz.prog 145 = ⟨2, 32, .struct, [.nils, .int .i64 0], 0, [(0, 32), (1, 3)], []⟩)
end Go.Proofs.YtoofegkjdjlpkaaGreatDoor.M
