/- The facts of this translation's types. -/
import Derived.Test.YtoofegkjdjlpkaaGreatDoorE11
import Derived.Test.YtoofegkjdjlpkaaGreatDoorChecked
set_option linter.unusedVariables false
set_option linter.unusedSimpArgs false
namespace Go.Proofs.YtoofegkjdjlpkaaGreatDoor.M
open Go Go.Proofs
@[irreducible] noncomputable def pg : Program := Tryz.prog
def bodyOf (f : Func) : Code := f.body.getD .skip
theorem kd3 : kdOf Tryz.prog 3 = some (.int .i64) := by simp [kdOf, Tryz.underlying3]
theorem ce3 : Tryz.prog.cellsOf 3 = 1 := cells_of Tryz.type3
theorem kd4 : kdOf Tryz.prog 4 = some (.bool) := by simp [kdOf, Tryz.underlying4]
theorem ce4 : Tryz.prog.cellsOf 4 = 1 := cells_of Tryz.type4
theorem kd9 : kdOf Tryz.prog 9 = some (.str) := by simp [kdOf, Tryz.underlying9]
theorem ce9 : Tryz.prog.cellsOf 9 = 1 := cells_of Tryz.type9
noncomputable def ty3 : Nat × TyI := (3, ⟨1, 8, .int .i64, [.int .i64 0], 0, [], []⟩)
theorem tt3 : ttOf pg 3 = ty3.2 := by unfold pg; exact (tt_int Tryz.type3 rfl rfl rfl Tryz.underlying3 : ttOf Tryz.prog 3 = ⟨1, 8, .int .i64, [.int .i64 0], 0, [], []⟩)
noncomputable def ty4 : Nat × TyI := (4, ⟨1, 1, .bool, [.bool false], 0, [], []⟩)
theorem tt4 : ttOf pg 4 = ty4.2 := by unfold pg; exact (tt_bool Tryz.type4 rfl rfl rfl Tryz.underlying4 : ttOf Tryz.prog 4 = ⟨1, 1, .bool, [.bool false], 0, [], []⟩)
noncomputable def ty5 : Nat × TyI := (5, ⟨1, 1, .int .u8, [.int .u8 0], 0, [], []⟩)
theorem tt5 : ttOf pg 5 = ty5.2 := by unfold pg; exact (tt_int Tryz.type5 rfl rfl rfl Tryz.underlying5 : ttOf Tryz.prog 5 = ⟨1, 1, .int .u8, [.int .u8 0], 0, [], []⟩)
noncomputable def ty9 : Nat × TyI := (9, ⟨1, 16, .str, [.str ⟨#[]⟩], 0, [], []⟩)
theorem tt9 : ttOf pg 9 = ty9.2 := by unfold pg; exact (tt_string Tryz.type9 rfl rfl rfl Tryz.underlying9 : ttOf Tryz.prog 9 = ⟨1, 16, .str, [.str ⟨#[]⟩], 0, [], []⟩)
noncomputable def ty32 : Nat × TyI := (32, ⟨1, 24, .slice, [.nils], 5, [], []⟩)
theorem tt32 : ttOf pg 32 = ty32.2 := by unfold pg; exact (tt_slice Tryz.type32 rfl rfl rfl Tryz.underlying32 : ttOf Tryz.prog 32 = ⟨1, 24, .slice, [.nils], 5, [], []⟩)
noncomputable def ty36 : Nat × TyI := (36, ⟨1, 24, .slice, [.nils], 3, [], []⟩)
theorem tt36 : ttOf pg 36 = ty36.2 := by unfold pg; exact (tt_slice Tryz.type36 rfl rfl rfl Tryz.underlying36 : ttOf Tryz.prog 36 = ⟨1, 24, .slice, [.nils], 3, [], []⟩)
noncomputable def ty46 : Nat × TyI := (46, ⟨1, 24, .slice, [.nils], 99, [], []⟩)
theorem tt46 : ttOf pg 46 = ty46.2 := by unfold pg; exact (tt_slice Tryz.type46 rfl rfl rfl Tryz.underlying46 : ttOf Tryz.prog 46 = ⟨1, 24, .slice, [.nils], 99, [], []⟩)
noncomputable def ty48 : Nat × TyI := (48, ⟨1, 24, .struct, [.nils], 0, [(0, 46)], []⟩)
theorem tt48 : ttOf pg 48 = ty48.2 := by unfold pg; exact ((tt_struct Tryz.type48 rfl rfl Tryz.underlying48).trans (by rw [eqKinds_none]; (rfl); exact ⟨_, List.mem_of_getElem? (i := 0) rfl, kd_slice Tryz.underlying46⟩) : ttOf Tryz.prog 48 = ⟨1, 24, .struct, [.nils], 0, [(0, 46)], []⟩)
noncomputable def ty56 : Nat × TyI := (56, ⟨2, 40, .struct, [.str ⟨#[]⟩, .nils], 0, [(0, 9), (1, 48)], []⟩)
theorem tt56 : ttOf pg 56 = ty56.2 := by unfold pg; exact ((tt_struct Tryz.type56 rfl rfl Tryz.underlying56).trans (by rw [eqKinds_none]; (rfl); exact ⟨_, List.mem_of_getElem? (i := 1) rfl, kd_struct Tryz.underlying48⟩) : ttOf Tryz.prog 56 = ⟨2, 40, .struct, [.str ⟨#[]⟩, .nils], 0, [(0, 9), (1, 48)], []⟩)
noncomputable def ty71 : Nat × TyI := (71, ⟨1, 24, .slice, [.nils], 9, [], []⟩)
theorem tt71 : ttOf pg 71 = ty71.2 := by unfold pg; exact (tt_slice Tryz.type71 rfl rfl rfl Tryz.underlying71 : ttOf Tryz.prog 71 = ⟨1, 24, .slice, [.nils], 9, [], []⟩)
noncomputable def ty90 : Nat × TyI := (90, ⟨1, 8, .other, [.nilp], 0, [], []⟩)
theorem tt90 : ttOf pg 90 = ty90.2 := by unfold pg; exact (tt_pointer Tryz.type90 rfl rfl rfl Tryz.underlying90 : ttOf Tryz.prog 90 = ⟨1, 8, .other, [.nilp], 0, [], []⟩)
noncomputable def ty99 : Nat × TyI := (99, ⟨4, 40, .struct, [.str ⟨#[]⟩, .int .i64 0, .bool false, .int .i64 0], 0, [(0, 9), (1, 3), (2, 4), (3, 3)], [.str, .int .i64, .bool, .int .i64]⟩)
theorem tt99 : ttOf pg 99 = ty99.2 := by unfold pg; exact ((tt_struct Tryz.type99 rfl rfl Tryz.underlying99).trans (by rw [eqKinds_of Tryz.stoodInHeld99 Tryz.eqGuardType99]; simp [kindsOf, kd3, ce3, kd4, ce4, kd9, ce9, Tryz.t99, Value.cells, ofV1]) : ttOf Tryz.prog 99 = ⟨4, 40, .struct, [.str ⟨#[]⟩, .int .i64 0, .bool false, .int .i64 0], 0, [(0, 9), (1, 3), (2, 4), (3, 3)], [.str, .int .i64, .bool, .int .i64]⟩)
noncomputable def ty145 : Nat × TyI := (145, ⟨2, 32, .struct, [.nils, .int .i64 0], 0, [(0, 32), (1, 3)], []⟩)
theorem tt145 : ttOf pg 145 = ty145.2 := by unfold pg; exact ((tt_struct Tryz.type145 rfl rfl Tryz.underlying145).trans (by rw [eqKinds_none]; (rfl); exact ⟨_, List.mem_of_getElem? (i := 0) rfl, kd_slice Tryz.underlying32⟩) : ttOf Tryz.prog 145 = ⟨2, 32, .struct, [.nils, .int .i64 0], 0, [(0, 32), (1, 3)], []⟩)
end Go.Proofs.YtoofegkjdjlpkaaGreatDoor.M
