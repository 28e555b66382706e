/- PoundPostings: one start that fits the row: the listed variables as the door lays them, and Go's own table. -/
import Derived.Test.YtocabeobfbhajaaGreatDoorRows
import Derived.LaidMore
import Derived.LaidHandle
import Derived.LaidLaws
import Derived.ProofKit
set_option linter.unusedVariables false
set_option linter.unusedSimpArgs false
set_option linter.unusedSectionVars false
section
namespace Go.Proofs.YtocabeobfbhajaaGreatDoor.poundPostings
open Go
def tabCells : List Value := match Go.Pinned.utf8First with
 | .agg l => l.map fun d => match d with
  | .lit (.int k n) => .int k n
  | _ => .int .u8 0
 | _ => []
noncomputable def withTab (w : World) (k : Nat) (t : TypeId) : World := { w with heap := w.heap.setIfInBounds k (.cells tabCells.toArray t) }
noncomputable def W0 (os : Os) : World := withTab (World.doorLaid Tryz.prog 400 os) 4 (((Tryz.prog.globals[4]?).map (·.type)).getD 0)
def wargs : Array Value := #[.int .i64 0, .agg #[.int .i64 0, .int .i64 0, .int .i64 0, .int .u8 0, .int .i64 0, .int .i64 0, .int .i64 0, .int .i64 0, .int .i64 0, .int .i64 0, .int .i64 0], .string ByteArray.empty]
theorem met (os : Os) (args : Array Value) : laidMetH Tryz.prog Rows.poundPostingsRow.laid ((W0 os).forCall (fun _ _ => 0) ⟨#[], args, []⟩).memory :=
 laidMetH_of_parts3 (fuel := 8) (laidMet_of_run' 8 (by kernel_rfl) (by kernel_rfl)) (by kernel_rfl) (by kernel_rfl)
theorem wShaped (os : Os) : ((W0 os).forCall (fun _ _ => 0) ⟨#[], wargs, []⟩).Shaped Tryz.prog := World.shaped_of_RefB (by kernel_rfl) (by kernel_rfl)
theorem wOk (os : Os) : Input.okWideB Tryz.prog ((W0 os).forCall (fun _ _ => 0) ⟨#[], wargs, []⟩) 3 ⟨#[], wargs, []⟩ = true := by kernel_rfl
theorem wPre (os : Os) (H : Type) (enc : TypeId × Value → H) : Rows.poundPostingsSpec.preB enc Tryz.prog Tryz.f3 Rows.poundPostingsRow.domain false ((W0 os).forCall (fun _ _ => 0) ⟨#[], wargs, []⟩).memory wargs 8 = true := by kernel_rfl
theorem wSz (os : Os) (H : Type) (enc : TypeId × Value → H) : Rows.poundPostingsSpec.sizedB enc Tryz.prog Tryz.f3 false ((W0 os).forCall (fun _ _ => 0) ⟨#[], wargs, []⟩).memory wargs 8 = true := by kernel_rfl
end Go.Proofs.YtocabeobfbhajaaGreatDoor.poundPostings
end
