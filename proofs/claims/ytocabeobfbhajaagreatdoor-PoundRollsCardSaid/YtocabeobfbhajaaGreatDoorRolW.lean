/- PoundRolls: one start that fits the row: the listed variables as the door lays them, and Go's own table. -/
import Derived.Test.YtocabeobfbhajaaGreatDoorRows
import Derived.LaidMore
import Derived.LaidHandle
import Derived.LaidLaws
import Derived.ProofKit
set_option linter.unusedVariables false
set_option linter.unusedSimpArgs false
set_option linter.unusedSectionVars false
section
namespace Go.Proofs.YtocabeobfbhajaaGreatDoor.poundRolls
open Go
def tabCells : List Value := match Go.Pinned.utf8First with
 | .agg l => l.map fun d => match d with
  | .lit (.int k n) => .int k n
  | _ => .int .u8 0
 | _ => []
noncomputable def withTab (w : World) (k : Nat) (t : TypeId) : World := { w with heap := w.heap.setIfInBounds k (.cells tabCells.toArray t) }
noncomputable def W0 (os : Os) : World := withTab (World.doorLaid Tryz.prog 400 os) 4 (((Tryz.prog.globals[4]?).map (·.type)).getD 0)
def wargs : Array Value := #[.int .i64 0, .slice none 0 0, .agg #[.int .i64 0, .int .i64 0], .int .i64 0, .int .i64 0]
theorem met (os : Os) (args : Array Value) : laidMetH Tryz.prog Rows.poundRollsRow.laid ((W0 os).forCall (fun _ _ => 0) ⟨#[], args, []⟩).memory :=
 laidMetH_of_parts3 (fuel := 8) (laidMet_of_run' 8 (by kernel_rfl) (by kernel_rfl)) (by kernel_rfl) (by kernel_rfl)
theorem wShaped (os : Os) : ((W0 os).forCall (fun _ _ => 0) ⟨#[], wargs, []⟩).Shaped Tryz.prog := World.shaped_of_RefB (by kernel_rfl) (by kernel_rfl)
theorem wOk (os : Os) : Input.okWideB Tryz.prog ((W0 os).forCall (fun _ _ => 0) ⟨#[], wargs, []⟩) 6 ⟨#[], wargs, []⟩ = true := by kernel_rfl
theorem wPre (os : Os) (H : Type) (enc : TypeId × Value → H) : Rows.poundRollsSpec.preB enc Tryz.prog Tryz.f6 Rows.poundRollsRow.domain false ((W0 os).forCall (fun _ _ => 0) ⟨#[], wargs, []⟩).memory wargs 8 = true := by kernel_rfl
theorem wSz (os : Os) (H : Type) (enc : TypeId × Value → H) : Rows.poundRollsSpec.sizedB enc Tryz.prog Tryz.f6 false ((W0 os).forCall (fun _ _ => 0) ⟨#[], wargs, []⟩).memory wargs 8 = true := by kernel_rfl
end Go.Proofs.YtocabeobfbhajaaGreatDoor.poundRolls
end
