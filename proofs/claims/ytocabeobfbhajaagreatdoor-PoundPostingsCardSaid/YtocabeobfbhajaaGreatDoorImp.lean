/- The examples of the pound are right (impounded): reckoned in the kernel, in three known runs. -/
import Derived.Test.YtocabeobfbhajaaGreatDoorAllE
set_option linter.unusedVariables false
set_option linter.unusedSimpArgs false
set_option linter.unusedSectionVars false
section
namespace Go.Proofs.YtocabeobfbhajaaGreatDoor.Sx
open Go Go.Proofs
noncomputable def row0 : Row := ⟨111, [.ptr 13 0, .int .i64 (.ofNat 0)], 36, 0, [(9, .cells [.bs 256000 0] 0 0),
 (11, .cells [.bs 256000 0] 0 0),
 (13, .cells [.sl 9 0 4000 4000 0, .sl 11 0 4000 4000 0, .ns, .bool false, .int .i64 (.negSucc 0)] 0 0)], .ret (.int .i64 (.ofNat 0)), 36, 0, [(9, .cells [.bs 256000 0] 0 0),
 (11, .cells [.bs 256000 0] 0 0),
 (13, .cells [.sl 9 0 4000 4000 0, .sl 11 0 4000 4000 0, .ns, .bool false, .int .i64 (.negSucc 0)] 0 0)]⟩
theorem row0_chk : row0.chk (E0.plus []) 100000 61 = true := by decide +kernel
theorem ok1' : EnvOK (E0.plus []) := ok0.plus (by simp)
theorem row0_holds : row0.Holds (G0 8) Tryz.prog := Row.holds rfl ok1' row0_chk
noncomputable def row1 : Row := ⟨111, [.ptr 41 0, .int .i64 (.ofNat 0)], 64, 0, [(37, .cells [.bs 256000 0] 0 0),
 (39, .cells [.bs 256000 0] 0 0),
 (41, .cells [.sl 37 0 4000 4000 0, .sl 39 0 4000 4000 0, .ns, .bool false, .int .i64 (.negSucc 0)] 0 0)], .ret (.int .i64 (.ofNat 0)), 64, 0, [(37, .cells [.bs 256000 0] 0 0),
 (39, .cells [.bs 256000 0] 0 0),
 (41, .cells [.sl 37 0 4000 4000 0, .sl 39 0 4000 4000 0, .ns, .bool false, .int .i64 (.negSucc 0)] 0 0)]⟩
theorem row1_chk : row1.chk (E0.plus [row0]) 100000 61 = true := by decide +kernel
theorem ok2' : EnvOK (E0.plus [row0]) := ok0.plus (by intro r hr; simp only [List.mem_singleton] at hr; subst hr; exact ⟨row0_holds, Row.chk_wf row0_chk⟩)
theorem row1_holds : row1.Holds (G0 8) Tryz.prog := Row.holds rfl ok2' row1_chk
noncomputable def row2 : Row := ⟨14, [], 8, 0, [], .ret (.bool true), 2899, 55, []⟩
theorem row2_chk : row2.chk (E0.plus [row0, row1]) 100000 61 = true := by decide +kernel
theorem ok3' : EnvOK (E0.plus [row0, row1]) := ok0.plus (by
 intro r hr
 simp only [List.mem_cons, List.not_mem_nil, or_false] at hr
 rcases hr with rfl | rfl
 ·exact ⟨row0_holds, Row.chk_wf row0_chk⟩
 ·exact ⟨row1_holds, Row.chk_wf row1_chk⟩)
theorem row2_holds : row2.Holds (G0 8) Tryz.prog := Row.holds rfl ok3' row2_chk
theorem impounded_any (w : World) : Calls Tryz.prog 14 #[] w fun e w' => e = .returned (.bool true) ∧ Chg (fun _ => False) w w' := Row.any row2_holds rfl rfl rfl rfl (fun _ h => h) w
end Go.Proofs.YtocabeobfbhajaaGreatDoor.Sx
end
