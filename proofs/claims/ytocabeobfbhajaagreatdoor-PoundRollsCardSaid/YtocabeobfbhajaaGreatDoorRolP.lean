/- The statement PoundRolls (its tied card): for every number of reeves, list of postings, Ref, reeve and account, the call returns true and its arguments read as they did. No condition. -/
import Derived.Test.YtocabeobfbhajaaGreatDoorRolL
import Derived.Test.YtocabeobfbhajaaGreatDoorRolF
import Derived.Test.YtocabeobfbhajaaGreatDoorCards
import Derived.Test.YtocabeobfbhajaaGreatDoorTie
import Derived.SevenTiedAt
set_option linter.unusedVariables false
set_option linter.unusedSimpArgs false
set_option linter.unusedSectionVars false
section
namespace Go.Proofs.YtocabeobfbhajaaGreatDoor.poundRolls
open Go Go.RowKit
theorem over : Rows.poundRollsRow.holds Tryz.pinned (OpenSpec.ofChange Rows.poundRollsSpec) :=
 OpenClaim.holds_of_wide 6 Tryz.f6 rfl rfl rfl rfl rfl rfl rfl ⟨rfl, rfl, rfl, rfl, rfl⟩ rfl rfl rfl rfl rfl named Tryz.func6 closed
  inst wrap (fun os started H enc _ => lifted' os started H enc)
theorem wfText : Rows.poundRollsRow.wfByText (OpenSpec.ofChange Rows.poundRollsSpec) = true := by kernel_rfl
def har : Bool × String := (true, "b3feae5ad39fd11ffd7c3d8ca4ba81a279f245cbeadd232b1020e46106a7cfe8")
theorem mainIs : Tryz.prog.mainIs = some (har.1, har.2.toList) := by kernel_rfl
theorem looks : true = Tryz.prog.looks [] := by kernel_rfl
theorem stands : ([3, 38, 23, 3, 3].all fun u => !Tryz.prog.wantsStandIn u) = true := by kernel_rfl
theorem goes : false = Rows.poundRollsRow.goesBy Tryz.prog := by kernel_rfl
theorem params : ∀ f fn, Tryz.pinned.checked.prog.funcNamed Rows.poundRollsRow.func = some f → Tryz.pinned.checked.prog.funcs[f]? = some fn → true = Tryz.pinned.checked.prog.looks [] ∧ ∀ (j : Nat) t, fn.params[j]? = some t → Tryz.pinned.checked.prog.wantsStandIn t = false := by
 intro f fn hf hfn
 obtain rfl : f = 6 := Option.some.inj (named.symm.trans hf) |>.symm
 obtain rfl : fn = Tryz.f6 := (Option.some.inj (Tryz.func6.symm.trans hfn)).symm
 exact ⟨looks, fun j t ht => by
  rw [Tryz.params6] at ht
  have hm : t ∈ [3, 38, 23, 3, 3] := by simpa using Array.mem_of_getElem? ht
  exact (show Tryz.prog.wantsStandIn t = false by simpa using List.all_eq_true.1 stands t hm)⟩
theorem proved : Rows.PoundRollsCardSaid :=
 Claim7.holds_tied_plain_at .later [] [.data, .data, .data, .data, .sentinel, .sentinel, .pinned] true har true
  over (fun _ h => by cases h) wfText (fun _ h => by cases h) poundRolls_row_tie rfl ⟨rfl, rfl⟩ mainIs rfl params goes
#print axioms proved
end Go.Proofs.YtocabeobfbhajaaGreatDoor.poundRolls
end
