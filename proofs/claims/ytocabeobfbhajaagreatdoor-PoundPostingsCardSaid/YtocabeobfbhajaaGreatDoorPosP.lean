/- The statement PoundPostings (its tied card): for every number of reeves, posting and line, the call returns true and its arguments read as they did. No condition. -/
import Derived.Test.YtocabeobfbhajaaGreatDoorPosL
import Derived.Test.YtocabeobfbhajaaGreatDoorPosF
import Derived.Test.YtocabeobfbhajaaGreatDoorCards
import Derived.Test.YtocabeobfbhajaaGreatDoorTie
import Derived.SevenTiedAt
set_option linter.unusedVariables false
set_option linter.unusedSimpArgs false
set_option linter.unusedSectionVars false
section
namespace Go.Proofs.YtocabeobfbhajaaGreatDoor.poundPostings
open Go Go.RowKit
theorem over : Rows.poundPostingsRow.holds Tryz.pinned (OpenSpec.ofChange Rows.poundPostingsSpec) :=
 OpenClaim.holds_of_wide 3 Tryz.f3 rfl rfl rfl rfl rfl rfl rfl ⟨rfl, rfl, rfl, rfl, rfl⟩ rfl rfl rfl rfl rfl named Tryz.func3 closed
  inst wrap (fun os started H enc _ => lifted' os started H enc)
theorem wfText : Rows.poundPostingsRow.wfByText (OpenSpec.ofChange Rows.poundPostingsSpec) = true := by kernel_rfl
def har : Bool × String := (true, "b3feae5ad39fd11ffd7c3d8ca4ba81a279f245cbeadd232b1020e46106a7cfe8")
theorem mainIs : Tryz.prog.mainIs = some (har.1, har.2.toList) := by kernel_rfl
theorem looks : true = Tryz.prog.looks [] := by kernel_rfl
theorem stands : ([3, 25, 9].all fun u => !Tryz.prog.wantsStandIn u) = true := by kernel_rfl
theorem goes : false = Rows.poundPostingsRow.goesBy Tryz.prog := by kernel_rfl
theorem params : ∀ f fn, Tryz.pinned.checked.prog.funcNamed Rows.poundPostingsRow.func = some f → Tryz.pinned.checked.prog.funcs[f]? = some fn → true = Tryz.pinned.checked.prog.looks [] ∧ ∀ (j : Nat) t, fn.params[j]? = some t → Tryz.pinned.checked.prog.wantsStandIn t = false := by
 intro f fn hf hfn
 obtain rfl : f = 3 := Option.some.inj (named.symm.trans hf) |>.symm
 obtain rfl : fn = Tryz.f3 := (Option.some.inj (Tryz.func3.symm.trans hfn)).symm
 exact ⟨looks, fun j t ht => by
  rw [Tryz.params3] at ht
  have hm : t ∈ [3, 25, 9] := by simpa using Array.mem_of_getElem? ht
  exact (show Tryz.prog.wantsStandIn t = false by simpa using List.all_eq_true.1 stands t hm)⟩
theorem proved : Rows.PoundPostingsCardSaid :=
 Claim7.holds_tied_plain_at .later [] [.data, .data, .data, .data, .sentinel, .sentinel, .pinned] true har true
  over (fun _ h => by cases h) wfText (fun _ h => by cases h) poundPostings_row_tie rfl ⟨rfl, rfl⟩ mainIs rfl params goes
#print axioms proved
end Go.Proofs.YtocabeobfbhajaaGreatDoor.poundPostings
end
