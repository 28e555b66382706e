/- The statement PoundNil (its tied card): for every operation, sector and tick, the call returns true and its arguments read as they did. No condition. -/
import Derived.Test.YtocabeobfbhajaaGreatDoorNilL
import Derived.Test.YtocabeobfbhajaaGreatDoorNilF
import Derived.Test.YtocabeobfbhajaaGreatDoorCards
import Derived.Test.YtocabeobfbhajaaGreatDoorTie
import Derived.SevenTiedAt
set_option linter.unusedVariables false
namespace Go.Proofs.YtocabeobfbhajaaGreatDoor.poundNil
open Go Go.RowKit

theorem over : Rows.poundNilRow.holds Tryz.pinned (OpenSpec.ofChange Rows.poundNilSpec) :=
  OpenClaim.holds_of_wide 12 Tryz.f12 rfl rfl rfl rfl rfl rfl rfl ⟨rfl, rfl, rfl, rfl, rfl⟩ rfl rfl rfl rfl rfl named Tryz.func12 closed
    inst wrap (fun os started H enc _ => lifted' os started H enc)

theorem wfText : Rows.poundNilRow.wfByText (OpenSpec.ofChange Rows.poundNilSpec) = true := by kernel_rfl
def har : Bool × String := (true, "b3feae5ad39fd11ffd7c3d8ca4ba81a279f245cbeadd232b1020e46106a7cfe8")
theorem mainIs : Tryz.prog.mainIs = some (har.1, har.2.toList) := by kernel_rfl
theorem looks : true = Tryz.prog.looks [] := by kernel_rfl
theorem stands : ([44, 3, 3].all fun u => !Tryz.prog.wantsStandIn u) = true := by kernel_rfl
theorem goes : false = Rows.poundNilRow.goesBy Tryz.prog := by kernel_rfl
theorem params : ∀ f fn, Tryz.pinned.checked.prog.funcNamed Rows.poundNilRow.func = some f → Tryz.pinned.checked.prog.funcs[f]? = some fn → true = Tryz.pinned.checked.prog.looks [] ∧ ∀ (j : Nat) t, fn.params[j]? = some t → Tryz.pinned.checked.prog.wantsStandIn t = false := by
  intro f fn hf hfn
  obtain rfl : f = 12 := Option.some.inj (named.symm.trans hf) |>.symm
  obtain rfl : fn = Tryz.f12 := (Option.some.inj (Tryz.func12.symm.trans hfn)).symm
  exact ⟨looks, fun j t ht => by
    rw [Tryz.params12] at ht
    have hm : t ∈ [44, 3, 3] := by simpa using Array.mem_of_getElem? ht
    exact (show Tryz.prog.wantsStandIn t = false by simpa using List.all_eq_true.1 stands t hm)⟩
/-- ████ THE STATEMENT ████ -/
theorem proved : Rows.PoundNilCardSaid :=
  Claim7.holds_tied_plain_at .later [] [.data, .data, .data, .data, .sentinel, .sentinel, .pinned] true har true
    over (fun _ h => by cases h) wfText (fun _ h => by cases h) poundNil_row_tie rfl ⟨rfl, rfl⟩ mainIs rfl params goes
#print axioms proved
end Go.Proofs.YtocabeobfbhajaaGreatDoor.poundNil
