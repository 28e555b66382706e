/-
  DERIVED. GIVEN WITH THE SEED: THE CARDS: each row of YtocabeobfbhajaaGreatDoorRows.lean that lists a variable, with what it lists TIED to the program's text (the seventh form; the later family's looks); each row that meets fmt, with fmt's text TOLD by the authors' own Lean function (tested against real Go, not proved from fmt's source: count such statements apart). THE CARD IS WHAT COUNTS. Prove the row's statement (the work); the ties are given (YtocabeobfbhajaaGreatDoorTie.lean); close each card by the builder's one call (the guide's Derived/Test/ToyasCard.lean, 'card_holds'). Laid BY PROGRAM, IN A SANDBOX (cutbox-door.mjs). By AI agents, Wed Nov 11 2026. No macro, syntax, notation, axiom, sorry.
-/
import Derived.Test.YtocabeobfbhajaaGreatDoorRows
import GoSem.ClaimSeven
namespace Go.Proofs.YtocabeobfbhajaaGreatDoor
namespace Rows

/-- THE TIED CARD OF 'couchantlaw09.PoundPostings'. -/
def poundPostingsCard : Claim7 := { stood := { row := poundPostingsRow, standIns := [], harness := (true, "b3feae5ad39fd11ffd7c3d8ca4ba81a279f245cbeadd232b1020e46106a7cfe8"), looks := true }, kinds := [], alts := [], laidByText := true, laidKinds := [.data, .data, .data, .data, .sentinel, .sentinel, .pinned], laidTests := true, laidLooks := .later }
def PoundPostingsCardSaid : Prop := Claim7.holds Tryz.pinned (.plain (OpenSpec.ofChange poundPostingsSpec)) poundPostingsCard

/-- THE TIED CARD OF 'couchantlaw09.PoundAgain'. -/
def poundAgainCard : Claim7 := { stood := { row := poundAgainRow, standIns := [], harness := (true, "b3feae5ad39fd11ffd7c3d8ca4ba81a279f245cbeadd232b1020e46106a7cfe8"), looks := true }, kinds := [], alts := [], laidByText := true, laidKinds := [.data, .data, .data, .data, .sentinel, .sentinel, .pinned], laidTests := true, laidLooks := .later }
def PoundAgainCardSaid : Prop := Claim7.holds Tryz.pinned (.plain (OpenSpec.ofChange poundAgainSpec)) poundAgainCard

/-- THE TIED CARD OF 'couchantlaw09.PoundSums'. -/
def poundSumsCard : Claim7 := { stood := { row := poundSumsRow, standIns := [], harness := (true, "b3feae5ad39fd11ffd7c3d8ca4ba81a279f245cbeadd232b1020e46106a7cfe8"), looks := true }, kinds := [], alts := [], laidByText := true, laidKinds := [.data, .data, .data, .data, .sentinel, .sentinel, .pinned], laidTests := true, laidLooks := .later }
def PoundSumsCardSaid : Prop := Claim7.holds Tryz.pinned (.plain (OpenSpec.ofChange poundSumsSpec)) poundSumsCard

/-- THE TIED CARD OF 'couchantlaw09.PoundRolls'. -/
def poundRollsCard : Claim7 := { stood := { row := poundRollsRow, standIns := [], harness := (true, "b3feae5ad39fd11ffd7c3d8ca4ba81a279f245cbeadd232b1020e46106a7cfe8"), looks := true }, kinds := [], alts := [], laidByText := true, laidKinds := [.data, .data, .data, .data, .sentinel, .sentinel, .pinned], laidTests := true, laidLooks := .later }
def PoundRollsCardSaid : Prop := Claim7.holds Tryz.pinned (.plain (OpenSpec.ofChange poundRollsSpec)) poundRollsCard

/-- THE TIED CARD OF 'couchantlaw09.PoundDurable'. -/
def poundDurableCard : Claim7 := { stood := { row := poundDurableRow, standIns := [], harness := (true, "b3feae5ad39fd11ffd7c3d8ca4ba81a279f245cbeadd232b1020e46106a7cfe8"), looks := true }, kinds := [], alts := [], laidByText := true, laidKinds := [.data, .data, .data, .data, .sentinel, .sentinel, .pinned], laidTests := true, laidLooks := .later }
def PoundDurableCardSaid : Prop := Claim7.holds Tryz.pinned (.plain (OpenSpec.ofChange poundDurableSpec)) poundDurableCard

/-- THE TIED CARD OF 'couchantlaw09.PoundAlone'. -/
def poundAloneCard : Claim7 := { stood := { row := poundAloneRow, standIns := [], harness := (true, "b3feae5ad39fd11ffd7c3d8ca4ba81a279f245cbeadd232b1020e46106a7cfe8"), looks := true }, kinds := [], alts := [], laidByText := true, laidKinds := [.data, .data, .data, .data, .sentinel, .sentinel, .pinned], laidTests := true, laidLooks := .later }
def PoundAloneCardSaid : Prop := Claim7.holds Tryz.pinned (.plain (OpenSpec.ofChange poundAloneSpec)) poundAloneCard

/-- THE TIED CARD OF 'couchantlaw09.PoundGets'. -/
def poundGetsCard : Claim7 := { stood := { row := poundGetsRow, standIns := [], harness := (true, "b3feae5ad39fd11ffd7c3d8ca4ba81a279f245cbeadd232b1020e46106a7cfe8"), looks := true }, kinds := [], alts := [], laidByText := true, laidKinds := [.data, .data, .data, .data, .sentinel, .sentinel, .pinned], laidTests := true, laidLooks := .later }
def PoundGetsCardSaid : Prop := Claim7.holds Tryz.pinned (.plain (OpenSpec.ofChange poundGetsSpec)) poundGetsCard

/-- THE TIED CARD OF 'couchantlaw09.PoundSpread'. -/
def poundSpreadCard : Claim7 := { stood := { row := poundSpreadRow, standIns := [], harness := (true, "b3feae5ad39fd11ffd7c3d8ca4ba81a279f245cbeadd232b1020e46106a7cfe8"), looks := true }, kinds := [], alts := [], laidByText := true, laidKinds := [.data, .data, .data, .data, .sentinel, .sentinel, .pinned], laidTests := true, laidLooks := .later }
def PoundSpreadCardSaid : Prop := Claim7.holds Tryz.pinned (.plain (OpenSpec.ofChange poundSpreadSpec)) poundSpreadCard

/-- THE TIED CARD OF 'couchantlaw09.PoundKeeps'. -/
def poundKeepsCard : Claim7 := { stood := { row := poundKeepsRow, standIns := [], harness := (true, "b3feae5ad39fd11ffd7c3d8ca4ba81a279f245cbeadd232b1020e46106a7cfe8"), looks := true }, kinds := [], alts := [], laidByText := true, laidKinds := [.data, .data, .data, .data, .sentinel, .sentinel, .pinned], laidTests := true, laidLooks := .later }
def PoundKeepsCardSaid : Prop := Claim7.holds Tryz.pinned (.plain (OpenSpec.ofChange poundKeepsSpec)) poundKeepsCard

/-- THE TIED CARD OF 'couchantlaw09.PoundNil'. -/
def poundNilCard : Claim7 := { stood := { row := poundNilRow, standIns := [], harness := (true, "b3feae5ad39fd11ffd7c3d8ca4ba81a279f245cbeadd232b1020e46106a7cfe8"), looks := true }, kinds := [], alts := [], laidByText := true, laidKinds := [.data, .data, .data, .data, .sentinel, .sentinel, .pinned], laidTests := true, laidLooks := .later }
def PoundNilCardSaid : Prop := Claim7.holds Tryz.pinned (.plain (OpenSpec.ofChange poundNilSpec)) poundNilCard

/-- THE TIED CARD OF 'couchantlaw09.PoundSettles'. -/
def poundSettlesCard : Claim7 := { stood := { row := poundSettlesRow, standIns := [], harness := (true, "b3feae5ad39fd11ffd7c3d8ca4ba81a279f245cbeadd232b1020e46106a7cfe8"), looks := true }, kinds := [], alts := [], laidByText := true, laidKinds := [.data, .data, .data, .data, .sentinel, .sentinel, .pinned], laidTests := true, laidLooks := .later }
def PoundSettlesCardSaid : Prop := Claim7.holds Tryz.pinned (.plain (OpenSpec.ofChange poundSettlesSpec)) poundSettlesCard

/-- THE SECOND FORM's CARD OF 'couchantlaw09.PoundPostings'. -/
def poundPostingsUptoCard : Claim7 := { stood := { row := poundPostingsUptoRow, standIns := [], harness := (true, "b3feae5ad39fd11ffd7c3d8ca4ba81a279f245cbeadd232b1020e46106a7cfe8"), looks := true }, kinds := [], alts := [], laidByText := true, laidKinds := [.data, .data, .data, .data, .sentinel, .sentinel, .pinned], laidTests := true, laidLooks := .later }
def PoundPostingsUptoCardSaid : Prop := Claim7.holds Tryz.pinned (.plain (OpenSpec.upto poundPostingsSpec)) poundPostingsUptoCard

/-- THE SECOND FORM's CARD OF 'couchantlaw09.PoundAgain'. -/
def poundAgainUptoCard : Claim7 := { stood := { row := poundAgainUptoRow, standIns := [], harness := (true, "b3feae5ad39fd11ffd7c3d8ca4ba81a279f245cbeadd232b1020e46106a7cfe8"), looks := true }, kinds := [], alts := [], laidByText := true, laidKinds := [.data, .data, .data, .data, .sentinel, .sentinel, .pinned], laidTests := true, laidLooks := .later }
def PoundAgainUptoCardSaid : Prop := Claim7.holds Tryz.pinned (.plain (OpenSpec.upto poundAgainSpec)) poundAgainUptoCard

/-- THE SECOND FORM's CARD OF 'couchantlaw09.PoundSums'. -/
def poundSumsUptoCard : Claim7 := { stood := { row := poundSumsUptoRow, standIns := [], harness := (true, "b3feae5ad39fd11ffd7c3d8ca4ba81a279f245cbeadd232b1020e46106a7cfe8"), looks := true }, kinds := [], alts := [], laidByText := true, laidKinds := [.data, .data, .data, .data, .sentinel, .sentinel, .pinned], laidTests := true, laidLooks := .later }
def PoundSumsUptoCardSaid : Prop := Claim7.holds Tryz.pinned (.plain (OpenSpec.upto poundSumsSpec)) poundSumsUptoCard

/-- THE SECOND FORM's CARD OF 'couchantlaw09.PoundRolls'. -/
def poundRollsUptoCard : Claim7 := { stood := { row := poundRollsUptoRow, standIns := [], harness := (true, "b3feae5ad39fd11ffd7c3d8ca4ba81a279f245cbeadd232b1020e46106a7cfe8"), looks := true }, kinds := [], alts := [], laidByText := true, laidKinds := [.data, .data, .data, .data, .sentinel, .sentinel, .pinned], laidTests := true, laidLooks := .later }
def PoundRollsUptoCardSaid : Prop := Claim7.holds Tryz.pinned (.plain (OpenSpec.upto poundRollsSpec)) poundRollsUptoCard

/-- THE SECOND FORM's CARD OF 'couchantlaw09.PoundDurable'. -/
def poundDurableUptoCard : Claim7 := { stood := { row := poundDurableUptoRow, standIns := [], harness := (true, "b3feae5ad39fd11ffd7c3d8ca4ba81a279f245cbeadd232b1020e46106a7cfe8"), looks := true }, kinds := [], alts := [], laidByText := true, laidKinds := [.data, .data, .data, .data, .sentinel, .sentinel, .pinned], laidTests := true, laidLooks := .later }
def PoundDurableUptoCardSaid : Prop := Claim7.holds Tryz.pinned (.plain (OpenSpec.upto poundDurableSpec)) poundDurableUptoCard

/-- THE SECOND FORM's CARD OF 'couchantlaw09.PoundAlone'. -/
def poundAloneUptoCard : Claim7 := { stood := { row := poundAloneUptoRow, standIns := [], harness := (true, "b3feae5ad39fd11ffd7c3d8ca4ba81a279f245cbeadd232b1020e46106a7cfe8"), looks := true }, kinds := [], alts := [], laidByText := true, laidKinds := [.data, .data, .data, .data, .sentinel, .sentinel, .pinned], laidTests := true, laidLooks := .later }
def PoundAloneUptoCardSaid : Prop := Claim7.holds Tryz.pinned (.plain (OpenSpec.upto poundAloneSpec)) poundAloneUptoCard

/-- THE SECOND FORM's CARD OF 'couchantlaw09.PoundGets'. -/
def poundGetsUptoCard : Claim7 := { stood := { row := poundGetsUptoRow, standIns := [], harness := (true, "b3feae5ad39fd11ffd7c3d8ca4ba81a279f245cbeadd232b1020e46106a7cfe8"), looks := true }, kinds := [], alts := [], laidByText := true, laidKinds := [.data, .data, .data, .data, .sentinel, .sentinel, .pinned], laidTests := true, laidLooks := .later }
def PoundGetsUptoCardSaid : Prop := Claim7.holds Tryz.pinned (.plain (OpenSpec.upto poundGetsSpec)) poundGetsUptoCard

/-- THE SECOND FORM's CARD OF 'couchantlaw09.PoundSpread'. -/
def poundSpreadUptoCard : Claim7 := { stood := { row := poundSpreadUptoRow, standIns := [], harness := (true, "b3feae5ad39fd11ffd7c3d8ca4ba81a279f245cbeadd232b1020e46106a7cfe8"), looks := true }, kinds := [], alts := [], laidByText := true, laidKinds := [.data, .data, .data, .data, .sentinel, .sentinel, .pinned], laidTests := true, laidLooks := .later }
def PoundSpreadUptoCardSaid : Prop := Claim7.holds Tryz.pinned (.plain (OpenSpec.upto poundSpreadSpec)) poundSpreadUptoCard

/-- THE SECOND FORM's CARD OF 'couchantlaw09.PoundKeeps'. -/
def poundKeepsUptoCard : Claim7 := { stood := { row := poundKeepsUptoRow, standIns := [], harness := (true, "b3feae5ad39fd11ffd7c3d8ca4ba81a279f245cbeadd232b1020e46106a7cfe8"), looks := true }, kinds := [], alts := [], laidByText := true, laidKinds := [.data, .data, .data, .data, .sentinel, .sentinel, .pinned], laidTests := true, laidLooks := .later }
def PoundKeepsUptoCardSaid : Prop := Claim7.holds Tryz.pinned (.plain (OpenSpec.upto poundKeepsSpec)) poundKeepsUptoCard

/-- THE SECOND FORM's CARD OF 'couchantlaw09.PoundNil'. -/
def poundNilUptoCard : Claim7 := { stood := { row := poundNilUptoRow, standIns := [], harness := (true, "b3feae5ad39fd11ffd7c3d8ca4ba81a279f245cbeadd232b1020e46106a7cfe8"), looks := true }, kinds := [], alts := [], laidByText := true, laidKinds := [.data, .data, .data, .data, .sentinel, .sentinel, .pinned], laidTests := true, laidLooks := .later }
def PoundNilUptoCardSaid : Prop := Claim7.holds Tryz.pinned (.plain (OpenSpec.upto poundNilSpec)) poundNilUptoCard

/-- THE SECOND FORM's CARD OF 'couchantlaw09.PoundSettles'. -/
def poundSettlesUptoCard : Claim7 := { stood := { row := poundSettlesUptoRow, standIns := [], harness := (true, "b3feae5ad39fd11ffd7c3d8ca4ba81a279f245cbeadd232b1020e46106a7cfe8"), looks := true }, kinds := [], alts := [], laidByText := true, laidKinds := [.data, .data, .data, .data, .sentinel, .sentinel, .pinned], laidTests := true, laidLooks := .later }
def PoundSettlesUptoCardSaid : Prop := Claim7.holds Tryz.pinned (.plain (OpenSpec.upto poundSettlesSpec)) poundSettlesUptoCard
end Rows
end Go.Proofs.YtocabeobfbhajaaGreatDoor
