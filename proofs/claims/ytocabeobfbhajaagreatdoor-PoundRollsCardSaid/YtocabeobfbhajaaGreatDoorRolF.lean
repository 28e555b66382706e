/- PoundRolls: the row's closed facts. -/
import Derived.Test.YtocabeobfbhajaaGreatDoorRows
import Derived.ProofKit
set_option linter.unusedVariables false
set_option linter.unusedSimpArgs false
set_option linter.unusedSectionVars false
section
namespace Go.Proofs.YtocabeobfbhajaaGreatDoor.poundRolls
open Go Go.RowKit
set_option maxRecDepth 100000
theorem named : Tryz.prog.funcNamed "couchant/couchantlaw09.PoundRolls" = some 6 := by kernel_rfl
theorem inst : Tryz.f6.isInstance Tryz.prog Rows.poundRollsRow.origin Rows.poundRollsRow.targs := of_decide_eq_true (by kernel_rfl)
theorem wrap : Tryz.f6.isWrapper Tryz.prog Rows.poundRollsRow.wrapper Rows.poundRollsRow.mainSum := by unfold Func.isWrapper; first | (rw [if_pos (by decide +kernel)]; kernel_rfl) | (rw [if_neg (by decide +kernel)]; exact ⟨rfl, rfl⟩)
theorem fact0 : (Rows.poundRollsRow.wf (OpenSpec.ofChange Rows.poundRollsSpec)) = true := by kernel_rfl
theorem fact1 : (laidOutB Tryz.prog) = true := by kernel_rfl
theorem fact2 : (mapsRowed Tryz.prog) = true := by kernel_rfl
theorem fact3 : (Tryz.f6.params.all (Tryz.prog.readableRec ·)) = true := by kernel_rfl
theorem fact4 : (namedTie Tryz.prog Rows.poundRollsRow.named Rows.poundRollsSpec.vars) = true := by kernel_rfl
theorem fact5 : (Rows.poundRollsRow.stops == []) = true := by kernel_rfl
theorem fact6 : (Tryz.prog.stops == []) = true := by kernel_rfl
theorem fact7 : (Rows.poundRollsRow.knobs == []) = true := by kernel_rfl
theorem fact8 : (Tryz.prog.stopKnobs == []) = true := by kernel_rfl
theorem fact9 : (Rows.poundRollsRow.inPlace == Tryz.prog.inPlace 6) = true := by kernel_rfl
theorem fact10 : (Rows.poundRollsRow.unfollowed == Tryz.prog.unfollowed 6) = true := by kernel_rfl
theorem fact11 : (Rows.poundRollsRow.recurses == Tryz.prog.recurses 6) = true := by kernel_rfl
theorem fact12 : (Rows.poundRollsRow.named == Tryz.prog.varsNamed 6) = true := by kernel_rfl
theorem fact13 : (Rows.poundRollsRow.maps == (Tryz.f6.params.toList ++ Rows.poundRollsSpec.plain.varTypes Tryz.prog).any (Tryz.prog.mapsRec ·)) = true := by kernel_rfl
theorem fact14 : (Rows.poundRollsRow.ifaces == (Tryz.f6.params.toList ++ Rows.poundRollsSpec.plain.varTypes Tryz.prog).any (Tryz.prog.ifacesRec ·)) = true := by kernel_rfl
theorem fact15 : (Rows.poundRollsRow.mapsOut == Tryz.prog.mapsAmong Tryz.f6.resultTypes.toList) = true := by kernel_rfl
theorem fact16 : (Rows.poundRollsRow.loops == (Tryz.f6.params.toList ++ Rows.poundRollsSpec.plain.varTypes Tryz.prog).any (Tryz.prog.loopsFrom ·)) = true := by kernel_rfl
theorem fact17 : (Rows.poundRollsRow.wideKeys == (Tryz.f6.params.toList ++ Rows.poundRollsSpec.plain.varTypes Tryz.prog ++ Tryz.f6.resultTypes.toList).any (Tryz.prog.wideKeysFrom ·)) = true := by kernel_rfl
theorem fact18 : (Rows.poundRollsSpec.vars.all (Tryz.prog.varReadable ·)) = true := by kernel_rfl
theorem fact19 : (Tryz.f6.resultTypes.all (fun t => Tryz.prog.readableRec t && decide (t < Tryz.prog.types.size))) = true := by kernel_rfl
theorem fact20 : (Rows.poundRollsRow.ifacesOut == Tryz.f6.resultTypes.toList.any (Tryz.prog.ifacesRec ·)) = true := by kernel_rfl
theorem fact21 : (Rows.poundRollsRow.loopsOut == Tryz.f6.resultTypes.toList.any (Tryz.prog.loopsFrom ·)) = true := by kernel_rfl
theorem fact22 : (Rows.poundRollsRow.plainKeys == Tryz.prog.plainKeys) = true := by kernel_rfl
theorem fact23 : (Rows.poundRollsRow.shortTexts.isNone) = true := by kernel_rfl
theorem fact24 : (Tryz.prog.stopsHeard) = true := by kernel_rfl
theorem fact25 : (Tryz.prog.mayEnter) = true := by kernel_rfl
theorem fact26 : (Rows.poundRollsRow.lifted == Tryz.prog.liftsFinal) = true := by kernel_rfl
theorem fact27 : (Tryz.prog.make == some Rows.poundRollsRow.make) = true := by kernel_rfl
theorem fact28 : (Rows.poundRollsRow.kinds == (if Rows.poundRollsRow.domain.isEmpty then [] else Tryz.f6.params.toList.map fun t => match Tryz.prog.underlying t with | some (.int k) => some k | _ => none)) = true := by kernel_rfl
theorem fact29 : (Rows.poundRollsRow.pinned == Rows.poundRollsRow.pinnedBy) = true := by kernel_rfl
theorem fact30 : (Rows.poundRollsRow.veiled == (Tryz.f6.params.toList ++ Rows.poundRollsSpec.plain.varTypes Tryz.prog ++ Tryz.f6.resultTypes.toList).any (Tryz.prog.veiledRec ·)) = true := by kernel_rfl
theorem fact31 : (Rows.poundRollsRow.veiledFits Tryz.prog Tryz.f6.params.toList (Tryz.f6.params.toList ++ Rows.poundRollsSpec.plain.varTypes Tryz.prog ++ Tryz.f6.resultTypes.toList)) = true := by kernel_rfl
theorem closed : joinedFacts Tryz.prog 6 Tryz.f6 Rows.poundRollsSpec Rows.poundRollsRow = true := by
 unfold joinedFacts
 simp only [Bool.and_eq_true]
 refine ⟨⟨⟨⟨⟨⟨⟨⟨⟨⟨⟨⟨⟨⟨⟨⟨⟨⟨⟨⟨⟨⟨⟨⟨⟨⟨⟨⟨⟨⟨⟨?_, ?_⟩, ?_⟩, ?_⟩, ?_⟩, ?_⟩, ?_⟩, ?_⟩, ?_⟩, ?_⟩, ?_⟩, ?_⟩, ?_⟩, ?_⟩, ?_⟩, ?_⟩, ?_⟩, ?_⟩, ?_⟩, ?_⟩, ?_⟩, ?_⟩, ?_⟩, ?_⟩, ?_⟩, ?_⟩, ?_⟩, ?_⟩, ?_⟩, ?_⟩, ?_⟩, ?_⟩
 ·exact fact0
 ·exact fact1
 ·exact fact2
 ·exact fact3
 ·exact fact4
 ·exact fact5
 ·exact fact6
 ·exact fact7
 ·exact fact8
 ·exact fact9
 ·exact fact10
 ·exact fact11
 ·exact fact12
 ·exact fact13
 ·exact fact14
 ·exact fact15
 ·exact fact16
 ·exact fact17
 ·exact fact18
 ·exact fact19
 ·exact fact20
 ·exact fact21
 ·exact fact22
 ·exact fact23
 ·exact fact24
 ·exact fact25
 ·exact fact26
 ·exact fact27
 ·exact fact28
 ·exact fact29
 ·exact fact30
 ·exact fact31
end Go.Proofs.YtocabeobfbhajaaGreatDoor.poundRolls
end
