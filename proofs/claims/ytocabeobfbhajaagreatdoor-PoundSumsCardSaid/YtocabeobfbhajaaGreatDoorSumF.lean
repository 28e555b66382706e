/- PoundSums: the row's closed facts. -/
import Derived.Test.YtocabeobfbhajaaGreatDoorRows
import Derived.ProofKit
section
namespace Go.Proofs.YtocabeobfbhajaaGreatDoor.poundSums
open Go Go.RowKit
set_option maxRecDepth 100000
theorem named : Tryz.prog.funcNamed "couchant/couchantlaw09.PoundSums" = some 5 := by kernel_rfl
theorem inst : Tryz.f5.isInstance Tryz.prog Rows.poundSumsRow.origin Rows.poundSumsRow.targs := of_decide_eq_true (by kernel_rfl)
theorem wrap : Tryz.f5.isWrapper Tryz.prog Rows.poundSumsRow.wrapper Rows.poundSumsRow.mainSum := by unfold Func.isWrapper; first | (rw [if_pos (by decide +kernel)]; kernel_rfl) | (rw [if_neg (by decide +kernel)]; exact ⟨rfl, rfl⟩)
theorem fact0 : (Rows.poundSumsRow.wf (OpenSpec.ofChange Rows.poundSumsSpec)) = true := by kernel_rfl
theorem fact1 : (laidOutB Tryz.prog) = true := by kernel_rfl
theorem fact2 : (mapsRowed Tryz.prog) = true := by kernel_rfl
theorem fact3 : (Tryz.f5.params.all (Tryz.prog.readableRec ·)) = true := by kernel_rfl
theorem fact4 : (namedTie Tryz.prog Rows.poundSumsRow.named Rows.poundSumsSpec.vars) = true := by kernel_rfl
theorem fact5 : (Rows.poundSumsRow.stops == []) = true := by kernel_rfl
theorem fact6 : (Tryz.prog.stops == []) = true := by kernel_rfl
theorem fact7 : (Rows.poundSumsRow.knobs == []) = true := by kernel_rfl
theorem fact8 : (Tryz.prog.stopKnobs == []) = true := by kernel_rfl
theorem fact9 : (Rows.poundSumsRow.inPlace == Tryz.prog.inPlace 5) = true := by kernel_rfl
theorem fact10 : (Rows.poundSumsRow.unfollowed == Tryz.prog.unfollowed 5) = true := by kernel_rfl
theorem fact11 : (Rows.poundSumsRow.recurses == Tryz.prog.recurses 5) = true := by kernel_rfl
theorem fact12 : (Rows.poundSumsRow.named == Tryz.prog.varsNamed 5) = true := by kernel_rfl
theorem fact13 : (Rows.poundSumsRow.maps == (Tryz.f5.params.toList ++ Rows.poundSumsSpec.plain.varTypes Tryz.prog).any (Tryz.prog.mapsRec ·)) = true := by kernel_rfl
theorem fact14 : (Rows.poundSumsRow.ifaces == (Tryz.f5.params.toList ++ Rows.poundSumsSpec.plain.varTypes Tryz.prog).any (Tryz.prog.ifacesRec ·)) = true := by kernel_rfl
theorem fact15 : (Rows.poundSumsRow.mapsOut == Tryz.prog.mapsAmong Tryz.f5.resultTypes.toList) = true := by kernel_rfl
theorem fact16 : (Rows.poundSumsRow.loops == (Tryz.f5.params.toList ++ Rows.poundSumsSpec.plain.varTypes Tryz.prog).any (Tryz.prog.loopsFrom ·)) = true := by kernel_rfl
theorem fact17 : (Rows.poundSumsRow.wideKeys == (Tryz.f5.params.toList ++ Rows.poundSumsSpec.plain.varTypes Tryz.prog ++ Tryz.f5.resultTypes.toList).any (Tryz.prog.wideKeysFrom ·)) = true := by kernel_rfl
theorem fact18 : (Rows.poundSumsSpec.vars.all (Tryz.prog.varReadable ·)) = true := by kernel_rfl
theorem fact19 : (Tryz.f5.resultTypes.all (fun t => Tryz.prog.readableRec t && decide (t < Tryz.prog.types.size))) = true := by kernel_rfl
theorem fact20 : (Rows.poundSumsRow.ifacesOut == Tryz.f5.resultTypes.toList.any (Tryz.prog.ifacesRec ·)) = true := by kernel_rfl
theorem fact21 : (Rows.poundSumsRow.loopsOut == Tryz.f5.resultTypes.toList.any (Tryz.prog.loopsFrom ·)) = true := by kernel_rfl
theorem fact22 : (Rows.poundSumsRow.plainKeys == Tryz.prog.plainKeys) = true := by kernel_rfl
theorem fact23 : (Rows.poundSumsRow.shortTexts.isNone) = true := by kernel_rfl
theorem fact24 : (Tryz.prog.stopsHeard) = true := by kernel_rfl
theorem fact25 : (Tryz.prog.mayEnter) = true := by kernel_rfl
theorem fact26 : (Rows.poundSumsRow.lifted == Tryz.prog.liftsFinal) = true := by kernel_rfl
theorem fact27 : (Tryz.prog.make == some Rows.poundSumsRow.make) = true := by kernel_rfl
theorem fact28 : (Rows.poundSumsRow.kinds == (if Rows.poundSumsRow.domain.isEmpty then [] else Tryz.f5.params.toList.map fun t => match Tryz.prog.underlying t with | some (.int k) => some k | _ => none)) = true := by kernel_rfl
theorem fact29 : (Rows.poundSumsRow.pinned == Rows.poundSumsRow.pinnedBy) = true := by kernel_rfl
theorem fact30 : (Rows.poundSumsRow.veiled == (Tryz.f5.params.toList ++ Rows.poundSumsSpec.plain.varTypes Tryz.prog ++ Tryz.f5.resultTypes.toList).any (Tryz.prog.veiledRec ·)) = true := by kernel_rfl
theorem fact31 : (Rows.poundSumsRow.veiledFits Tryz.prog Tryz.f5.params.toList (Tryz.f5.params.toList ++ Rows.poundSumsSpec.plain.varTypes Tryz.prog ++ Tryz.f5.resultTypes.toList)) = true := by kernel_rfl
theorem closed : joinedFacts Tryz.prog 5 Tryz.f5 Rows.poundSumsSpec Rows.poundSumsRow = true := by
 unfold joinedFacts
 simp only [Bool.and_eq_true]
 refine ⟨⟨⟨⟨⟨⟨⟨⟨⟨⟨⟨⟨⟨⟨⟨⟨⟨⟨⟨⟨⟨⟨⟨⟨⟨⟨⟨⟨⟨⟨⟨?_, ?_⟩, ?_⟩, ?_⟩, ?_⟩, ?_⟩, ?_⟩, ?_⟩, ?_⟩, ?_⟩, ?_⟩, ?_⟩, ?_⟩, ?_⟩, ?_⟩, ?_⟩, ?_⟩, ?_⟩, ?_⟩, ?_⟩, ?_⟩, ?_⟩, ?_⟩, ?_⟩, ?_⟩, ?_⟩, ?_⟩, ?_⟩, ?_⟩, ?_⟩, ?_⟩, ?_⟩
 ·exact fact0
 ·exact fact1
 ·exact fact2
 ·exact fact3
 ·exact fact4
 ·exact fact5
 ·exact fact6
 ·exact fact7
 ·exact fact8
 ·exact fact9
 ·exact fact10
 ·exact fact11
 ·exact fact12
 ·exact fact13
 ·exact fact14
 ·exact fact15
 ·exact fact16
 ·exact fact17
 ·exact fact18
 ·exact fact19
 ·exact fact20
 ·exact fact21
 ·exact fact22
 ·exact fact23
 ·exact fact24
 ·exact fact25
 ·exact fact26
 ·exact fact27
 ·exact fact28
 ·exact fact29
 ·exact fact30
 ·exact fact31
end Go.Proofs.YtocabeobfbhajaaGreatDoor.poundSums
end
