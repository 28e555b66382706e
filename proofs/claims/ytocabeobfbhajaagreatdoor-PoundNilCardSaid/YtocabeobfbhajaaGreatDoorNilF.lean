/- PoundNil: the row's closed facts. -/
import Derived.Test.YtocabeobfbhajaaGreatDoorRows
import Derived.ProofKit
namespace Go.Proofs.YtocabeobfbhajaaGreatDoor.poundNil
open Go Go.RowKit
set_option maxRecDepth 100000
theorem named : Tryz.prog.funcNamed "couchant/couchantlaw09.PoundNil" = some 12 := by kernel_rfl
theorem inst : Tryz.f12.isInstance Tryz.prog Rows.poundNilRow.origin Rows.poundNilRow.targs := of_decide_eq_true (by kernel_rfl)
theorem wrap : Tryz.f12.isWrapper Tryz.prog Rows.poundNilRow.wrapper Rows.poundNilRow.mainSum := by unfold Func.isWrapper; first | (rw [if_pos (by decide +kernel)]; kernel_rfl) | (rw [if_neg (by decide +kernel)]; exact ⟨rfl, rfl⟩)
theorem fact0 : (Rows.poundNilRow.wf (OpenSpec.ofChange Rows.poundNilSpec)) = true := by kernel_rfl
theorem fact1 : (laidOutB Tryz.prog) = true := by kernel_rfl
theorem fact2 : (mapsRowed Tryz.prog) = true := by kernel_rfl
theorem fact3 : (Tryz.f12.params.all (Tryz.prog.readableRec ·)) = true := by kernel_rfl
theorem fact4 : (namedTie Tryz.prog Rows.poundNilRow.named Rows.poundNilSpec.vars) = true := by kernel_rfl
theorem fact5 : (Rows.poundNilRow.stops == []) = true := by kernel_rfl
theorem fact6 : (Tryz.prog.stops == []) = true := by kernel_rfl
theorem fact7 : (Rows.poundNilRow.knobs == []) = true := by kernel_rfl
theorem fact8 : (Tryz.prog.stopKnobs == []) = true := by kernel_rfl
theorem fact9 : (Rows.poundNilRow.inPlace == Tryz.prog.inPlace 12) = true := by kernel_rfl
theorem fact10 : (Rows.poundNilRow.unfollowed == Tryz.prog.unfollowed 12) = true := by kernel_rfl
theorem fact11 : (Rows.poundNilRow.recurses == Tryz.prog.recurses 12) = true := by kernel_rfl
theorem fact12 : (Rows.poundNilRow.named == Tryz.prog.varsNamed 12) = true := by kernel_rfl
theorem fact13 : (Rows.poundNilRow.maps == (Tryz.f12.params.toList ++ Rows.poundNilSpec.plain.varTypes Tryz.prog).any (Tryz.prog.mapsRec ·)) = true := by kernel_rfl
theorem fact14 : (Rows.poundNilRow.ifaces == (Tryz.f12.params.toList ++ Rows.poundNilSpec.plain.varTypes Tryz.prog).any (Tryz.prog.ifacesRec ·)) = true := by kernel_rfl
theorem fact15 : (Rows.poundNilRow.mapsOut == Tryz.prog.mapsAmong Tryz.f12.resultTypes.toList) = true := by kernel_rfl
theorem fact16 : (Rows.poundNilRow.loops == (Tryz.f12.params.toList ++ Rows.poundNilSpec.plain.varTypes Tryz.prog).any (Tryz.prog.loopsFrom ·)) = true := by kernel_rfl
theorem fact17 : (Rows.poundNilRow.wideKeys == (Tryz.f12.params.toList ++ Rows.poundNilSpec.plain.varTypes Tryz.prog ++ Tryz.f12.resultTypes.toList).any (Tryz.prog.wideKeysFrom ·)) = true := by kernel_rfl
theorem fact18 : (Rows.poundNilSpec.vars.all (Tryz.prog.varReadable ·)) = true := by kernel_rfl
theorem fact19 : (Tryz.f12.resultTypes.all (fun t => Tryz.prog.readableRec t && decide (t < Tryz.prog.types.size))) = true := by kernel_rfl
theorem fact20 : (Rows.poundNilRow.ifacesOut == Tryz.f12.resultTypes.toList.any (Tryz.prog.ifacesRec ·)) = true := by kernel_rfl
theorem fact21 : (Rows.poundNilRow.loopsOut == Tryz.f12.resultTypes.toList.any (Tryz.prog.loopsFrom ·)) = true := by kernel_rfl
theorem fact22 : (Rows.poundNilRow.plainKeys == Tryz.prog.plainKeys) = true := by kernel_rfl
theorem fact23 : (Rows.poundNilRow.shortTexts.isNone) = true := by kernel_rfl
theorem fact24 : (Tryz.prog.stopsHeard) = true := by kernel_rfl
theorem fact25 : (Tryz.prog.mayEnter) = true := by kernel_rfl
theorem fact26 : (Rows.poundNilRow.lifted == Tryz.prog.liftsFinal) = true := by kernel_rfl
theorem fact27 : (Tryz.prog.make == some Rows.poundNilRow.make) = true := by kernel_rfl
theorem fact28 : (Rows.poundNilRow.kinds == (if Rows.poundNilRow.domain.isEmpty then [] else Tryz.f12.params.toList.map fun t => match Tryz.prog.underlying t with | some (.int k) => some k | _ => none)) = true := by kernel_rfl
theorem fact29 : (Rows.poundNilRow.pinned == Rows.poundNilRow.pinnedBy) = true := by kernel_rfl
theorem fact30 : (Rows.poundNilRow.veiled == (Tryz.f12.params.toList ++ Rows.poundNilSpec.plain.varTypes Tryz.prog ++ Tryz.f12.resultTypes.toList).any (Tryz.prog.veiledRec ·)) = true := by kernel_rfl
theorem fact31 : (Rows.poundNilRow.veiledFits Tryz.prog Tryz.f12.params.toList (Tryz.f12.params.toList ++ Rows.poundNilSpec.plain.varTypes Tryz.prog ++ Tryz.f12.resultTypes.toList)) = true := by kernel_rfl
theorem closed : joinedFacts Tryz.prog 12 Tryz.f12 Rows.poundNilSpec Rows.poundNilRow = true := by
  unfold joinedFacts
  simp only [Bool.and_eq_true]
  refine ⟨⟨⟨⟨⟨⟨⟨⟨⟨⟨⟨⟨⟨⟨⟨⟨⟨⟨⟨⟨⟨⟨⟨⟨⟨⟨⟨⟨⟨⟨⟨?_, ?_⟩, ?_⟩, ?_⟩, ?_⟩, ?_⟩, ?_⟩, ?_⟩, ?_⟩, ?_⟩, ?_⟩, ?_⟩, ?_⟩, ?_⟩, ?_⟩, ?_⟩, ?_⟩, ?_⟩, ?_⟩, ?_⟩, ?_⟩, ?_⟩, ?_⟩, ?_⟩, ?_⟩, ?_⟩, ?_⟩, ?_⟩, ?_⟩, ?_⟩, ?_⟩, ?_⟩
  · exact fact0
  · exact fact1
  · exact fact2
  · exact fact3
  · exact fact4
  · exact fact5
  · exact fact6
  · exact fact7
  · exact fact8
  · exact fact9
  · exact fact10
  · exact fact11
  · exact fact12
  · exact fact13
  · exact fact14
  · exact fact15
  · exact fact16
  · exact fact17
  · exact fact18
  · exact fact19
  · exact fact20
  · exact fact21
  · exact fact22
  · exact fact23
  · exact fact24
  · exact fact25
  · exact fact26
  · exact fact27
  · exact fact28
  · exact fact29
  · exact fact30
  · exact fact31
end Go.Proofs.YtocabeobfbhajaaGreatDoor.poundNil
