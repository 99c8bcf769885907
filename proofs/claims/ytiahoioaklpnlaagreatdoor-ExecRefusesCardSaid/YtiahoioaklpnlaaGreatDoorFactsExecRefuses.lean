/-
  The closed facts of the row of ExecRefuses, one by one.
-/
import Derived.Test.YtiahoioaklpnlaaGreatDoorRows
import Derived.ProofKit
namespace Go.Proofs.YtiahoioaklpnlaaGreatDoor.execRefusesFacts
open Go.ChangeShapes Go.WideShapes Go.ChangeAt Go.RowKit Go.Proofs.YtiahoioaklpnlaaGreatDoor
set_option maxRecDepth 100000
theorem f00 : (Rows.execRefusesRow.wf (OpenSpec.ofChange Rows.execRefusesSpec)) = true := by kernel_rfl
theorem f01 : (laidOutB Tryz.prog) = true := by kernel_rfl
theorem f02 : (mapsRowed Tryz.prog) = true := by kernel_rfl
theorem f03 : (Tryz.f3.params.all (Tryz.prog.readableRec ·)) = true := by kernel_rfl
theorem f04 : (namedTie Tryz.prog Rows.execRefusesRow.named Rows.execRefusesSpec.vars) = true := by kernel_rfl
theorem f05 : ((Rows.execRefusesRow.stops == [])) = true := by kernel_rfl
theorem f06 : ((Tryz.prog.stops == [])) = true := by kernel_rfl
theorem f07 : ((Rows.execRefusesRow.knobs == [])) = true := by kernel_rfl
theorem f08 : ((Tryz.prog.stopKnobs == [])) = true := by kernel_rfl
theorem f09 : ((Rows.execRefusesRow.inPlace == Tryz.prog.inPlace 3)) = true := by kernel_rfl
theorem f10 : ((Rows.execRefusesRow.unfollowed == Tryz.prog.unfollowed 3)) = true := by kernel_rfl
theorem f11 : ((Rows.execRefusesRow.recurses == Tryz.prog.recurses 3)) = true := by kernel_rfl
theorem f12 : ((Rows.execRefusesRow.named == Tryz.prog.varsNamed 3)) = true := by kernel_rfl
theorem f13 : ((Rows.execRefusesRow.maps == (Tryz.f3.params.toList ++ Rows.execRefusesSpec.plain.varTypes Tryz.prog).any (Tryz.prog.mapsRec ·))) = true := by kernel_rfl
theorem f14 : ((Rows.execRefusesRow.ifaces == (Tryz.f3.params.toList ++ Rows.execRefusesSpec.plain.varTypes Tryz.prog).any (Tryz.prog.ifacesRec ·))) = true := by kernel_rfl
theorem f15 : ((Rows.execRefusesRow.mapsOut == Tryz.prog.mapsAmong Tryz.f3.resultTypes.toList)) = true := by kernel_rfl
theorem f16 : ((Rows.execRefusesRow.loops == (Tryz.f3.params.toList ++ Rows.execRefusesSpec.plain.varTypes Tryz.prog).any (Tryz.prog.loopsFrom ·))) = true := by kernel_rfl
theorem f17 : ((Rows.execRefusesRow.wideKeys == (Tryz.f3.params.toList ++ Rows.execRefusesSpec.plain.varTypes Tryz.prog ++ Tryz.f3.resultTypes.toList).any (Tryz.prog.wideKeysFrom ·))) = true := by kernel_rfl
theorem f18 : (Rows.execRefusesSpec.vars.all (Tryz.prog.varReadable ·)) = true := by kernel_rfl
theorem f19 : (Tryz.f3.resultTypes.all (fun t => Tryz.prog.readableRec t && decide (t < Tryz.prog.types.size))) = true := by kernel_rfl
theorem f20 : ((Rows.execRefusesRow.ifacesOut == Tryz.f3.resultTypes.toList.any (Tryz.prog.ifacesRec ·))) = true := by kernel_rfl
theorem f21 : ((Rows.execRefusesRow.loopsOut == Tryz.f3.resultTypes.toList.any (Tryz.prog.loopsFrom ·))) = true := by kernel_rfl
theorem f22 : ((Rows.execRefusesRow.plainKeys == Tryz.prog.plainKeys)) = true := by kernel_rfl
theorem f23 : (Rows.execRefusesRow.shortTexts.isNone) = true := by kernel_rfl
theorem f24 : (Tryz.prog.stopsHeard) = true := by kernel_rfl
theorem f25 : (Tryz.prog.mayEnter) = true := by kernel_rfl
theorem f26 : ((Rows.execRefusesRow.lifted == Tryz.prog.liftsFinal)) = true := by kernel_rfl
theorem f27 : ((Tryz.prog.make == some Rows.execRefusesRow.make)) = true := by kernel_rfl
theorem f29 : ((Rows.execRefusesRow.pinned == Rows.execRefusesRow.pinnedBy)) = true := by kernel_rfl
theorem f30 : ((Rows.execRefusesRow.veiled == (Tryz.f3.params.toList ++ Rows.execRefusesSpec.plain.varTypes Tryz.prog ++ Tryz.f3.resultTypes.toList).any (Tryz.prog.veiledRec ·))) = true := by kernel_rfl
theorem f31 : (Rows.execRefusesRow.veiledFits Tryz.prog Tryz.f3.params.toList (Tryz.f3.params.toList ++ Rows.execRefusesSpec.plain.varTypes Tryz.prog ++ Tryz.f3.resultTypes.toList)) = true := by kernel_rfl
theorem joined : joinedFacts Tryz.prog 3 Tryz.f3 Rows.execRefusesSpec Rows.execRefusesRow = true := by
  unfold joinedFacts
  simp only [f00, f01, f02, f03, f04, f05, f06, f07, f08, f09, f10, f11, f12, f13, f14, f15, f16, f17, f18, f19, f20, f21, f22, f23, f24, f25, f26, f27, f29, f30, f31, Bool.and_self]
  kernel_rfl
theorem named : Tryz.pinned.checked.prog.funcNamed Rows.execRefusesRow.func = some 3 := by kernel_rfl
theorem inst : Tryz.f3.isInstance Tryz.pinned.checked.prog Rows.execRefusesRow.origin Rows.execRefusesRow.targs := of_decide_eq_true (by kernel_rfl)
theorem wrap : Tryz.f3.isWrapper Tryz.pinned.checked.prog Rows.execRefusesRow.wrapper Rows.execRefusesRow.mainSum := by unfold Func.isWrapper; first | (rw [if_pos (by decide +kernel)]; kernel_rfl) | (rw [if_neg (by decide +kernel)]; exact ⟨rfl, rfl⟩)
end Go.Proofs.YtiahoioaklpnlaaGreatDoor.execRefusesFacts
