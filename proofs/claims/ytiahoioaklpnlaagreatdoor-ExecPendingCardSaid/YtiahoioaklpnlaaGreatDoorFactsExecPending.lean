/-
  The closed facts of the row of ExecPending, one by one.
-/
import Derived.Test.YtiahoioaklpnlaaGreatDoorRows
import Derived.ProofKit
namespace Go.Proofs.YtiahoioaklpnlaaGreatDoor.execPendingFacts
open Go.ChangeShapes Go.WideShapes Go.ChangeAt Go.RowKit Go.Proofs.YtiahoioaklpnlaaGreatDoor
set_option maxRecDepth 100000
theorem f00 : (Rows.execPendingRow.wf (OpenSpec.ofChange Rows.execPendingSpec)) = true := by kernel_rfl
theorem f01 : (laidOutB Tryz.prog) = true := by kernel_rfl
theorem f02 : (mapsRowed Tryz.prog) = true := by kernel_rfl
theorem f03 : (Tryz.f4.params.all (Tryz.prog.readableRec ·)) = true := by kernel_rfl
theorem f04 : (namedTie Tryz.prog Rows.execPendingRow.named Rows.execPendingSpec.vars) = true := by kernel_rfl
theorem f05 : ((Rows.execPendingRow.stops == [])) = true := by kernel_rfl
theorem f06 : ((Tryz.prog.stops == [])) = true := by kernel_rfl
theorem f07 : ((Rows.execPendingRow.knobs == [])) = true := by kernel_rfl
theorem f08 : ((Tryz.prog.stopKnobs == [])) = true := by kernel_rfl
theorem f09 : ((Rows.execPendingRow.inPlace == Tryz.prog.inPlace 4)) = true := by kernel_rfl
theorem f10 : ((Rows.execPendingRow.unfollowed == Tryz.prog.unfollowed 4)) = true := by kernel_rfl
theorem f11 : ((Rows.execPendingRow.recurses == Tryz.prog.recurses 4)) = true := by kernel_rfl
theorem f12 : ((Rows.execPendingRow.named == Tryz.prog.varsNamed 4)) = true := by kernel_rfl
theorem f13 : ((Rows.execPendingRow.maps == (Tryz.f4.params.toList ++ Rows.execPendingSpec.plain.varTypes Tryz.prog).any (Tryz.prog.mapsRec ·))) = true := by kernel_rfl
theorem f14 : ((Rows.execPendingRow.ifaces == (Tryz.f4.params.toList ++ Rows.execPendingSpec.plain.varTypes Tryz.prog).any (Tryz.prog.ifacesRec ·))) = true := by kernel_rfl
theorem f15 : ((Rows.execPendingRow.mapsOut == Tryz.prog.mapsAmong Tryz.f4.resultTypes.toList)) = true := by kernel_rfl
theorem f16 : ((Rows.execPendingRow.loops == (Tryz.f4.params.toList ++ Rows.execPendingSpec.plain.varTypes Tryz.prog).any (Tryz.prog.loopsFrom ·))) = true := by kernel_rfl
theorem f17 : ((Rows.execPendingRow.wideKeys == (Tryz.f4.params.toList ++ Rows.execPendingSpec.plain.varTypes Tryz.prog ++ Tryz.f4.resultTypes.toList).any (Tryz.prog.wideKeysFrom ·))) = true := by kernel_rfl
theorem f18 : (Rows.execPendingSpec.vars.all (Tryz.prog.varReadable ·)) = true := by kernel_rfl
theorem f19 : (Tryz.f4.resultTypes.all (fun t => Tryz.prog.readableRec t && decide (t < Tryz.prog.types.size))) = true := by kernel_rfl
theorem f20 : ((Rows.execPendingRow.ifacesOut == Tryz.f4.resultTypes.toList.any (Tryz.prog.ifacesRec ·))) = true := by kernel_rfl
theorem f21 : ((Rows.execPendingRow.loopsOut == Tryz.f4.resultTypes.toList.any (Tryz.prog.loopsFrom ·))) = true := by kernel_rfl
theorem f22 : ((Rows.execPendingRow.plainKeys == Tryz.prog.plainKeys)) = true := by kernel_rfl
theorem f23 : (Rows.execPendingRow.shortTexts.isNone) = true := by kernel_rfl
theorem f24 : (Tryz.prog.stopsHeard) = true := by kernel_rfl
theorem f25 : (Tryz.prog.mayEnter) = true := by kernel_rfl
theorem f26 : ((Rows.execPendingRow.lifted == Tryz.prog.liftsFinal)) = true := by kernel_rfl
theorem f27 : ((Tryz.prog.make == some Rows.execPendingRow.make)) = true := by kernel_rfl
theorem f29 : ((Rows.execPendingRow.pinned == Rows.execPendingRow.pinnedBy)) = true := by kernel_rfl
theorem f30 : ((Rows.execPendingRow.veiled == (Tryz.f4.params.toList ++ Rows.execPendingSpec.plain.varTypes Tryz.prog ++ Tryz.f4.resultTypes.toList).any (Tryz.prog.veiledRec ·))) = true := by kernel_rfl
theorem f31 : (Rows.execPendingRow.veiledFits Tryz.prog Tryz.f4.params.toList (Tryz.f4.params.toList ++ Rows.execPendingSpec.plain.varTypes Tryz.prog ++ Tryz.f4.resultTypes.toList)) = true := by kernel_rfl
theorem joined : joinedFacts Tryz.prog 4 Tryz.f4 Rows.execPendingSpec Rows.execPendingRow = true := by
  unfold joinedFacts
  simp only [f00, f01, f02, f03, f04, f05, f06, f07, f08, f09, f10, f11, f12, f13, f14, f15, f16, f17, f18, f19, f20, f21, f22, f23, f24, f25, f26, f27, f29, f30, f31, Bool.and_self]
  kernel_rfl
theorem named : Tryz.pinned.checked.prog.funcNamed Rows.execPendingRow.func = some 4 := by kernel_rfl
theorem inst : Tryz.f4.isInstance Tryz.pinned.checked.prog Rows.execPendingRow.origin Rows.execPendingRow.targs := of_decide_eq_true (by kernel_rfl)
theorem wrap : Tryz.f4.isWrapper Tryz.pinned.checked.prog Rows.execPendingRow.wrapper Rows.execPendingRow.mainSum := by unfold Func.isWrapper; first | (rw [if_pos (by decide +kernel)]; kernel_rfl) | (rw [if_neg (by decide +kernel)]; exact ⟨rfl, rfl⟩)
end Go.Proofs.YtiahoioaklpnlaaGreatDoor.execPendingFacts
