/-
  The program as the machine sees it; what functions stand for themselves.
-/
import Derived.Test.YtiahoioaklpnlaaGreatDoorRows
import Derived.Test.YtiahoioaklpnlaaGreatDoorAmPart
import Derived.Test.YtiahoioaklpnlaaGreatDoorAmLaid
import Derived.Test.YtiahoioaklpnlaaGreatDoorAmRow
import Derived.Test.YtiahoioaklpnlaaGreatDoorAmExt
import Derived.ProofKit
namespace Go.Proofs.YtiahoioaklpnlaaGreatDoor
open Go.Am
set_option maxRecDepth 100000
def eqT : List Nat := [7, 8, 26, 27, 38, 39, 45, 46, 52, 53, 57, 58, 60, 61, 62, 63, 64, 65, 77, 78, 83, 84, 90, 91, 92, 93, 100, 101, 103, 104, 108, 109, 111, 112, 128, 129, 130, 131, 133, 134, 140, 141, 153, 154, 157, 158, 166, 167, 173, 174, 177, 178, 205, 206, 255, 256, 264, 265, 365, 366, 380, 381, 383, 384, 386, 387]
theorem eqs_all : eqT.all (fun t => !Tryz.prog.stoodInHeld t && !Tryz.prog.eqGuardType Tryz.prog.depth t) = true := by kernel_rfl
theorem eqs : ∀ t, hasN t eqT = true → Tryz.prog.stoodInHeld t = false ∧ Tryz.prog.eqGuardType Tryz.prog.depth t = false := by
  intro t h
  have := List.all_eq_true.mp eqs_all t (hasN_in h)
  simpa using this
theorem ctx : CtxOK Tryz.prog (Ctx.of Tryz.prog eqT) := CtxOK.of eqs (by kernel_rfl)
theorem fns : Tryz.prog.funcs.toList.all fnOK = true := by decide +kernel
end Go.Proofs.YtiahoioaklpnlaaGreatDoor
