/-
  The runs of ExecPending, rule = true.
-/
import Derived.Test.YtiahoioaklpnlaaGreatDoorParses
namespace Go.Proofs.YtiahoioaklpnlaaGreatDoor
open Go.Am
set_option maxRecDepth 1000000
theorem runT0 : Go.Am.isTrue (runQ X (ownL base4) 100000 4 [.any, .cls .u8 256 5 0, .bool true] (St.laid gl1)) = true := by decide +kernel
theorem runT1 : Go.Am.isTrue (runQ X (ownL base4) 100000 4 [.any, .cls .u8 256 5 1, .bool true] (St.laid gl1)) = true := by decide +kernel
theorem runT2 : Go.Am.isTrue (runQ X (ownL base4) 100000 4 [.any, .cls .u8 256 5 2, .bool true] (St.laid gl1)) = true := by decide +kernel
theorem runT3 : Go.Am.isTrue (runQ X (ownL base4) 100000 4 [.any, .cls .u8 256 5 3, .bool true] (St.laid gl1)) = true := by decide +kernel
theorem runT4 : Go.Am.isTrue (runQ X (ownL base4) 100000 4 [.any, .cls .u8 256 5 4, .bool true] (St.laid gl1)) = true := by decide +kernel
theorem holdsT (k : Nat) (hk : k < 5) (args : Array Value) (w : World) (hg : GLok w gl1) (hv : VRs Inj.nil [.any, .cls .u8 256 5 k, .bool true] args.toList) :
    Calls Tryz.prog 4 args w fun e w' => e = .returned (.bool true) ∧ Grew w w' := by
  refine calls_laid ctx fnsX (ownL_ok base4_ok) (n := 100000) ?_ hg hv
  rw [← runQ_ok]
  match k, hk with
  | 0, _ => exact runT0
  | 1, _ => exact runT1
  | 2, _ => exact runT2
  | 3, _ => exact runT3
  | 4, _ => exact runT4
end Go.Proofs.YtiahoioaklpnlaaGreatDoor
