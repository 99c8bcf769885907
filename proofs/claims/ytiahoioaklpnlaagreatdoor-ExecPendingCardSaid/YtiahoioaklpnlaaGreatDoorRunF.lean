/-
  The runs of ExecPending, rule = false.
-/
import Derived.Test.YtiahoioaklpnlaaGreatDoorParses
namespace Go.Proofs.YtiahoioaklpnlaaGreatDoor
open Go.Am
set_option maxRecDepth 1000000
theorem runF0 : Go.Am.isTrue (runQ X (ownL base4) 100000 4 [.cls .u8 256 5 0, .any, .bool false] (St.laid gl1)) = true := by decide +kernel
theorem runF1 : Go.Am.isTrue (runQ X (ownL base4) 100000 4 [.cls .u8 256 5 1, .any, .bool false] (St.laid gl1)) = true := by decide +kernel
theorem runF2 : Go.Am.isTrue (runQ X (ownL base4) 100000 4 [.cls .u8 256 5 2, .any, .bool false] (St.laid gl1)) = true := by decide +kernel
theorem runF3 : Go.Am.isTrue (runQ X (ownL base4) 100000 4 [.cls .u8 256 5 3, .any, .bool false] (St.laid gl1)) = true := by decide +kernel
theorem runF4 : Go.Am.isTrue (runQ X (ownL base4) 100000 4 [.cls .u8 256 5 4, .any, .bool false] (St.laid gl1)) = true := by decide +kernel
theorem holdsF (k : Nat) (hk : k < 5) (args : Array Value) (w : World) (hg : GLok w gl1) (hv : VRs Inj.nil [.cls .u8 256 5 k, .any, .bool false] args.toList) :
    Calls Tryz.prog 4 args w fun e w' => e = .returned (.bool true) ∧ Grew w w' := by
  refine calls_laid ctx fnsX (ownL_ok base4_ok) (n := 100000) ?_ hg hv
  rw [← runQ_ok]
  match k, hk with
  | 0, _ => exact runF0
  | 1, _ => exact runF1
  | 2, _ => exact runF2
  | 3, _ => exact runF3
  | 4, _ => exact runF4
end Go.Proofs.YtiahoioaklpnlaaGreatDoor
