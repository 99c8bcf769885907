/-
  No cell of these rows narrows 'for every input' (looked for: loops, veiled, ifaces, maps, wideKeys, modest, calm, conditions, laid).
  DERIVED. THE GIVEN ROWS OF THIS SEAT. 3 by the template 'for every input the law returns true; each argument reads behind the call as it read before'; 0 by the template 'total and deterministic' (their statements: YtofohkdkpbigiaaGreatTotals.lean).
  GIVEN WITH THE SEED: the statements are not yours to turn. If you find one false, say at which input.
  Laid BY PROGRAM, IN A SANDBOX (cutbox-rows.mjs): the forced cells as the released guide's own fill.sh prints them over the translation fbc19d9230bbd8bb… (all of the seat's roots in one cut). By AI agents, Wed Nov 11 2026. No macro, syntax, notation, axiom, sorry.
-/
import Derived.Test.YtofohkdkpbigiaaGreatChecked
import GoSem.Claim
import GoSem.ClaimJoined
import GoSem.ClaimMapViews
import Derived.JoinedTies
import Derived.KernelRfl
namespace Go.Proofs.YtofohkdkpbigiaaGreat
/- THE CELL 'sum', in the pinned program and in every row, IS THE sha256 OF THE DUMP (.gsa) THAT YtofohkdkpbigiaaGreatProg.lean LOADS. Nothing in Lean hashes anything: it is a label: what it is worth is what the hold of that sum in a sandbox is worth. -/
noncomputable def Tryz.pinned : Pinned := { name := "ytofohkdkpbigiaagreat", sum := "fbc19d9230bbd8bb6e67f56fa452234689d5c84cccf6f5ef354bc28e76cf6cd1", checked := Tryz.checked }
namespace Rows
def none {H : Type} : Left H := { results := [], args := [] }

/-- 'falseworklaw14.ApplySerial': WHATEVER THE INPUT: true; the input reads as it did. -/
def applySerialSpec : ChangeSpec := { name := "applySerial", fn := fun _ => fun
  | [d] => { results := [.lit (.bool true)], args := [d] }
  | _ => none }
def applySerialRow : OpenClaim := { program := "ytofohkdkpbigiaagreat", sum := "fbc19d9230bbd8bb6e67f56fa452234689d5c84cccf6f5ef354bc28e76cf6cd1", func := "falsework/falseworklaw14.ApplySerial", spec := "applySerial", inPlace := ["math.Float64frombits", "slices.overlaps[falsework/api.Pair]", "slices.overlaps[[]falsework/api.Pair]"], unfollowed := true, recurses := true, apart := false }
def ApplySerialSaid : Prop := applySerialRow.holds Tryz.pinned (OpenSpec.ofChange applySerialSpec)

/-- ITS FALSE NEIGHBOUR: 'it returns false'. Refute it at one input. -/
def applySerialWrong : ChangeSpec := { name := "applySerial", fn := fun _ => fun
  | [d] => { results := [.lit (.bool false)], args := [d] }
  | _ => none }
def ApplySerialWrongFalsely : Prop := applySerialRow.holds Tryz.pinned (OpenSpec.ofChange applySerialWrong)

/-- 'falseworklaw14.ApplyTwice': WHATEVER THE INPUT: true; the input reads as it did. -/
def applyTwiceSpec : ChangeSpec := { name := "applyTwice", fn := fun _ => fun
  | [d1, d2] => { results := [.lit (.bool true)], args := [d1, d2] }
  | _ => none }
def applyTwiceRow : OpenClaim := { program := "ytofohkdkpbigiaagreat", sum := "fbc19d9230bbd8bb6e67f56fa452234689d5c84cccf6f5ef354bc28e76cf6cd1", func := "falsework/falseworklaw14.ApplyTwice", spec := "applyTwice", inPlace := ["math.Float64frombits", "slices.overlaps[falsework/api.Pair]", "slices.overlaps[[]falsework/api.Pair]"], unfollowed := true, recurses := true, apart := false }
def ApplyTwiceSaid : Prop := applyTwiceRow.holds Tryz.pinned (OpenSpec.ofChange applyTwiceSpec)

/-- ITS FALSE NEIGHBOUR: 'it returns false'. Refute it at one input. -/
def applyTwiceWrong : ChangeSpec := { name := "applyTwice", fn := fun _ => fun
  | [d1, d2] => { results := [.lit (.bool false)], args := [d1, d2] }
  | _ => none }
def ApplyTwiceWrongFalsely : Prop := applyTwiceRow.holds Tryz.pinned (OpenSpec.ofChange applyTwiceWrong)

/-- 'falseworklaw14.ApplyNil': WHATEVER THE INPUT: true; the input reads as it did. -/
def applyNilSpec : ChangeSpec := { name := "applyNil", fn := fun _ => fun
  | [d1, d2] => { results := [.lit (.bool true)], args := [d1, d2] }
  | _ => none }
def applyNilRow : OpenClaim := { program := "ytofohkdkpbigiaagreat", sum := "fbc19d9230bbd8bb6e67f56fa452234689d5c84cccf6f5ef354bc28e76cf6cd1", func := "falsework/falseworklaw14.ApplyNil", spec := "applyNil", inPlace := ["math.Float64frombits", "slices.overlaps[falsework/api.Pair]", "slices.overlaps[[]falsework/api.Pair]"], unfollowed := true, recurses := true, apart := false }
def ApplyNilSaid : Prop := applyNilRow.holds Tryz.pinned (OpenSpec.ofChange applyNilSpec)

/-- ITS FALSE NEIGHBOUR: 'it returns false'. Refute it at one input. -/
def applyNilWrong : ChangeSpec := { name := "applyNil", fn := fun _ => fun
  | [d1, d2] => { results := [.lit (.bool false)], args := [d1, d2] }
  | _ => none }
def ApplyNilWrongFalsely : Prop := applyNilRow.holds Tryz.pinned (OpenSpec.ofChange applyNilWrong)

/- THE SECOND FORM. 'bulk': how many values and letters a reading holds, each counted each time it is reached (what is shared counts as often as it is met; a slice's spare places count too). A statement '..UptoSaid' is the law's where the arguments, and the package variables that the reading takes, are together of bulk at most 1048576: NARROWER than '..Said'. Prove '..Said' where nothing that the law and all that it calls make is longer than what came in: it says more and counts as full. Else prove '..UptoSaid'. A law counts once. -/
mutual
def uptoBulk {H : Type} : DataW H → Nat
  | .lit (.string bytes) => bytes.length + 1
  | .lit _ => 1
  | .nil => 1
  | .ptr d => uptoBulk d + 1
  | .slice elems spare => uptoBulkAll elems + uptoBulkAll spare + 1
  | .agg parts => uptoBulkAll parts + 1
  | .iface _ d => uptoBulk d + 1
  | .map entries => uptoBulkEntries entries + 1
  | .held _ => 1
def uptoBulkAll {H : Type} : List (DataW H) → Nat
  | [] => 0
  | d :: r => uptoBulk d + uptoBulkAll r
def uptoBulkEntries {H : Type} : List (Lit × DataW H) → Nat
  | [] => 0
  | x :: r => uptoBulkEntry x + uptoBulkEntries r
def uptoBulkEntry {H : Type} : Lit × DataW H → Nat
  | (.string bytes, d) => bytes.length + uptoBulk d + 1
  | (_, d) => uptoBulk d + 1
 end
def uptoSmall : (H : Type) → List (DataW H) → Bool := fun _ ds => decide (uptoBulkAll ds ≤ 1048576)
def OpenSpec.upto (s : _root_.Go.ChangeSpec) : _root_.Go.OpenSpec := { _root_.Go.OpenSpec.ofChange s with cond := some uptoSmall }

/-- 'falseworklaw14.ApplySerial', WHERE WHAT IT READS IS OF BULK AT MOST 1048576: true; the input reads as it did. -/
def applySerialUptoRow : OpenClaim := { program := "ytofohkdkpbigiaagreat", sum := "fbc19d9230bbd8bb6e67f56fa452234689d5c84cccf6f5ef354bc28e76cf6cd1", func := "falsework/falseworklaw14.ApplySerial", spec := "applySerial", inPlace := ["math.Float64frombits", "slices.overlaps[falsework/api.Pair]", "slices.overlaps[[]falsework/api.Pair]"], unfollowed := true, recurses := true, apart := false, narrowed := true }
def ApplySerialUptoSaid : Prop := applySerialUptoRow.holds Tryz.pinned (OpenSpec.upto applySerialSpec)

/-- 'falseworklaw14.ApplyTwice', WHERE WHAT IT READS IS OF BULK AT MOST 1048576: true; the input reads as it did. -/
def applyTwiceUptoRow : OpenClaim := { program := "ytofohkdkpbigiaagreat", sum := "fbc19d9230bbd8bb6e67f56fa452234689d5c84cccf6f5ef354bc28e76cf6cd1", func := "falsework/falseworklaw14.ApplyTwice", spec := "applyTwice", inPlace := ["math.Float64frombits", "slices.overlaps[falsework/api.Pair]", "slices.overlaps[[]falsework/api.Pair]"], unfollowed := true, recurses := true, apart := false, narrowed := true }
def ApplyTwiceUptoSaid : Prop := applyTwiceUptoRow.holds Tryz.pinned (OpenSpec.upto applyTwiceSpec)

/-- 'falseworklaw14.ApplyNil', WHERE WHAT IT READS IS OF BULK AT MOST 1048576: true; the input reads as it did. -/
def applyNilUptoRow : OpenClaim := { program := "ytofohkdkpbigiaagreat", sum := "fbc19d9230bbd8bb6e67f56fa452234689d5c84cccf6f5ef354bc28e76cf6cd1", func := "falsework/falseworklaw14.ApplyNil", spec := "applyNil", inPlace := ["math.Float64frombits", "slices.overlaps[falsework/api.Pair]", "slices.overlaps[[]falsework/api.Pair]"], unfollowed := true, recurses := true, apart := false, narrowed := true }
def ApplyNilUptoSaid : Prop := applyNilUptoRow.holds Tryz.pinned (OpenSpec.upto applyNilSpec)

end Rows
end Go.Proofs.YtofohkdkpbigiaaGreat
