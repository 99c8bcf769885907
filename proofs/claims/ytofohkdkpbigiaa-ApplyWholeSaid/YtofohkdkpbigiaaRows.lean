/-
  No cell of these rows narrows 'for every input' (looked for: loops, veiled, ifaces, maps, wideKeys, modest, calm, conditions, laid).
  DERIVED. THE GIVEN ROWS OF THIS SEAT. 2 by the template 'for every input the law returns true; each argument reads behind the call as it read before'; 0 by the template 'total and deterministic' (their statements: YtofohkdkpbigiaaTotals.lean).
  GIVEN WITH THE SEED: the statements are not yours to turn. If you find one false, say at which input.
  Laid BY PROGRAM, IN A SANDBOX (cutbox-rows.mjs): the forced cells as the released guide's own fill.sh prints them over the translation 71fbade63bc6c579… (all of the seat's roots in one cut). By AI agents, Wed Nov 11 2026. No macro, syntax, notation, axiom, sorry.
-/
import Derived.Test.YtofohkdkpbigiaaChecked
import GoSem.Claim
import GoSem.ClaimJoined
import GoSem.ClaimMapViews
import Derived.JoinedTies
import Derived.KernelRfl
namespace Go.Proofs.Ytofohkdkpbigiaa
/- THE CELL 'sum', in the pinned program and in every row, IS THE sha256 OF THE DUMP (.gsa) THAT YtofohkdkpbigiaaProg.lean LOADS. Nothing in Lean hashes anything: it is a label: what it is worth is what the hold of that sum in a sandbox is worth. -/
noncomputable def Try.pinned : Pinned := { name := "ytofohkdkpbigiaa", sum := "71fbade63bc6c57908d19237ecd83205c29e4608c5e7f4e7e218aa2b83c4c508", checked := Try.checked }
namespace Rows
def none {H : Type} : Left H := { results := [], args := [] }

/-- 'falseworklaw14.ApplyTimes': WHATEVER THE INPUT: true; the input reads as it did. -/
def applyTimesSpec : ChangeSpec := { name := "applyTimes", fn := fun _ => fun
  | [d1, d2, d3, d4] => { results := [.lit (.bool true)], args := [d1, d2, d3, d4] }
  | _ => none }
def applyTimesRow : OpenClaim := { program := "ytofohkdkpbigiaa", sum := "71fbade63bc6c57908d19237ecd83205c29e4608c5e7f4e7e218aa2b83c4c508", func := "falsework/falseworklaw14.ApplyTimes", spec := "applyTimes", inPlace := ["math.Float64frombits", "slices.overlaps[falsework/api.Pair]", "slices.overlaps[[]falsework/api.Pair]"], unfollowed := true, recurses := true, apart := false }
def ApplyTimesSaid : Prop := applyTimesRow.holds Try.pinned (OpenSpec.ofChange applyTimesSpec)

/-- ITS FALSE NEIGHBOUR: 'it returns false'. Refute it at one input. -/
def applyTimesWrong : ChangeSpec := { name := "applyTimes", fn := fun _ => fun
  | [d1, d2, d3, d4] => { results := [.lit (.bool false)], args := [d1, d2, d3, d4] }
  | _ => none }
def ApplyTimesWrongFalsely : Prop := applyTimesRow.holds Try.pinned (OpenSpec.ofChange applyTimesWrong)

/-- 'falseworklaw14.ApplyWhole': WHATEVER THE INPUT: true; the input reads as it did. -/
def applyWholeSpec : ChangeSpec := { name := "applyWhole", fn := fun _ => fun
  | [d1, d2, d3] => { results := [.lit (.bool true)], args := [d1, d2, d3] }
  | _ => none }
def applyWholeRow : OpenClaim := { program := "ytofohkdkpbigiaa", sum := "71fbade63bc6c57908d19237ecd83205c29e4608c5e7f4e7e218aa2b83c4c508", func := "falsework/falseworklaw14.ApplyWhole", spec := "applyWhole", inPlace := ["math.Float64frombits", "slices.overlaps[falsework/api.Pair]", "slices.overlaps[[]falsework/api.Pair]"], unfollowed := true, recurses := true, apart := false }
def ApplyWholeSaid : Prop := applyWholeRow.holds Try.pinned (OpenSpec.ofChange applyWholeSpec)

/-- ITS FALSE NEIGHBOUR: 'it returns false'. Refute it at one input. -/
def applyWholeWrong : ChangeSpec := { name := "applyWhole", fn := fun _ => fun
  | [d1, d2, d3] => { results := [.lit (.bool false)], args := [d1, d2, d3] }
  | _ => none }
def ApplyWholeWrongFalsely : Prop := applyWholeRow.holds Try.pinned (OpenSpec.ofChange applyWholeWrong)

/- THE SECOND FORM. 'bulk': how many values and letters a reading holds, each counted each time it is reached (what is shared counts as often as it is met; a slice's spare places count too). A statement '..UptoSaid' is the law's where the arguments, and the package variables that the reading takes, are together of bulk at most 1048576: NARROWER than '..Said'. Prove '..Said' where nothing that the law and all that it calls make is longer than what came in: it says more and counts as full. Else prove '..UptoSaid'. A law counts once. -/
mutual
def uptoBulk {H : Type} : DataW H → Nat
  | .lit (.string bytes) => bytes.length + 1
  | .lit _ => 1
  | .nil => 1
  | .ptr d => uptoBulk d + 1
  | .slice elems spare => uptoBulkAll elems + uptoBulkAll spare + 1
  | .agg parts => uptoBulkAll parts + 1
  | .iface _ d => uptoBulk d + 1
  | .map entries => uptoBulkEntries entries + 1
  | .held _ => 1
def uptoBulkAll {H : Type} : List (DataW H) → Nat
  | [] => 0
  | d :: r => uptoBulk d + uptoBulkAll r
def uptoBulkEntries {H : Type} : List (Lit × DataW H) → Nat
  | [] => 0
  | x :: r => uptoBulkEntry x + uptoBulkEntries r
def uptoBulkEntry {H : Type} : Lit × DataW H → Nat
  | (.string bytes, d) => bytes.length + uptoBulk d + 1
  | (_, d) => uptoBulk d + 1
 end
def uptoSmall : (H : Type) → List (DataW H) → Bool := fun _ ds => decide (uptoBulkAll ds ≤ 1048576)
def OpenSpec.upto (s : _root_.Go.ChangeSpec) : _root_.Go.OpenSpec := { _root_.Go.OpenSpec.ofChange s with cond := some uptoSmall }

/-- 'falseworklaw14.ApplyTimes', WHERE WHAT IT READS IS OF BULK AT MOST 1048576: true; the input reads as it did. -/
def applyTimesUptoRow : OpenClaim := { program := "ytofohkdkpbigiaa", sum := "71fbade63bc6c57908d19237ecd83205c29e4608c5e7f4e7e218aa2b83c4c508", func := "falsework/falseworklaw14.ApplyTimes", spec := "applyTimes", inPlace := ["math.Float64frombits", "slices.overlaps[falsework/api.Pair]", "slices.overlaps[[]falsework/api.Pair]"], unfollowed := true, recurses := true, apart := false, narrowed := true }
def ApplyTimesUptoSaid : Prop := applyTimesUptoRow.holds Try.pinned (OpenSpec.upto applyTimesSpec)

/-- 'falseworklaw14.ApplyWhole', WHERE WHAT IT READS IS OF BULK AT MOST 1048576: true; the input reads as it did. -/
def applyWholeUptoRow : OpenClaim := { program := "ytofohkdkpbigiaa", sum := "71fbade63bc6c57908d19237ecd83205c29e4608c5e7f4e7e218aa2b83c4c508", func := "falsework/falseworklaw14.ApplyWhole", spec := "applyWhole", inPlace := ["math.Float64frombits", "slices.overlaps[falsework/api.Pair]", "slices.overlaps[[]falsework/api.Pair]"], unfollowed := true, recurses := true, apart := false, narrowed := true }
def ApplyWholeUptoSaid : Prop := applyWholeUptoRow.holds Try.pinned (OpenSpec.upto applyWholeSpec)

end Rows
end Go.Proofs.Ytofohkdkpbigiaa
