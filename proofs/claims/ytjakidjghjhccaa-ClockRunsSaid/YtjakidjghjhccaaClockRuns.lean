/-
  ClockRuns answers true at every input, and its arguments read behind the call as it read before.
-/
import Derived.Test.YtjakidjghjhccaaRows
import Derived.Test.YtjakidjghjhccaaRuns
import Derived.Test.YtjakidjghjhccaaArg
import Derived.Test.YtjakidjghjhccaaGrew
import Derived.ProofKit
import Derived.OpenShut
namespace Go.Proofs.Ytjakidjghjhccaa.clockRuns
open Go.ChangeShapes Go.WideShapes Go.ChangeAt Go.RowKit

theorem own : ownKnob Try.prog.godebug = none := by kernel_rfl
set_option maxRecDepth 100000 in
theorem lifted (os : Os) (started : os.Started) (H : Type) (enc : TypeId × Value → H) :
    ReturnsInHanded {} Try.checked os 3 .any (Rows.clockRunsSpec.pre6 enc Try.prog Try.f3 Rows.clockRunsRow.domain false) (Rows.clockRunsSpec.post enc Try.prog Try.f3 false true false false) := by
  refine returnsInHanded_of_change (C := Try.checked) own started (by kernel_rfl) Try.func3
    (ChangeSpec.witness6 (enc := enc) (C := Try.checked) false ⟨#[], #[.int .i64 0, .slice none 0 0], []⟩ 8 (by kernel_rfl) (by kernel_rfl) (by kernel_rfl) (by kernel_rfl)) ?_
  intro W base args ds gs before hval0 hW hcnd _
  have hW' := hW
  obtain ⟨p, q, hA, hV, rfl, hfz, hnd⟩ := hW
  have hV' := hV
  obtain ⟨rfl, rfl⟩ := trodVars_none hV'
  simp only [List.append_nil] at hW'
  have hlt : ∀ x ∈ p, x.block < W.heap.size := fun x hx => by simpa using hW'.lt x hx
  have hA1 : DataW.TrodAll enc Try.prog W 0 (fun _ => true) true [3, 22] args.toList ds p := hA
  obtain ⟨v0, v1, d0, d1, p0, p1, rfl, rfl, rfl, h0, h1⟩ := trodAll_two hA1
  obtain ⟨n, rfl, rfl, rfl, wn⟩ := open_int Try.underlying3 (hval0 0 3 v0 rfl rfl) h0
  obtain ⟨la, lb, off, len, cap, A, rfl, hla, hacts, hm⟩ := open_acts (r := .any) (base := base) (hval0 1 22 v1 rfl rfl) h1
  have hwalk : Calls Try.prog 3 #[.int .i64 n, .slice la len cap] W fun e w' => e = .returned (.bool true) ∧ Below W.heap.size W w' := by
    by_cases hn : n < 1 ∨ 16 < n
    · exact runs_no _ la n len cap W hn rfl (Lib.hid awake_walk)
    · obtain ⟨N, rfl⟩ : ∃ N : Nat, n = N := ⟨n.toNat, by omega⟩
      exact runs_yes la lb off len cap N A W (by omega) (by omega) hla hacts hm (Lib.hid awake_walk)
  refine hwalk.mono fun e W' ⟨he, hb⟩ => ?_
  have hg := Grew.below hb
  subst he
  refine ⟨_, rfl, post_of_grew (pa := [] ++ p1) (pv := []) hW' (fun _ _ _ => ?_) (fun sp hsp' => ?_) (fun _ _ => ?_) (by simp) hg (ok_one (by kernel_rfl) rfl (okWide_bool_mk Try.underlying4 _))⟩
  · exact trodAll_cons_mk (shut_bool Try.underlying4 _) trodAll_mk0
  · exact trodAll_grew (by kernel_rfl) hg (by kernel_rfl) hA hlt hsp'
  · rfl

theorem over : Rows.clockRunsRow.holds Try.pinned (OpenSpec.ofChange Rows.clockRunsSpec) :=
  OpenClaim.holds_of_wide 3 Try.f3 rfl rfl rfl rfl rfl rfl rfl ⟨rfl, rfl, rfl, rfl, rfl⟩ rfl rfl rfl rfl rfl (by kernel_rfl) Try.func3 (by kernel_rfl)
    (of_decide_eq_true (by kernel_rfl)) (by unfold Func.isWrapper; first | (rw [if_pos (by decide +kernel)]; kernel_rfl) | (rw [if_neg (by decide +kernel)]; exact ⟨rfl, rfl⟩))
    (fun os started H enc _ => lifted os started H enc)

/-- THE STATEMENT. -/
theorem proved : Rows.ClockRunsSaid :=
  over
#print axioms proved
end Go.Proofs.Ytjakidjghjhccaa.clockRuns
