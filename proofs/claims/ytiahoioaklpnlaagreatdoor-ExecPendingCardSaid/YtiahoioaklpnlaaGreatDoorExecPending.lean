/-
  ExecPending answers true at every input, and its arguments read behind the call as they read before: no condition but what the card ties (what the program's text lays of two package-level variables).
-/
import Derived.Test.YtiahoioaklpnlaaGreatDoorRunT
import Derived.Test.YtiahoioaklpnlaaGreatDoorRunF
import Derived.Test.YtiahoioaklpnlaaGreatDoorLaid
import Derived.Test.YtiahoioaklpnlaaGreatDoorFactsExecPending
import Derived.Test.YtiahoioaklpnlaaGreatDoorCards
import Derived.Test.YtiahoioaklpnlaaGreatDoorAmRow
import Derived.ProofKit
import Derived.SevenTiedAt
namespace Go.Proofs.YtiahoioaklpnlaaGreatDoor.execPending
open Go.ChangeShapes Go.WideShapes Go.ChangeAt Go.RowKit Go.Proofs.YtiahoioaklpnlaaGreatDoor
open Go.Am (GLok Grew VRs VR Inj AV post_of_grew trodAll_grew)
set_option maxRecDepth 100000

theorem bd {n : Int} (h : (Lit.int .u8 n).wf = true) : 0 ≤ n ∧ n < 256 := by
  simp [Lit.wf, IntKind.min, IntKind.max, IntKind.signed, IntKind.bits] at h
  omega
theorem any_u8 {ι : Inj} (n : Int) : VR ι .any (.int .u8 n) := by
  simp only [VR]
  exact ⟨fun _ h => (by cases h), fun _ h => (by cases h)⟩
theorem walk (a b : Int) (r : Bool) (ha : (Lit.int .u8 a).wf = true) (hb : (Lit.int .u8 b).wf = true) (w : World) (hg : GLok w gl1) :
    Calls Tryz.prog 4 #[.int .u8 a, .int .u8 b, .bool r] w fun e w' => e = .returned (.bool true) ∧ Grew w w' := by
  obtain ⟨a0, a1⟩ := bd ha
  obtain ⟨b0, b1⟩ := bd hb
  obtain ⟨a, rfl⟩ := Int.eq_ofNat_of_zero_le a0
  obtain ⟨b, rfl⟩ := Int.eq_ofNat_of_zero_le b0
  cases r with
  | true =>
    refine holdsT (b % 5) (Nat.mod_lt _ (by decide)) _ w hg ?_
    simp only [VRs, and_true]
    refine ⟨any_u8 _, ?_, ?_⟩
    · simp only [VR]; exact ⟨b, rfl, by omega, rfl⟩
    · simp only [VR]
  | false =>
    refine holdsF (a % 5) (Nat.mod_lt _ (by decide)) _ w hg ?_
    simp only [VRs, and_true]
    refine ⟨?_, any_u8 _, ?_⟩
    · simp only [VR]; exact ⟨a, rfl, by omega, rfl⟩
    · simp only [VR]

theorem lifted (os : Os) (started : os.Started) (H : Type) (enc : TypeId × Value → H) :
    ReturnsInHanded {} Tryz.checked os 4 .any (fun w args => (Rows.execPendingSpec.pre enc Tryz.prog Tryz.f4 [] false w args ∧ laidMetH Tryz.prog laid2 w) ∧ sizedMet enc Tryz.prog Tryz.f4 (OpenSpec.ofChange Rows.execPendingSpec) false w args)
      (Rows.execPendingSpec.post enc Tryz.prog Tryz.f4 false true false false) := by
  refine returnsInHanded_of_change_and (C := Tryz.checked) (X := fun w _ => laidMetH Tryz.prog laid2 w) (fun _ _ _ hh h => h.of_heap hh) ownK started (by kernel_rfl) Tryz.func4
    (ChangeSpec.witness_shaped (enc := enc) (C := Tryz.checked) (os := os) (X := fun w _ => laidMetH Tryz.prog laid2 w) false (World.doorLaid Tryz.prog 400 os) #[.int .u8 0, .int .u8 0, .bool false] 8 rfl (World.shaped_of_RefB (by kernel_rfl) (by kernel_rfl)) (by kernel_rfl) (by kernel_rfl) (by kernel_rfl) (door_met os _)) ?_
  intro W base args ds gs before hval0 hW _ _ hL _
  have hval : ∀ (j : Nat) t v, Tryz.f4.params[j]? = some t → args[j]? = some v → Value.okWide Tryz.prog W .any base t v := hval0
  have hW' := hW
  obtain ⟨p, q, hA0, hV, rfl, hfz, hnd⟩ := hW
  have hA : DataW.TrodAll enc Tryz.prog W 0 (fun _ => true) true Tryz.f4.params.toList args.toList ds p := hA0
  have hA1 := hA
  rw [Tryz.params4] at hA hval
  obtain ⟨v0, v1, v2, d0, d1, d2, q0, q1, q2, rfl, rfl, rfl, h0, h1, h2⟩ := trodAll_three hA
  obtain ⟨rfl, rfl⟩ := trodVars_none hV
  obtain ⟨a, rfl, rfl, rfl, ha⟩ := open_int Tryz.underlying5 (hval 0 5 v0 rfl rfl) h0
  obtain ⟨b, rfl, rfl, rfl, hb⟩ := open_int Tryz.underlying5 (hval 1 5 v1 rfl rfl) h1
  obtain ⟨c, rfl, rfl, rfl⟩ := open_bool Tryz.underlying4 (hval 2 4 v2 rfl rfl) h2
  simp only [List.append_nil] at hW'
  refine (walk a b c ha hb W (of_laid hL)).mono fun e W' ⟨he, hg⟩ => ?_
  subst he
  refine ⟨_, rfl, post_of_grew (pa := []) (pv := []) hW' (fun _ _ _ => trodAll_cons_mk (shut_bool Tryz.underlying4 _) trodAll_mk0) (fun sp hsp' => ?_) (fun _ _ => rfl) (by simp) hg (ok_one (by kernel_rfl) rfl (okWide_bool_mk Tryz.underlying4 _))⟩
  exact trodAll_grew (by kernel_rfl) hg (by kernel_rfl) hA1 (fun _ h => by cases h) hsp'

theorem holds : Rows.ExecPendingSaid :=
  OpenClaim.holds_of_wide 4 Tryz.f4 rfl rfl rfl rfl rfl rfl rfl ⟨rfl, rfl, rfl, rfl, rfl⟩ rfl rfl rfl rfl rfl execPendingFacts.named Tryz.func4 execPendingFacts.joined execPendingFacts.inst execPendingFacts.wrap
    (fun os started H enc _ => lifted os started H enc)

/-- THE STATEMENT. -/
theorem proved : Rows.ExecPendingCardSaid :=
  Claim7.holds_tied_plain_at .later [] [.listed, .data] true (true, "669a2ce63cb55f7a947eb5c4a9c29f50252152d86e39ae66fdfabf243453b2b4") true
    holds (fun _ h => by cases h) (by kernel_rfl) (fun _ h => by cases h) execPending_row_tie rfl ⟨rfl, rfl⟩ (by kernel_rfl) rfl
    (fun f fn hf hfn => by
      obtain rfl : f = 4 := Option.some.inj ((show Tryz.prog.funcNamed "falsework/falseworklaw22.ExecPending" = some 4 by kernel_rfl).symm.trans hf) |>.symm
      obtain rfl : fn = Tryz.f4 := (Option.some.inj (Tryz.func4.symm.trans hfn)).symm
      exact ⟨by kernel_rfl, fun j t ht => by
        rw [Tryz.params4] at ht
        have hm : t ∈ [5, 5, 4] := by simpa using Array.mem_of_getElem? ht
        have hall : ([5, 5, 4].all fun u => !Tryz.prog.wantsStandIn u) = true := by kernel_rfl
        exact (show Tryz.prog.wantsStandIn t = false by simpa using List.all_eq_true.1 hall t hm)⟩)
    (by kernel_rfl)
#print axioms proved
end Go.Proofs.YtiahoioaklpnlaaGreatDoor.execPending
