/-
  ExecRefuses answers true at every input, and its arguments read behind the call as they read before: no condition but what the card ties (what the program's text lays of two package-level variables).
-/
import Derived.Test.YtiahoioaklpnlaaGreatDoorRun00
import Derived.Test.YtiahoioaklpnlaaGreatDoorRun01
import Derived.Test.YtiahoioaklpnlaaGreatDoorRun10
import Derived.Test.YtiahoioaklpnlaaGreatDoorRun11
import Derived.Test.YtiahoioaklpnlaaGreatDoorRun20
import Derived.Test.YtiahoioaklpnlaaGreatDoorRun21
import Derived.Test.YtiahoioaklpnlaaGreatDoorRun30
import Derived.Test.YtiahoioaklpnlaaGreatDoorRun31
import Derived.Test.YtiahoioaklpnlaaGreatDoorRun40
import Derived.Test.YtiahoioaklpnlaaGreatDoorRun41
import Derived.Test.YtiahoioaklpnlaaGreatDoorLaid
import Derived.Test.YtiahoioaklpnlaaGreatDoorFactsExecRefuses
import Derived.Test.YtiahoioaklpnlaaGreatDoorCards
import Derived.Test.YtiahoioaklpnlaaGreatDoorAmRow
import Derived.ProofKit
import Derived.SevenTiedAt
namespace Go.Proofs.YtiahoioaklpnlaaGreatDoor.execRefuses
open Go.ChangeShapes Go.WideShapes Go.ChangeAt Go.RowKit Go.Proofs.YtiahoioaklpnlaaGreatDoor
open Go.Am (GLok Grew VRs VR Inj AV post_of_grew trodAll_grew)
set_option maxRecDepth 100000

theorem each (i c : Nat) (hi : i < 5) (hc : c < 4) (k : Nat) (hk : k < 19) (args : Array Value) (w : World) (hg : GLok w gl1) (hv : VRs Inj.nil [.cls .u8 256 19 k, .cls .u8 256 5 i, .cls .u8 256 4 c] args.toList) :
    Calls Tryz.prog 3 args w fun e w' => e = .returned (.bool true) ∧ Grew w w' := by
  match i, c, hi, hc, hv with
  | 0, 0, _, _, hv => exact holds00 k hk args w hg hv
  | 0, 1, _, _, hv => exact holds01 k hk args w hg hv
  | 0, 2, _, _, hv => exact holds02 k hk args w hg hv
  | 0, 3, _, _, hv => exact holds03 k hk args w hg hv
  | 1, 0, _, _, hv => exact holds10 k hk args w hg hv
  | 1, 1, _, _, hv => exact holds11 k hk args w hg hv
  | 1, 2, _, _, hv => exact holds12 k hk args w hg hv
  | 1, 3, _, _, hv => exact holds13 k hk args w hg hv
  | 2, 0, _, _, hv => exact holds20 k hk args w hg hv
  | 2, 1, _, _, hv => exact holds21 k hk args w hg hv
  | 2, 2, _, _, hv => exact holds22 k hk args w hg hv
  | 2, 3, _, _, hv => exact holds23 k hk args w hg hv
  | 3, 0, _, _, hv => exact holds30 k hk args w hg hv
  | 3, 1, _, _, hv => exact holds31 k hk args w hg hv
  | 3, 2, _, _, hv => exact holds32 k hk args w hg hv
  | 3, 3, _, _, hv => exact holds33 k hk args w hg hv
  | 4, 0, _, _, hv => exact holds40 k hk args w hg hv
  | 4, 1, _, _, hv => exact holds41 k hk args w hg hv
  | 4, 2, _, _, hv => exact holds42 k hk args w hg hv
  | 4, 3, _, _, hv => exact holds43 k hk args w hg hv

theorem walk (a b c : Int) (ha : (Lit.int .u8 a).wf = true) (hb : (Lit.int .u8 b).wf = true) (hc : (Lit.int .u8 c).wf = true) (w : World) (hg : GLok w gl1) :
    Calls Tryz.prog 3 #[.int .u8 a, .int .u8 b, .int .u8 c] w fun e w' => e = .returned (.bool true) ∧ Grew w w' := by
  have bd : ∀ {n : Int}, (Lit.int .u8 n).wf = true → 0 ≤ n ∧ n < 256 := fun {n} h => by
    simp [Lit.wf, IntKind.min, IntKind.max, IntKind.signed, IntKind.bits] at h
    omega
  obtain ⟨a0, a1⟩ := bd ha
  obtain ⟨b0, b1⟩ := bd hb
  obtain ⟨c0, c1⟩ := bd hc
  obtain ⟨a, rfl⟩ := Int.eq_ofNat_of_zero_le a0
  obtain ⟨b, rfl⟩ := Int.eq_ofNat_of_zero_le b0
  obtain ⟨c, rfl⟩ := Int.eq_ofNat_of_zero_le c0
  refine each (b % 5) (c % 4) (Nat.mod_lt _ (by decide)) (Nat.mod_lt _ (by decide)) (a % 19) (Nat.mod_lt _ (by decide)) _ w hg ?_
  simp only [VRs, VR, and_true]
  exact ⟨⟨a, rfl, by omega, rfl⟩, ⟨b, rfl, by omega, rfl⟩, ⟨c, rfl, by omega, rfl⟩⟩

theorem lifted (os : Os) (started : os.Started) (H : Type) (enc : TypeId × Value → H) :
    ReturnsInHanded {} Tryz.checked os 3 .any (fun w args => (Rows.execRefusesSpec.pre enc Tryz.prog Tryz.f3 [] false w args ∧ laidMetH Tryz.prog laid2 w) ∧ sizedMet enc Tryz.prog Tryz.f3 (OpenSpec.ofChange Rows.execRefusesSpec) false w args)
      (Rows.execRefusesSpec.post enc Tryz.prog Tryz.f3 false true false false) := by
  refine returnsInHanded_of_change_and (C := Tryz.checked) (X := fun w _ => laidMetH Tryz.prog laid2 w) (fun _ _ _ hh h => h.of_heap hh) ownK started (by kernel_rfl) Tryz.func3
    (ChangeSpec.witness_shaped (enc := enc) (C := Tryz.checked) (os := os) (X := fun w _ => laidMetH Tryz.prog laid2 w) false (World.doorLaid Tryz.prog 400 os) #[.int .u8 0, .int .u8 0, .int .u8 0] 8 rfl (World.shaped_of_RefB (by kernel_rfl) (by kernel_rfl)) (by kernel_rfl) (by kernel_rfl) (by kernel_rfl) (door_met os _)) ?_
  intro W base args ds gs before hval0 hW _ _ hL _
  have hval : ∀ (j : Nat) t v, Tryz.f3.params[j]? = some t → args[j]? = some v → Value.okWide Tryz.prog W .any base t v := hval0
  have hW' := hW
  obtain ⟨p, q, hA0, hV, rfl, hfz, hnd⟩ := hW
  have hA : DataW.TrodAll enc Tryz.prog W 0 (fun _ => true) true Tryz.f3.params.toList args.toList ds p := hA0
  have hA1 := hA
  rw [Tryz.params3] at hA hval
  obtain ⟨v0, v1, v2, d0, d1, d2, q0, q1, q2, rfl, rfl, rfl, h0, h1, h2⟩ := trodAll_three hA
  obtain ⟨rfl, rfl⟩ := trodVars_none hV
  obtain ⟨a, rfl, rfl, rfl, ha⟩ := open_int Tryz.underlying5 (hval 0 5 v0 rfl rfl) h0
  obtain ⟨b, rfl, rfl, rfl, hb⟩ := open_int Tryz.underlying5 (hval 1 5 v1 rfl rfl) h1
  obtain ⟨c, rfl, rfl, rfl, hc⟩ := open_int Tryz.underlying5 (hval 2 5 v2 rfl rfl) h2
  simp only [List.append_nil] at hW'
  refine (walk a b c ha hb hc W (of_laid hL)).mono fun e W' ⟨he, hg⟩ => ?_
  subst he
  refine ⟨_, rfl, post_of_grew (pa := []) (pv := []) hW' (fun _ _ _ => trodAll_cons_mk (shut_bool Tryz.underlying4 _) trodAll_mk0) (fun sp hsp' => ?_) (fun _ _ => rfl) (by simp) hg (ok_one (by kernel_rfl) rfl (okWide_bool_mk Tryz.underlying4 _))⟩
  exact trodAll_grew (by kernel_rfl) hg (by kernel_rfl) hA1 (fun _ h => by cases h) hsp'

theorem holds : Rows.ExecRefusesSaid :=
  OpenClaim.holds_of_wide 3 Tryz.f3 rfl rfl rfl rfl rfl rfl rfl ⟨rfl, rfl, rfl, rfl, rfl⟩ rfl rfl rfl rfl rfl execRefusesFacts.named Tryz.func3 execRefusesFacts.joined execRefusesFacts.inst execRefusesFacts.wrap
    (fun os started H enc _ => lifted os started H enc)

/-- THE STATEMENT. -/
theorem proved : Rows.ExecRefusesCardSaid :=
  Claim7.holds_tied_plain_at .later [] [.listed, .data] true (true, "669a2ce63cb55f7a947eb5c4a9c29f50252152d86e39ae66fdfabf243453b2b4") true
    holds (fun _ h => by cases h) (by kernel_rfl) (fun _ h => by cases h) execRefuses_row_tie rfl ⟨rfl, rfl⟩ (by kernel_rfl) rfl
    (fun f fn hf hfn => by
      obtain rfl : f = 3 := Option.some.inj ((show Tryz.prog.funcNamed "falsework/falseworklaw22.ExecRefuses" = some 3 by kernel_rfl).symm.trans hf) |>.symm
      obtain rfl : fn = Tryz.f3 := (Option.some.inj (Tryz.func3.symm.trans hfn)).symm
      exact ⟨by kernel_rfl, fun j t ht => by
        rw [Tryz.params3] at ht
        have hm : t ∈ [5, 5, 5] := by simpa using Array.mem_of_getElem? ht
        have hall : ([5, 5, 5].all fun u => !Tryz.prog.wantsStandIn u) = true := by kernel_rfl
        exact (show Tryz.prog.wantsStandIn t = false by simpa using List.all_eq_true.1 hall t hm)⟩)
    (by kernel_rfl)
#print axioms proved
end Go.Proofs.YtiahoioaklpnlaaGreatDoor.execRefuses
