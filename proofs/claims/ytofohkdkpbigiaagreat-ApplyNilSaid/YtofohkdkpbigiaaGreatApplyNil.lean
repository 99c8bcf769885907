/-
  ApplyNil answers true at every input, and its arguments read behind the call as they read before: no condition.
-/
import Derived.Test.YtofohkdkpbigiaaGreatRows
import Derived.Test.YtofohkdkpbigiaaGreatAmRow
import Derived.Test.YtofohkdkpbigiaaGreatAmExt
import Derived.Test.YtofohkdkpbigiaaGreatSum
import Derived.ProofKit
import Derived.OpenShut
namespace Go.Proofs.YtofohkdkpbigiaaGreat.applyNil
open Go.ChangeShapes Go.WideShapes Go.ChangeAt Go.RowKit
open Go.Am (Ctx CtxOK Grew evCall ownL ownL_ok OwnOK OwnOne SumOK sumOwn sum_own isTrue fnsOK_of calls_true post_of_grew fnOK VRs VR anyOf any_args trodAll_length trodAll_lengthD trodAll_grew hasN enters)

theorem own : ownKnob Tryz.prog.godebug = none := by kernel_rfl

theorem eqs : ∀ t, hasN t [55] = true → Tryz.prog.stoodInHeld t = false ∧ Tryz.prog.eqGuardType Tryz.prog.depth t = false := by
  intro t h
  have : t = 55 := by
    simp only [hasN] at h
    split at h
    · rename_i e; exact Nat.beq_eq.mp e
    · cases h
  subst this
  exact ⟨by kernel_rfl, by kernel_rfl⟩
theorem ctx : CtxOK Tryz.prog (Ctx.of Tryz.prog [55]) := CtxOK.of eqs (by kernel_rfl)
set_option maxRecDepth 100000 in
theorem fns : Tryz.prog.funcs.toList.all fnOK = true := by decide +kernel
theorem sums67 : SumOK Tryz.prog 67 := ⟨enters Tryz.func67 (by kernel_rfl) rfl, fun s w h => sum67 s w h⟩
theorem sums90 : SumOK Tryz.prog 90 := ⟨enters Tryz.func90 (by kernel_rfl) rfl, fun s w h => sum90 s w h⟩
theorem owns : OwnOK Tryz.prog (ownL [(67, sumOwn), (90, sumOwn)]) := ownL_ok fun p hp => by
  simp only [List.mem_cons, List.not_mem_nil, or_false] at hp
  rcases hp with rfl | rfl
  · exact fun args s r hr ι w cargs hv hH => sum_own sums67 hr hv hH
  · exact fun args s r hr ι w cargs hv hH => sum_own sums90 hr hv hH
set_option maxRecDepth 100000 in
theorem run : isTrue (evCall (Ctx.of Tryz.prog [55]) (ownL [(67, sumOwn), (90, sumOwn)]) 1000 5 [.agg [.any, .any], .any] Go.Am.St.nil) = true := by decide +kernel
theorem anys : Tryz.f5.params.toList.map (anyOf Tryz.prog) = [.agg [.any, .any], .any] := by kernel_rfl

theorem walk (args : Array Value) (h : VRs Go.Am.Inj.nil [.agg [.any, .any], .any] args.toList) (w : World) :
    Calls Tryz.prog 5 args w fun e w' => e = .returned (.bool true) ∧ Grew w w' :=
  calls_true ctx (fnsOK_of fns) owns run h

set_option maxRecDepth 100000 in
theorem lifted (os : Os) (started : os.Started) (H : Type) (enc : TypeId × Value → H) :
    ReturnsInHanded {} Tryz.checked os 5 .any (Rows.applyNilSpec.pre6 enc Tryz.prog Tryz.f5 Rows.applyNilRow.domain false) (Rows.applyNilSpec.post enc Tryz.prog Tryz.f5 false true false false) := by
  refine returnsInHanded_of_change (C := Tryz.checked) own started (by kernel_rfl) Tryz.func5
    (ChangeSpec.witness6 (enc := enc) (C := Tryz.checked) false ⟨#[], #[.agg #[.int .i64 0, .string .empty], .int .i64 0], []⟩ 8 (by kernel_rfl) (by kernel_rfl) (by kernel_rfl) (by kernel_rfl)) ?_
  intro W base args ds gs before hval0 hW hcnd _
  have hW' := hW
  obtain ⟨p, q, hA, hV, rfl, hfz, hnd⟩ := hW
  have hV' := hV
  obtain ⟨rfl, rfl⟩ := trodVars_none hV'
  simp only [List.append_nil] at hW'
  have hlt : ∀ x ∈ p, x.block < W.heap.size := fun x hx => by simpa using hW'.lt x hx
  have hl := trodAll_length hA
  have hany : VRs Go.Am.Inj.nil [.agg [.any, .any], .any] args.toList := by
    rw [← anys]
    exact any_args hl fun j t v h1 h2 => hval0 j t v (by simpa using h1) (by simpa using h2)
  refine (walk args hany W).mono fun e W' ⟨he, hg⟩ => ?_
  subst he
  have hsp : Rows.applyNilSpec.fn H (ds ++ []) = { results := [.lit (.bool true)], args := ds } := by
    have hl2 : ds.length = 2 := (trodAll_lengthD hA).symm.trans (by kernel_rfl)
    match ds, hl2 with
    | [_, _], _ => rfl
  refine ⟨_, rfl, post_of_grew (pa := p) (pv := []) hW' (fun _ _ _ => ?_) (fun sp hsp' => ?_) (fun _ _ => ?_) (by simp) hg (ok_one (by kernel_rfl) rfl (okWide_bool_mk Tryz.underlying4 _))⟩
  · rw [hsp]; exact trodAll_cons_mk (shut_bool Tryz.underlying4 _) trodAll_mk0
  · rw [hsp]; exact trodAll_grew (by kernel_rfl) hg (by kernel_rfl) hA hlt hsp'
  · rw [hsp]; rfl

theorem over : Rows.applyNilRow.holds Tryz.pinned (OpenSpec.ofChange Rows.applyNilSpec) :=
  OpenClaim.holds_of_wide 5 Tryz.f5 rfl rfl rfl rfl rfl rfl rfl ⟨rfl, rfl, rfl, rfl, rfl⟩ rfl rfl rfl rfl rfl (by kernel_rfl) Tryz.func5 (by kernel_rfl)
    (of_decide_eq_true (by kernel_rfl)) (by unfold Func.isWrapper; first | (rw [if_pos (by decide +kernel)]; kernel_rfl) | (rw [if_neg (by decide +kernel)]; exact ⟨rfl, rfl⟩))
    (fun os started H enc _ => lifted os started H enc)

/-- THE STATEMENT. -/
theorem proved : Rows.ApplyNilSaid :=
  over
#print axioms proved
end Go.Proofs.YtofohkdkpbigiaaGreat.applyNil
