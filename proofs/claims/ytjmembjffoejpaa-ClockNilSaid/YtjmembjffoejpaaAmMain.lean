/-
  WHAT THE ABSTRACT MACHINE ANSWERS HOLDS OF THE MODEL.
-/
import Derived.Test.YtjmembjffoejpaaAmDraw3
namespace Go.Am

theorem evCall_sound {P : Program} {X : Ctx} (hX : CtxOK P X) (hF : ∀ f fn, X.fns.get f = some fn → fnOK fn = true) {own : OwnF} (ho : OwnOK P own) (n : Nat) : CallOK P (evCall X own n) :=
  callWith_sound hX hF (ev_sound hX hF ho (fun _ hc => draw_sound hX hc) n).1

/-- No function stands for itself. -/
def noOwn : OwnF := fun _ => none
theorem noOwn_ok (P : Program) : OwnOK P noOwn := fun _ _ h => by cases h

theorem fnsOK_of {P : Program} {eqs : List TypeId} (h : P.funcs.toList.all fnOK = true) : ∀ f fn, (Ctx.of P eqs).fns.get f = some fn → fnOK fn = true := fun f fn hf =>
  List.all_eq_true.mp h fn (by rw [Array.mem_toList_iff]; exact Array.mem_of_getElem? (fns_of hf))

/-- The empty state. -/
def St.nil : St := { h := .e, nx := 0 }
def Inj.nil : Inj := fun _ => none
theorem HR.nil (w : World) : HR Inj.nil St.nil w := ⟨fun _ _ h => (by cases h), fun _ _ _ _ h => (by cases h), fun _ _ _ _ _ _ _ h => (by cases h)⟩

/-- Nothing that lay there is turned. -/
def Grew (w w' : World) : Prop := Kin w w' ∧ w.heap.size ≤ w'.heap.size ∧ ∀ cb, cb < w.heap.size → w'.heap[cb]? = w.heap[cb]?

/-- A call of what takes nothing out of the heap: it returns, and nothing that lay there is turned. -/
theorem calls_closed {P : Program} {X : Ctx} (hX : CtxOK P X) (hF : ∀ f fn, X.fns.get f = some fn → fnOK fn = true) {own : OwnF} (ho : OwnOK P own) {n : Nat} {f : FuncId} {args : List AV} {v : AV} {s' : St}
    (h : evCall X own n f args St.nil = some (.ret v s')) {w : World} {cargs : Array Value} (hv : VRs Inj.nil args cargs.toList) :
    (callFunc f cargs).run P w = .ok (.enter f cargs) w ∧ Calls P f cargs w fun e w' => ∃ cv κ, e = .returned cv ∧ VR κ v cv ∧ HR κ s' w' ∧ Grew w w' := by
  have hno : ∀ cb, ¬ Own Inj.nil St.nil cb := fun cb ⟨b, d, ab, h, _⟩ => by cases h
  rcases evCall_sound hX hF ho n f args St.nil _ h Inj.nil w cargs hv (HR.nil w) with ⟨h1, h2⟩ | ⟨cv, w', h1, h2⟩
  · refine ⟨h1, Calls.mono h2 fun e w' he => ?_⟩
    cases e with
    | returned cv =>
      obtain ⟨v', s'', e, κ, g1, g2, g3⟩ := he
      cases e
      exact ⟨cv, κ, rfl, g1, g2, g3.kin, g3.size, fun cb hcb => (g3.keep cb hcb (hno cb)).1⟩
    | panicked c => obtain ⟨v', s'', e, _⟩ := he; cases e
    | outgrown => exact he.elim
  · exfalso
    unfold evCall callWith at h
    split at h
    · rename_i fn hfn
      split at h
      · rename_i c hc
        have hP := hX.fns f fn hfn
        have hok := hF f fn hfn
        simp only [fnOK, hc, Bool.and_eq_true, bne_iff_ne, ne_eq] at hok
        simp [callFunc, hP, hc, hok.2.1] at h1
      · cases h
    · cases h
end Go.Am
