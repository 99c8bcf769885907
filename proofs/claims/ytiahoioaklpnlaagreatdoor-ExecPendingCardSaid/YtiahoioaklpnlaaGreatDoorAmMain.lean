/-
  WHAT THE ABSTRACT MACHINE ANSWERS HOLDS OF THE MODEL.
-/
import Derived.Test.YtiahoioaklpnlaaGreatDoorAmStep
namespace Go.Am

theorem evCall_sound {P : Program} {X : Ctx} (hX : CtxOK P X) (hF : ∀ f fn, X.fns.get f = some fn → fnOK fn = true) {own : OwnF} (ho : OwnOK P own) (n : Nat) {f : FuncId} {args : List AV} {s : St} {r : CR} (h : evCall X own n f args s = some r) {ι : Inj} {w : World} {cargs : Array Value} (hv : VRs ι args cargs.toList) (hH : HR P ι s w) : (callFunc f cargs).run P w = .ok (.enter f cargs) w ∧ CallsIn (FE P none) 0 P f cargs w (CPost P ι s w r) :=
  callWith_enters hX hF (ev_sound hX hF ho n).1 h hv hH

/-- No function stands for itself. -/
def noOwn : OwnF := fun _ => none
theorem noOwn_ok (P : Program) : OwnOK P noOwn := fun _ _ h => by cases h

theorem fnsOK_of {P : Program} {eqs : List TypeId} (h : P.funcs.toList.all fnOK = true) : ∀ f fn, (Ctx.of P eqs).fns.get f = some fn → fnOK fn = true := fun f fn hf =>
  List.all_eq_true.mp h fn (by rw [Array.mem_toList_iff]; exact Array.mem_of_getElem? (fns_of hf))

/-- The empty state. -/
def St.nil : St := { h := .e, nx := 0, gl := .e, sh := [] }
theorem HR.nil {P : Program} (w : World) : HR P Inj.nil St.nil w := ⟨fun _ _ h => (by cases h), fun _ _ _ h => (by cases h), fun _ _ h => (by cases h), fun _ _ _ _ h => (by cases h), fun _ _ _ _ _ _ _ h => (by cases h)⟩

/-- Nothing that lay there is turned. -/
def Grew (w w' : World) : Prop := Kin w w' ∧ w.heap.size ≤ w'.heap.size ∧ ∀ cb, cb < w.heap.size → w'.heap[cb]? = w.heap[cb]?

/-- A call of what takes nothing out of the heap: it returns, and nothing that lay there is turned. -/
theorem calls_closed {P : Program} {X : Ctx} (hX : CtxOK P X) (hF : ∀ f fn, X.fns.get f = some fn → fnOK fn = true) {own : OwnF} (ho : OwnOK P own) {n : Nat} {f : FuncId} {args : List AV} {v : AV} {s' : St}
    (h : evCall X own n f args St.nil = some (.ret v s')) {w : World} {cargs : Array Value} (hv : VRs Inj.nil args cargs.toList) :
    (callFunc f cargs).run P w = .ok (.enter f cargs) w ∧ Calls P f cargs w fun e w' => ∃ cv κ, e = .returned cv ∧ VR κ v cv ∧ HR P κ s' w' ∧ Grew w w' := by
  have hno : ∀ cb, ¬ Own Inj.nil St.nil cb := fun cb ⟨b, d, ab, h, _⟩ => by cases h
  obtain ⟨h1, h2⟩ := evCall_sound hX hF ho n h hv (HR.nil w)
  refine ⟨h1, Calls.mono (calls_of_FE h2) fun e w' he => ?_⟩
  cases e with
  | returned cv =>
    obtain ⟨v', s'', e, κ, g1, g2, g3⟩ := he
    cases e
    exact ⟨cv, κ, rfl, g1, g2, g3.kin, g3.size, fun cb hcb => (g3.keep cb hcb (hno cb)).1⟩
  | panicked c => obtain ⟨v', s'', e, _⟩ := he; cases e
  | outgrown => exact he.elim
end Go.Am
