/-
  WHERE NOTHING THAT LAY THERE IS TURNED, each argument reads behind the call as it read before: the row's last step.
-/
import Derived.Test.YtiahoioaklpnlaaGreatDoorAmMain
import Derived.ChangeSame
import Derived.OpenShut
namespace Go.Am
open Go.WideShapes Go.ChangeShapes

theorem Grew.refl (w : World) : Grew w w := ⟨Kin.refl w, Nat.le_refl _, fun _ _ => rfl⟩
theorem Grew.trans {w v u : World} (h : Grew w v) (h' : Grew v u) : Grew w u :=
  ⟨h.1.trans h'.1, Nat.le_trans h.2.1 h'.2.1, fun cb hcb => (h'.2.2 cb (Nat.lt_of_lt_of_le hcb h.2.1)).trans (h.2.2 cb hcb)⟩
theorem Grew.frozen {w v : World} (h : Grew w v) {a : Addr} (ha : a.block < w.heap.size) : v.frozen? a = w.frozen? a := by
  unfold World.frozen?
  rw [h.2.2 _ ha]
theorem Grew.cell {w v : World} (h : Grew w v) {a : Addr} (ha : a.block < w.heap.size) : v.cell? a = w.cell? a := by
  unfold World.cell?
  rw [h.2.2 _ ha]
theorem Grew.kept {w v : World} (h : Grew w v) (may : MemPlace → Prop) : w.keptBut v may := by
  refine ⟨h.1.1, h.1.2, fun i hi => ?_⟩
  rw [h.2.2 i hi]
  cases ho : w.heap[i]? with
  | none => trivial
  | some o =>
    cases o with
    | cells c t fr => exact ⟨rfl, rfl, rfl, fun _ _ => rfl⟩
    | map es clock => exact .inr ⟨rfl, rfl⟩
    | _ => rfl

section
variable {H : Type} {enc : TypeId × Value → H} {P : Program}
theorem post_of_grew {f : Func} {s : ChangeSpec} {apart fresh handsOn again : Bool} {W W' : World} {args : Array Value} {v : Value} {ds gs : List (DataW H)} {before pa pv : List MemPlace}
    (hW : DataW.Whole enc P f.params.toList s.vars apart W args.toList ds gs before)
    (hres : ∀ (b : Nat) (sp : Nat → Bool) (hd : Bool), DataW.TrodAll enc P W' b sp hd f.resultTypes.toList (v.resultList f.resultTypes.size) (s.fn H (ds ++ gs)).results [])
    (hargs : ∀ sp : Nat → Bool, (∀ p ∈ before, sp p.block = true) → DataW.TrodAll enc P W' 0 sp true f.params.toList args.toList (s.fn H (ds ++ gs)).args pa)
    (hvars : ∀ sp : Nat → Bool, (∀ p ∈ before, sp p.block = true) → DataW.TrodVars enc P W' sp s.vars (s.fn H (ds ++ gs)).vars pv)
    (hps : before = pa ++ pv) (hg : Grew W W')
    (hok : ∀ (j : Nat) (t : TypeId) (r : Value), f.resultTypes[j]? = some t → (v.resultList f.resultTypes.size)[j]? = some r → Value.okWide P W' .any 0 t r) :
    s.post enc P f apart fresh handsOn again W args v W' := by
  have hlt : ∀ p ∈ before, p.block < W.heap.size := fun p hp => by simpa using hW.lt p hp
  have hold : ∀ p ∈ before, (fun b => decide (b < W.heap.size)) p.block = true := fun p hp => by simpa using hW.lt p hp
  refine ⟨ds, gs, before, [], pa, pv, hW, hres _ _ _, hargs _ hold, hvars _ hold, World.keptBut_mono (fun p hp => ⟨hp, ?_⟩) (hg.kept (· ∈ before)), fun _ => ?_⟩
  · rw [hps, List.mem_append] at hp
    exact Or.inr hp
  · obtain ⟨_, _, _, _, _, hz, hn⟩ := hW
    refine ⟨hok, _, _, ([] ++ pa) ++ pv, ⟨[] ++ pa, pv, trodAll_append (hargs _ (fun _ _ => rfl)) (hres _ _ _), hvars _ (fun _ _ => rfl), rfl, ?_, ?_⟩, ?_⟩
    · intro b off hp
      have hp' : MemPlace.cell b off ∈ before := by rw [hps]; simpa using hp
      rw [hg.frozen (hlt _ hp')]
      exact hz b off hp'
    · intro ha
      have := hn ha
      rw [hps] at this
      simpa using this
    · intro p hp _
      rw [hps]
      simpa using hp
end

/-- A law that answers true, and turns nothing: off the abstract machine's answer. -/
def isTrue : Option CR → Bool
  | some (.ret (.bool true) _) => true
  | _ => false
theorem calls_true {P : Program} {X : Ctx} (hX : CtxOK P X) (hF : ∀ f fn, X.fns.get f = some fn → fnOK fn = true) {own : OwnF} (ho : OwnOK P own) {n : Nat} {f : FuncId} {args : List AV}
    (h : isTrue (evCall X own n f args St.nil) = true) {w : World} {cargs : Array Value} (hv : VRs Inj.nil args cargs.toList) :
    Calls P f cargs w fun e w' => e = .returned (.bool true) ∧ Grew w w' := by
  unfold isTrue at h
  split at h
  · rename_i s' he
    refine Calls.mono (calls_closed hX hF ho he hv).2 fun e w' ⟨cv, κ, h1, h2, h3, h4⟩ => ⟨?_, h4⟩
    rw [h1, h2.bool]
  · cases h
end Go.Am
