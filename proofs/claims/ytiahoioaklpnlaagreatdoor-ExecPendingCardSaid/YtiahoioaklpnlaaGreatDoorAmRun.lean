/-
  ONE OPERATION IN ITS REGION, REGIONS IN THEIR ORDER: the abstract machine against the kit's 'wpOp', 'wpOps'.
-/
import Derived.Test.YtiahoioaklpnlaaGreatDoorAmOp
import Derived.Test.YtiahoioaklpnlaaGreatDoorAmEv
import Derived.OrdersIn
import Derived.RangeFuncIn
namespace Go.Am

/-- A frame against an activation, but for what is hidden. -/
structure FRN (N : Nat) (H : Nat → Prop) (ι : Inj) (fr : Fr) (a : Act) : Prop where
  t : ∀ k v, ¬ H k → fr.t.get k = some v → ∃ cv, a.tmps[k]? = some cv ∧ VR ι v cv
  d : DRs ι fr.d a.defers
  n : N ≤ a.tmps.size
/-- Nothing is hidden. -/
abbrev Bare : Nat → Prop := fun _ => False

section
variable {N : Nat} {H : Nat → Prop} {ι κ : Inj} {fr : Fr} {a : Act}
theorem FRN.mono (h : ι.le κ) (hf : FRN N H ι fr a) : FRN N H κ fr a :=
  ⟨fun k v hk hv => let ⟨cv, h1, h2⟩ := hf.t k v hk hv; ⟨cv, h1, h2.mono h⟩, hf.d.mono h, hf.n⟩
theorem FRN.opd (hf : FRN N H ι fr a) (x : Operand) (hx : ∀ t, x = .tmp t → ¬ H t) : VR ι (fr.opd x) (a.eval x) := by
  cases x with
  | tmp t =>
    simp only [Fr.opd]
    split
    · rename_i v hv
      obtain ⟨cv, h1, h2⟩ := hf.t t v (hx t rfl) hv
      simpa [Act.eval, h1] using h2
    · simp [VR]
  | const v => exact VR_ofV ι v
  | global g => simp [Fr.opd, VR, Act.eval]
  | func f => simp only [Fr.opd, Act.eval, VR]; exact ⟨#[], #[], rfl, by simp [VRs], by simp [VRs]⟩
theorem put_some (a : Act) (d : Nat) (v : Value) : a.put (some d) v = { a with tmps := a.tmps.setIfInBounds d v } := rfl
theorem FRN.put (hf : FRN N H ι fr a) {v : AV} {cv : Value} (hv : VR ι v cv) {d : Nat} (hd : d < N) : FRN N H ι ⟨fr.t.put d v, fr.d⟩ (a.put (some d) cv) := by
  refine ⟨fun k u hk hu => ?_, hf.d, by simpa [put_some] using hf.n⟩
  rw [put_some]
  rcases Tr.get_put hu with ⟨rfl, rfl⟩ | ⟨hne, hu⟩
  · exact ⟨cv, by simp only; rw [Array.getElem?_setIfInBounds_self_of_lt (Nat.lt_of_lt_of_le hd hf.n)], hv⟩
  · obtain ⟨c, h1, h2⟩ := hf.t k u hk hu
    exact ⟨c, by simp only; rw [Array.getElem?_setIfInBounds_ne (Ne.symm hne)]; exact h1, h2⟩
theorem dstOK_lt {n : Nat} {o : Oper} {d : Nat} (h : dstOK n o = true) (hd : o.dst = some d) : d < n := by
  simp only [dstOK, hd] at h
  simpa [Nat.blt_eq] using h

/-- What a slot is given. -/
theorem goOld_spec {fr : Fr} {dst : Option Nat} {v : AV} {s : St} {pr : PR} (h : goOld fr dst v s = some pr) : ∃ fr', pr = .go fr' s ∧ fr'.d = fr.d ∧ (∀ k u, fr'.t.get k = some u → (dst = some k ∧ u = v) ∨ (dst ≠ some k ∧ fr.t.get k = some u)) ∧ ((∀ d, dst = some d → d ≤ 1000000000) → ∀ k, dst ≠ some k → fr'.t.get k = fr.t.get k) ∧
    ∀ {N : Nat} {H : Nat → Prop} {ι : Inj} {a : Act} {cv : Value}, FRN N H ι fr a → VR ι v cv → (∀ d, dst = some d → d < N) → FRN N H ι fr' (a.put dst cv) := by
  unfold goOld at h
  split at h
  · cases h
    exact ⟨fr, rfl, rfl, fun k u hu => .inr ⟨by simp, hu⟩, fun _ _ _ => rfl, fun hf _ _ => hf⟩
  · rename_i d
    simp only [Tr.putK_eq] at h
    cases h
    refine ⟨_, rfl, rfl, fun k u hu => ?_, fun hd k hk => Tr.get_put_ne (hd _ rfl) (fun e => hk (by rw [e])), fun hf hv hd => hf.put hv (hd _ rfl)⟩
    rcases Tr.get_put hu with ⟨rfl, rfl⟩ | ⟨hne, hu⟩
    · exact .inl ⟨rfl, rfl⟩
    · exact .inr ⟨fun e => hne (Option.some.inj e).symm, hu⟩
end

/-- What a call comes to. -/
def CPost (P : Program) (ι : Inj) (s : St) (w : World) (r : CR) : Ending → World → Prop
  | .returned cv, w' => ∃ v s', r = .ret v s' ∧ ∃ κ, VR κ v cv ∧ HR P κ s' w' ∧ Ext ι s w κ s' w'
  | .panicked chain, w' => ∃ v s', r = .pan v s' ∧ ∃ κ cv, chain = [{ v := cv, recovered := false }] ∧ VR κ v cv ∧ HR P κ s' w' ∧ Ext ι s w κ s' w'
  | .outgrown, _ => False
/-- The fence that lets in whatever function there is; a round's. -/
def FE (P : Program) (ro : Option Nat) : Fence := { fn := fun f => ∃ fn, P.funcs[f]? = some fn, depth := none, alive := false, round := ro }
theorem FE_room {P : Program} {ro : Option Nat} (n : Nat) : (FE P ro).room n := fun _ h => by simp [FE] at h
theorem callsIn_FE {P : Program} {ro : Option Nat} {f : FuncId} {args : Array Value} {w : World} {R : Ending → World → Prop} (h : CallsIn (FE P none) 0 P f args w R) : CallsIn (FE P ro) (0 - 1) P f args w R := h
theorem roundIn_FE {P : Program} {ro : Option Nat} {l : Nat} {f : FuncId} {tmps : Array Value} {assign body : Code} {w : World} {R : Ending → World → Prop} (h : RoundIn (FE P none) 0 P l f tmps assign body w R) : RoundIn (FE P ro) (0 - 1) P l f tmps assign body w R := h
theorem FE_depth {P : Program} {ro : Option Nat} {p : Prop} : (FE P ro).depth.isSome = true → p := fun h => by simp [FE] at h
/-- Off the fence. -/
theorem calls_of_FE {P : Program} {f : FuncId} {args : Array Value} {w : World} {R : Ending → World → Prop} (h : CallsIn (FE P none) 0 P f args w R) : Calls P f args w R :=
  fun cs => let ⟨e, w', fr, r, s, x⟩ := h.2 cs (FE_room _); ⟨e, w', fr, r, s.comes, x⟩

/-- A call, as the abstract machine has it. -/
def CallResF (P : Program) (ι : Inj) (s : St) (w : World) (r : CR) (f : FuncId) (cargs : Array Value) : Prop :=
  ((callFunc f cargs).run P w = .ok (.enter f cargs) w ∧ CallsIn (FE P none) 0 P f cargs w (CPost P ι s w r)) ∨
  ∃ cv w', (callFunc f cargs).run P w = .ok (.value cv) w' ∧ CPost P ι s w r (.returned cv) w'
def CallRes (P : Program) (ι : Inj) (s : St) (w : World) (r : CR) (g : Tgt) (cargs : Array Value) : Prop := match g with
  | .fn f => CallResF P ι s w r f cargs
  | .rnd b => ∀ cb d, ι b = some (cb, d) → ∃ fn tmps assign body, (Instr.yield cb cargs).run P w = .ok (.round cb fn tmps assign body) w ∧ RoundIn (FE P none) 0 P cb fn tmps assign body w (CPost P ι s w r)
def CallOK (P : Program) (call : Caller) : Prop :=
  ∀ f args s r, call f args s = some r → ∀ ι w cargs, VRs ι args cargs.toList → HR P ι s w → CallRes P ι s w r f cargs

theorem says_spec {N : Nat} {H : Nat → Prop} {ι : Inj} {fr : Fr} {a : Act} {ops : Array Oper} {o : Oper} {b : Bool} (h : wantedAt ops fr o = some b) (hf : FRN N H ι fr a) (hs : ∀ t ∈ o.looksAt ops, ¬ H t) :
    Region.wanted o (yielded ops a.tmps) = b := by
  unfold wantedAt at h
  unfold Region.wanted
  split at h
  · rename_i hg; cases h; simp [hg]
  · rename_i j want hg
    simp only [hg]
    unfold guardAt at h
    split at h
    · rename_i g hj
      split at h
      · rename_i d hd
        have hj' : ops[j]? = some g := by simpa using hj
        have hH : ¬ H d := hs d (by simp [Oper.looksAt, hg, hj', hd])
        unfold saysAt at h
        split at h
        · rename_i c hc
          cases h
          obtain ⟨cv, h1, h2⟩ := hf.t d _ hH hc
          rw [h2.bool] at h1
          simp [yielded, hj', hd, h1]
        · rename_i l hc
          cases h
          obtain ⟨cv, h1, h2⟩ := hf.t d _ hH hc
          obtain ⟨x, h3, _⟩ := h2.tup
          rw [h3] at h1
          simp [yielded, hj', hd, h1]
        · cases h
      · cases h
    · cases h

theorem callFunc_ex {P : Program} {f : FuncId} {args : Array Value} {w w' : World} {v : Next} (h : (callFunc f args).run P w = .ok v w') : ∃ fn, P.funcs[f]? = some fn := by
  cases hP : P.funcs[f]? with
  | some fn => exact ⟨fn, rfl⟩
  | none => simp [callFunc, hP] at h
theorem isFn_ex {P : Program} {X : Ctx} (hX : CtxOK P X) {g : FuncId} (h : isFn X g = true) : ∃ fn, P.funcs[g]? = some fn := by
  unfold isFn at h
  split at h
  · rename_i fn hg; exact ⟨fn, hX.fns g fn hg⟩
  · cases h
/-- What a call that is passed by leads to is there. -/
theorem about_pass {P : Program} {X : Ctx} (hX : CtxOK P X) {o : Oper} {fr : Fr} {a : Act} {w : World} {ι : Inj} (h : passOK X o fr = true) (he : ∀ x ∈ o.op.operands, VR ι (fr.opd x) (a.eval x)) : ∀ f, o.about P w a.eval = some f → ∃ fn, P.funcs[f]? = some fn := by
  intro f hf
  unfold Oper.about at hf
  split at hf
  · rename_i c ho
    unfold passOK at h
    simp only [ho] at h
    cases hc : c.callee with
    | builtin b => simp [resolve, hc, Target.leads] at hf
    | value x =>
      have hv := he x (by simp [Op.operands, Call.operands, ho, hc])
      simp only [hc, passC] at h
      unfold leadsOK at h
      split at h
      · rename_i g first cap e
        rw [e] at hv
        simp only [VR] at hv
        obtain ⟨x', y', e1, _, _⟩ := hv
        simp [resolve, hc, e1, Deferred.ofValue, Target.leads] at hf
        subst hf
        exact isFn_ex hX h
      · rename_i e
        rw [e] at hv
        simp only [VR] at hv
        obtain ⟨x', e1, _⟩ := hv
        simp [resolve, hc, e1, Deferred.ofValue] at hf
      · rename_i e
        rw [e] at hv
        simp only [VR] at hv
        simp [resolve, hc, hv, Deferred.ofValue, Target.leads] at hf
      · rename_i b e
        rw [e] at hv
        simp only [VR] at hv
        obtain ⟨c', d', _, e1⟩ := hv
        simp [resolve, hc, e1, Deferred.ofValue, Target.leads] at hf
      · cases h
    | invoke x name =>
      have hv := he x (by simp [Op.operands, Call.operands, ho, hc])
      simp only [hc, passC] at h
      have e0 : (#[a.eval x] ++ Array.map a.eval c.args)[0]? = some (a.eval x) := by rw [Array.getElem?_append_left (by simp)]; rfl
      unfold rcvOK at h
      split at h
      · rename_i e
        rw [e] at hv
        simp only [VR] at hv
        obtain ⟨x', e1, _⟩ := hv
        rw [e1] at e0
        simp only [resolve, hc, Sem.run_pure, Target.leads, e1, e0] at hf
        cases hf
      · rename_i e
        rw [e] at hv
        simp only [VR] at hv
        rw [hv] at e0
        simp only [resolve, hc, Sem.run_pure, Target.leads, hv, e0] at hf
        cases hf
      · cases h
  · cases hf
/-- One that does not act leads nowhere. -/
theorem about_na {P : Program} {o : Oper} {a : Act} {w : World} (h : acts o = false) : ∀ f, o.about P w a.eval = some f → ∃ fn, P.funcs[f]? = some fn := by
  intro f hf
  unfold Oper.about at hf
  split at hf
  · rename_i c ho
    unfold acts at h
    simp only [ho] at h
    cases hc : c.callee with
    | builtin b => simp [resolve, hc, Target.leads] at hf
    | value x => simp [hc] at h
    | invoke x name => simp [hc] at h
  · cases hf
/-- So where the call is done. -/
theorem about_done {P : Program} {X : Ctx} (hX : CtxOK P X) {call : Caller} (hC : CallOK P call) {o : Oper} {fr : Fr} {a : Act} {s : St} {w : World} {ι : Inj} {dst : Option Nat} {pr : PR} (h : goOp call fr dst s (opAt X o fr s) = some pr) (hH : HR P ι s w) (he : ∀ x ∈ o.op.operands, VR ι (fr.opd x) (a.eval x)) :
    ∀ f, o.about P w a.eval = some f → ∃ fn, P.funcs[f]? = some fn := by
  intro f hf
  have key : ∀ {g : FuncId} {args : List AV} {cargs : Array Value}, opAt X o fr s = some (.call g args) → (execOp a.eval o).run P w = (callFunc g cargs).run P w → VRs ι args cargs.toList → ∃ fn, P.funcs[g]? = some fn := by
    intro g args cargs e1 e2 e3
    rw [e1] at h
    simp only [goOp, kL_eq] at h
    unfold goCall at h
    split at h
    · rename_i v s' hcall
      rcases hC (.fn g) args s _ hcall ι w cargs e3 hH with ⟨g1, _⟩ | ⟨cv, w', g1, _⟩
      · exact callFunc_ex g1
      · exact callFunc_ex g1
    · rename_i v s' hcall
      rcases hC (.fn g) args s _ hcall ι w cargs e3 hH with ⟨g1, _⟩ | ⟨cv, w', g1, _⟩
      · exact callFunc_ex g1
      · exact callFunc_ex g1
    · cases h
  unfold Oper.about at hf
  split at hf
  · rename_i c ho
    cases hop : opAt X o fr s with
    | none => rw [hop] at h; simp [goOp] at h
    | some r =>
      have hS := opAt_sound hX hop hH he
      have hop' : opCall X c fr s = some r := by
        have : opAt X o fr s = opCall X c fr s := by unfold opAt; rw [ho]
        rw [← this]; exact hop
      unfold opCall at hop'
      cases hc : c.callee with
      | builtin b => simp [resolve, hc, Target.leads] at hf
      | value x =>
        have hv := he x (by simp [Op.operands, Call.operands, ho, hc])
        simp only [hc] at hop'
        unfold callAt at hop'
        split at hop'
        · rename_i g first cap e
          cases hop'
          rw [e] at hv
          simp only [VR] at hv
          obtain ⟨x', y', e1, _, _⟩ := hv
          simp [resolve, hc, e1, Deferred.ofValue, Target.leads] at hf
          subst hf
          obtain ⟨cargs, k1, k2⟩ := hS
          exact key hop k1 k2
        · rename_i b e
          rw [e] at hv
          simp only [VR] at hv
          obtain ⟨c', d', _, e1⟩ := hv
          simp [resolve, hc, e1, Deferred.ofValue, Target.leads] at hf
        · cases hop'
      | invoke x name =>
        simp only [hc] at hop'
        obtain ⟨g, args', rfl, ⟨t, cv, e1, e2⟩, _⟩ := opInvoke_sound hX (w := w) hop' (he x (by simp [Op.operands, Call.operands, ho, hc])) (opds c.args fun y hy => he y (by simp [Op.operands, Call.operands, ho, hc, hy]))
        have e0 : (#[a.eval x] ++ Array.map a.eval c.args)[0]? = some (a.eval x) := by rw [Array.getElem?_append_left (by simp)]; rfl
        have hd : P.types.size + Made.depth = (P.types.size + Made.depth - 1) + 1 := by
          have : 0 < Made.depth := by decide
          omega
        rw [e1] at e0
        simp only [resolve, hc, Sem.run_pure, Target.leads, e1, e0] at hf
        rw [hd, e2] at hf
        simp only [Option.some.injEq] at hf
        subst hf
        obtain ⟨cargs, k1, k2⟩ := hS
        exact key hop k1 k2
  · cases hf

section
variable {P : Program} {X : Ctx} (hX : CtxOK P X) {call : Caller} (hC : CallOK P call) {ops : Array Oper} {Q : Exit → Act → World → Prop} {K : Act → World → Prop}
include hX hC

/-- ONE OPERATION IN ITS REGION. -/
theorem one_sound {ro : Option Nat} {i : Nat} {o : Oper} {N : Nat} {H : Nat → Prop} {ι : Inj} {fr : Fr} {a : Act} {s : St} {w : World} {pr : PR} (hi : ops[i]? = some o) (h : oneOp X call ops o fr s = some pr)
    (hf : FRN N H ι fr a) (hH : HR P ι s w) (hs : ∀ t ∈ o.looksAt ops, ¬ H t) (hd : dstOK N o = true) (hq : ro = none ∨ quietOp o = true)
    (hgo : ∀ κ a' w' fr' s', pr = .go fr' s' → FRN N H κ fr' a' → HR P κ s' w' → Ext ι s w κ s' w' → (N ≤ 1000000000 → ∀ k, o.dst ≠ some k → fr'.t.get k = fr.t.get k) → K a' w')
    (hpan : ∀ κ a' w' fr' s' v cv, pr = .pan v fr' s' → FRN N H κ fr' a' → HR P κ s' w' → Ext ι s w κ s' w' → VR κ v cv → Q (.panic [{ v := cv, recovered := false }]) a' w') :
    wpOpIn (FE P ro) 0 P ops Q i K a w := by
  have hdl : ∀ d, o.dst = some d → d < N := fun d => dstOK_lt hd
  have he : ∀ x ∈ o.op.operands, VR ι (fr.opd x) (a.eval x) := fun x hx => hf.opd x fun t ht => hs t (by
    subst ht
    exact List.mem_append_left _ (List.mem_filterMap.2 ⟨.tmp t, by simpa using hx, rfl⟩))
  have fin : ∀ {κ : Inj} {fr0 : Fr} {a0 : Act} {s' : St} {w' : World} {v : AV} {cv : Value}, goOld fr0 o.dst v s' = some pr → FRN N H κ fr0 a0 → HR P κ s' w' → Ext ι s w κ s' w' → VR κ v cv → fr0.t = fr.t → K (a0.put o.dst cv) w' := by
    intro κ fr0 a0 s' w' v cv hg hf0 hh hE hv ht
    obtain ⟨fr', rfl, h1, h2, h4, h3⟩ := goOld_spec hg
    refine hgo κ _ w' fr' s' rfl (h3 hf0 hv hdl) hh hE fun hN k hk => ?_
    rw [← ht]
    exact h4 (fun d hd => Nat.le_trans (Nat.le_of_lt (hdl d hd)) hN) k hk
  have hsem : o.semAt (FE P ro).round a.eval = execOp a.eval o := by
    rcases hq with hq | hq
    · subst hq; rfl
    · exact Oper.semAt_eq _ _ _ fun c hc => by simp [quietOp, hc] at hq
  unfold wpOpIn
  simp only [hi]
  unfold oneOp goIf at h
  split at h
  · cases h
  · rename_i hw
    have hw := says_spec hw hf hs
    simp only [hw, Bool.false_eq_true, if_false]
    unfold goPass at h
    split at h
    · rename_i hp
      exact ⟨about_pass hX hp he, fin h hf hH (Ext.refl _ _ _) (by simp [undef, VR, VRs]) rfl⟩
    · cases h
  · rename_i hw
    have hw := says_spec hw hf hs
    simp only [hw, if_true]
    refine ⟨about_done hX hC h hH he, ?_⟩
    rw [hsem]
    have post : ∀ {v cv s' w' κ}, goOn fr o.dst v s' = some pr → VR κ v cv → HR P κ s' w' → Ext ι s w κ s' w' → K (a.put o.dst cv) w' := by
      intro v cv s' w' κ hg hv hh hE
      unfold goOn at hg
      simp only [kS_eq, kV_eq] at hg
      exact fin hg (hf.mono hE.le) hh hE hv rfl
    unfold goOp at h
    split at h
    · cases h
    · rename_i v hop
      obtain ⟨cv, h1, h2⟩ := opAt_sound hX hop hH he
      rw [h1]
      exact fin h hf hH (Ext.refl _ _ _) h2 rfl
    · rename_i v hop
      simp only [kV_eq] at h
      obtain ⟨cv, h1, h2⟩ := opAt_sound hX hop hH he
      rw [h1]
      exact fin h hf hH (Ext.refl _ _ _) h2 rfl
    · rename_i v s' hop
      obtain ⟨κ, w', cv, h1, h2, h3, h4⟩ := opAt_sound hX hop hH he
      rcases h1 with h1 | ⟨h1, rfl⟩
      · rw [h1]; exact post h h2 h3 h4
      · rw [h1]; exact post h h2 h3 h4
    · rename_i d hop
      obtain ⟨cd, cap, h1, h2, h3⟩ := opAt_sound hX hop hH he
      rw [h1]
      exact fin (κ := ι) h ⟨hf.t, .cons h2 h3 hf.d, hf.n⟩ hH (Ext.refl _ _ _) (by simp [undef, VR, VRs]) rfl
    · rename_i v hop
      cases h
      obtain ⟨cv, h1, h2⟩ := opAt_sound hX hop hH he
      rw [h1]
      exact hpan ι a w fr s v cv rfl hf hH (Ext.refl _ _ _) h2
    · rename_i f args hop
      simp only [kL_eq] at h
      obtain ⟨cargs, h1, h2⟩ := opAt_sound hX hop hH he
      rw [h1]
      unfold goCall at h
      split at h
      · rename_i v s' hcall
        rcases hC (.fn f) args s _ hcall ι w cargs h2 hH with ⟨g1, g2⟩ | ⟨cv, w', g1, v', s'', e, κ, g3, g4, g5⟩
        · rw [g1]
          refine ⟨FE_depth, callsIn_FE (CallsIn.mono g2 fun e w' he => ?_)⟩
          cases e with
          | returned cv => obtain ⟨v', s'', e, κ, g3, g4, g5⟩ := he; cases e; exact post h g3 g4 g5
          | panicked chain => obtain ⟨v', s'', e, _⟩ := he; cases e
          | outgrown => exact he.elim
        · rw [g1]; cases e; exact post h g3 g4 g5
      · rename_i v s' hcall
        cases h
        rcases hC (.fn f) args s _ hcall ι w cargs h2 hH with ⟨g1, g2⟩ | ⟨cv, w', g1, v', s'', e, κ, g3, g4, g5⟩
        · rw [g1]
          refine ⟨FE_depth, callsIn_FE (CallsIn.mono g2 fun e w' he => ?_)⟩
          cases e with
          | returned cv => obtain ⟨v', s'', e, _⟩ := he; cases e
          | panicked chain => obtain ⟨v', s'', e, κ, cv, rfl, g3, g4, g5⟩ := he; cases e; exact hpan κ a w' fr _ _ cv rfl (hf.mono g5.le) g4 g5 g3
          | outgrown => exact he.elim
        · cases e
      · cases h
    · rename_i b args hop
      simp only [kL_eq] at h
      obtain ⟨cb, d, cargs, h0, h1, h2⟩ := opAt_sound hX hop hH he
      rw [h1]
      unfold goCall at h
      split at h
      · rename_i v s' hcall
        obtain ⟨fn, tmps, assign, body, g1, g2⟩ := hC (.rnd b) args s _ hcall ι w cargs h2 hH cb d h0
        rw [g1]
        refine ⟨FE_depth, roundIn_FE (RoundIn.mono g2 fun e w' he => ?_)⟩
        cases e with
        | returned cv => obtain ⟨v', s'', e, κ, g3, g4, g5⟩ := he; cases e; exact post h g3 g4 g5
        | panicked chain => obtain ⟨v', s'', e, _⟩ := he; cases e
        | outgrown => exact he.elim
      · rename_i v s' hcall
        cases h
        obtain ⟨fn, tmps, assign, body, g1, g2⟩ := hC (.rnd b) args s _ hcall ι w cargs h2 hH cb d h0
        rw [g1]
        refine ⟨FE_depth, roundIn_FE (RoundIn.mono g2 fun e w' he => ?_)⟩
        cases e with
        | returned cv => obtain ⟨v', s'', e, _⟩ := he; cases e
        | panicked chain => obtain ⟨v', s'', e, κ, cv, rfl, g3, g4, g5⟩ := he; cases e; exact hpan κ a w' fr _ _ cv rfl (hf.mono g5.le) g4 g5 g3
        | outgrown => exact he.elim
      · cases h

/-- What a code comes to. -/
def XPost (P : Program) (N : Nat) (ι : Inj) (s : St) (w : World) (r : EX × Fr × St) (e : Exit) (a' : Act) (w' : World) : Prop :=
  ∃ κ, FRN N Bare κ r.2.1 a' ∧ HR P κ r.2.2 w' ∧ Ext ι s w κ r.2.2 w' ∧ match r.1, e with
    | .norm, .normal => True
    | .brk i, .exit j => i = j
    | .ret, .ret => True
    | .pan v, .panic ch => ∃ cv, ch = [{ v := cv, recovered := false }] ∧ VR κ v cv
    | _, _ => False
omit hX hC in
theorem XPost.of {N : Nat} {ι κ : Inj} {s t : St} {w u : World} {r : EX × Fr × St} {e : Exit} {a' : Act} {w' : World} (hE : Ext ι s w κ t u) (h : XPost P N κ t u r e a' w') : XPost P N ι s w r e a' w' :=
  let ⟨μ, h1, h2, h3, h4⟩ := h
  ⟨μ, h1, h2, hE.trans h3, h4⟩

theorem inOrder_sound {ro : Option Nat} {N : Nat} {r : EX × Fr × St} {ι₀ : Inj} {s₀ : St} {w₀ : World} : ∀ (l : List Oper) (i : Nat), ops.toList.drop i = l → l.all (dstOK N) = true → (ro = none ∨ l.all quietOp = true) → ∀ {ι : Inj} {fr : Fr} {a : Act} {s : St} {w : World}, inOrder X call ops l fr s = some r →
    FRN N Bare ι fr a → HR P ι s w → Ext ι₀ s₀ w₀ ι s w → wpOpsIn (FE P ro) 0 P ops (XPost P N ι₀ s₀ w₀ r) (List.range' i l.length) a w
  | [], i, hl, hd, hq, ι, fr, a, s, w, h, hf, hH, hE => by
    cases h
    exact ⟨ι, hf, hH, hE, trivial⟩
  | o :: l, i, hl, hd, hq, ι, fr, a, s, w, h, hf, hH, hE => by
    have hoi : ops[i]? = some o := by
      have := congrArg List.head? hl
      simpa using this
    have hl' : ops.toList.drop (i + 1) = l := by
      have := congrArg List.tail hl
      simpa using this
    simp only [List.all_cons, Bool.and_eq_true] at hd hq
    have hq1 : ro = none ∨ quietOp o = true := hq.imp id (·.1)
    have hq2 : ro = none ∨ l.all quietOp = true := hq.imp id (·.2)
    rw [List.length_cons, List.range'_succ, wpOpsIn_cons]
    unfold inOrder goNext at h
    split at h
    · rename_i fr' s' hop
      refine one_sound hX hC hoi hop hf hH (fun _ _ h => h) hd.1 hq1 (fun κ a' w' fr'' s'' e hf' hH' hE' _ => ?_) (fun κ a' w' fr'' s'' v cv e => by cases e)
      cases e
      exact inOrder_sound l (i + 1) hl' hd.2 hq2 h hf' hH' (hE.trans hE')
    · rename_i v fr' s' hop
      cases h
      refine one_sound hX hC hoi hop hf hH (fun _ _ h => h) hd.1 hq1 (fun κ a' w' fr'' s'' e => by cases e) (fun κ a' w' fr'' s'' v cv e hf' hH' hE' hv => ?_)
      cases e
      exact ⟨κ, hf', hH', hE.trans hE', cv, rfl, hv⟩
    · cases h
end
end Go.Am
