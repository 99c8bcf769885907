/-
  CODE AND CALLS of the abstract machine against the kit's 'Code.wp' and 'Calls'.
-/
import Derived.Test.YtjmembjffoejpaaAmRun
import Derived.LoopN
import Derived.Scope
namespace Go.Am

section
variable {P : Program} {X : Ctx} (hX : CtxOK P X)

def resOne (tmps : Array Value) : ResultVar → Sem Value
  | .tmp t => pure (tmps.getD t undef)
  | .cell x t => do loadVar t (← asAddr (tmps.getD x undef))
theorem results_eq (fn : Func) (tmps : Array Value) : results fn tmps = (do let vs ← fn.results.mapM (resOne tmps); pure (if h : vs.size = 1 then vs[0] else .tuple vs)) := by
  have : (fun r => match r with
    | .tmp t => pure (tmps.getD t undef)
    | .cell x t => do loadVar t (← asAddr (tmps.getD x undef)) : ResultVar → Sem Value) = resOne tmps := by
    funext r; cases r <;> rfl
  rw [← this]
  rfl

include hX in
theorem loadR_run {N : Nat} {ι : Inj} {fr : Fr} {a : Act} {s : St} {w : World} {r : ResultVar} {v : AV} (h : loadR X fr s r = some v) (hf : FRN N Bare ι fr a) (hH : HR ι s w) :
    ∃ cv, (resOne a.tmps r).run P w = .ok cv w ∧ VR ι v cv := by
  unfold loadR at h
  split at h
  · rename_i t
    split at h
    · rename_i u hu
      cases h
      obtain ⟨cv, h1, h2⟩ := hf.t t _ (fun h => h) hu
      exact ⟨cv, by simp [resOne, h1], h2⟩
    · cases h
      exact ⟨_, by simp [resOne]; rfl, by simp [VR]⟩
  · rename_i x t
    have hv := hf.opd (.tmp x) (fun _ _ h => h)
    have hv' : VR ι (fr.opd (.tmp x)) (a.tmps.getD x undef) := by simpa [Act.eval] using hv
    obtain ⟨cv, h1, h2⟩ := loadT_sound hX hH h hv'
    refine ⟨cv, ?_, h2⟩
    unfold loadT at h
    split at h
    · rename_i b off hp
      rw [hp] at hv'
      obtain ⟨c, d, _, e⟩ := hv'.ptr
      rw [e] at h1
      simp only [resOne]
      rw [e]
      simpa [Instr.loadAt, Instr.sureAddr, asAddr] using h1
    · cases h

include hX in
theorem results_run {N : Nat} {ι : Inj} {fr : Fr} {a : Act} {s : St} {w : World} {fn : Func} {v : AV} (h : resAt X fr s fn.results = some v) (hf : FRN N Bare ι fr a) (hH : HR ι s w) :
    ∃ cv, (results fn a.tmps).run P w = .ok cv w ∧ VR ι v cv := by
  have key : ∀ (rs : List ResultVar) (l : List AV), resL X fr s rs = some l → ∃ m : List Value, (rs.mapM (resOne a.tmps)).run P w = .ok m w ∧ VRs ι l m := by
    intro rs
    induction rs with
    | nil => intro l hl; cases hl; exact ⟨[], by simp, by simp [VRs]⟩
    | cons r rs ih =>
      intro l hl
      unfold resL at hl
      split at hl
      · rename_i v hv
        split at hl
        · rename_i l' hl'
          cases hl
          obtain ⟨m, h1, h2⟩ := ih _ hl'
          obtain ⟨cv, h3, h4⟩ := loadR_run hX hv hf hH
          refine ⟨cv :: m, ?_, by simp only [VRs]; exact ⟨h4, h2⟩⟩
          rw [List.mapM_cons]
          simp only [Sem.run_bind]
          rw [h3]
          simp only [Result.andThen_ok]
          rw [h1]
          simp
        · cases hl
      · cases hl
  unfold resAt at h
  split at h
  · rename_i x hx
    cases h
    obtain ⟨m, h1, h2⟩ := key _ _ hx
    match m, h1, h2 with
    | [cv], h1, h2 =>
      have h3 := mapM_run (P := P) (w := w) fn.results _ _ h1
      refine ⟨cv, ?_, by simpa [VRs] using h2⟩
      rw [results_eq]
      simp only [Sem.run_bind]
      rw [h3]
      simp
    | [], _, h2 => simp [VRs] at h2
    | _ :: _ :: _, _, h2 => simp [VRs] at h2
  · rename_i l hne hx
    cases h
    obtain ⟨m, h1, h2⟩ := key _ _ hx
    have h3 := mapM_run (P := P) (w := w) fn.results _ _ h1
    have hlen := h2.length
    refine ⟨.tuple m.toArray, ?_, by simp only [VR]; exact ⟨_, rfl, by simpa using h2⟩⟩
    have hm : m.length ≠ 1 := fun e => by
      rw [e] at hlen
      match l, hlen with
      | [y], _ => exact hne y rfl
    rw [results_eq]
    simp only [Sem.run_bind]
    rw [h3]
    simp [hm]
  · cases h

variable (hF : ∀ f fn, X.fns.get f = some fn → fnOK fn = true)

/-- What is asked of regions that draw. -/
def DrawSound (P : Program) (X : Ctx) (call : Caller) : Prop :=
  ∀ (N : Nat) (ops : Array Oper) (fr : Fr) (s : St) (r : EX × Fr × St), N ≤ 1000000000 → ops.toList.all (dstOK N) = true → drawOK ops = true → drawGo X call ops (numbered ops) (ops.size + 1) 0 [] fr s = some r →
    ∀ (ι₀ : Inj) (s₀ : St) (w₀ : World) (ι : Inj) (a : Act) (w : World), FRN N Bare ι fr a → HR ι s w → Ext ι₀ s₀ w₀ ι s w → wpAny P .any ops (XPost N ι₀ s₀ w₀ r) ops.size (Array.replicate ops.size false) a w

/-- What is asked of a function that stands for itself. -/
def OwnOK (P : Program) (own : OwnF) : Prop :=
  ∀ f g, own f = some g → ∀ args s r, g args s = some r → ∀ ι w cargs, VRs ι args cargs.toList → HR ι s w → CallRes P ι s w r f cargs

def EvOK (P : Program) (ev : Ev) : Prop :=
  ∀ c fr s r, ev c fr s = some r → ∀ N, N ≤ 1000000000 → codeOK N c = true → ∀ ι a w, FRN N Bare ι fr a → HR ι s w → c.wp P (XPost N ι s w r) a w

theorem DRs.nil_left {ι : Inj} {m : List Deferred} (h : DRs ι [] m) : m = [] := by cases h; rfl

include hX hF in
theorem callWith_sound {ev : Ev} (hev : EvOK P ev) : CallOK P (callWith X ev) := by
  intro f args s r h ι w cargs hv hH
  unfold callWith at h
  split at h
  · rename_i fn hfn
    split at h
    · rename_i c hc
      have hP := hX.fns f fn hfn
      have hok := hF f fn hfn
      simp only [fnOK, hc, Bool.and_eq_true, bne_iff_ne, ne_eq] at hok
      refine .inl ⟨by simp [callFunc, hP, hc, hok.2.1], ?_⟩
      refine calls_of_wp hP hc ?_
      have hf0 : FRN fn.ntmps Bare ι { t := Tr.of args, d := [] } { tmps := cargs ++ Array.replicate (fn.ntmps - cargs.size) undef, defers := [] } := by
        refine ⟨fun k v _ hk => ?_, .nil, by simp; omega⟩
        obtain ⟨cv, h1, h2⟩ := hv.get (Tr.get_of hk)
        have hk' : k < cargs.size := by
          have := (List.getElem?_eq_some_iff.1 h1).1
          simpa using this
        refine ⟨cv, ?_, h2⟩
        simp only
        rw [Array.getElem?_append_left hk']
        simpa using h1
      unfold endOf at h
      have fin : ∀ {fr : Fr} {s' : St} {κ : Inj} {a' : Act} {w' : World}, retOf X fn fr s' = some r → FRN fn.ntmps Bare κ fr a' → HR κ s' w' → Ext ι s w κ s' w' → a'.defers = [] ∧ ∃ v, (results fn a'.tmps).run P w' = .ok v w' ∧ CPost ι s w r (.returned v) w' := by
        intro fr s' κ a' w' hr h1 h2 h3
        unfold retOf at hr
        split at hr
        · rename_i hd
          split at hr
          · rename_i v hv
            cases hr
            obtain ⟨cv, g1, g2⟩ := results_run hX hv h1 h2
            have hdd := h1.d
            rw [hd] at hdd
            exact ⟨hdd.nil_left, cv, g1, v, s', rfl, κ, g2, h2, h3⟩
          · cases hr
        · cases hr
      split at h
      · rename_i fr s' he
        refine wp_mono (hev c _ s _ he fn.ntmps (Nat.ble_eq.mp hok.2.2) hok.1 ι _ w hf0 hH) fun e a' w' ⟨κ, h1, h2, h3, h4⟩ => ?_
        cases e <;> simp only at h4
        exact fin h h1 h2 h3
      · rename_i fr s' he
        refine wp_mono (hev c _ s _ he fn.ntmps (Nat.ble_eq.mp hok.2.2) hok.1 ι _ w hf0 hH) fun e a' w' ⟨κ, h1, h2, h3, h4⟩ => ?_
        cases e <;> simp only at h4
        exact fin h h1 h2 h3
      · rename_i v fr s' he
        refine wp_mono (hev c _ s _ he fn.ntmps (Nat.ble_eq.mp hok.2.2) hok.1 ι _ w hf0 hH) fun e a' w' ⟨κ, h1, h2, h3, h4⟩ => ?_
        cases e <;> simp only at h4
        obtain ⟨cv, rfl, hcv⟩ := h4
        unfold panOf at h
        split at h
        · rename_i hd
          cases h
          have hdd := h1.d
          simp only [hd] at hdd
          exact ⟨hdd.nil_left, v, s', rfl, κ, cv, rfl, hcv, h2, h3⟩
        · cases h
      · cases h
    · cases h
  · cases h

include hX hF in
theorem callOwn_sound {own : OwnF} (ho : OwnOK P own) {ev : Ev} (hev : EvOK P ev) : CallOK P (callOwn X own ev) := by
  intro f args s r h
  unfold callOwn at h
  split at h
  · rename_i g hg; exact ho f g hg args s r h
  · exact callWith_sound hX hF hev f args s r h

theorem evSeq_sound {ih : Ev} {b : Code} {r : EX × Fr × St} {o : Option (EX × Fr × St)} (h : evSeq ih b o = some r) : (∃ fr s, o = some (.norm, fr, s) ∧ ih b fr s = some r) ∨ (o = some r ∧ ∀ fr s, r ≠ (.norm, fr, s)) := by
  unfold evSeq at h
  split at h
  · rename_i fr s; exact .inl ⟨fr, s, rfl, h⟩
  · rename_i hne
    refine .inr ⟨h, fun fr s e => ?_⟩
    subst e
    exact hne _ _ h

include hX hF in
theorem ev_sound {own : OwnF} (ho : OwnOK P own) (hd : ∀ call, CallOK P call → DrawSound P X call) : ∀ n, EvOK P (ev X own n) ∧
    ∀ b fr s r, ev X own n (.loop b) fr s = some r → ∀ N, N ≤ 1000000000 → codeOK N b = true → ∀ ι₀ s₀ w₀ ι a w, FRN N Bare ι fr a → HR ι s w → Ext ι₀ s₀ w₀ ι s w → Code.rounds P b (XPost N ι₀ s₀ w₀ r) n a w := by
  intro n
  induction n with
  | zero => exact ⟨fun c fr s r h => (by cases h), fun b fr s r h => (by cases h)⟩
  | succ n ih =>
    obtain ⟨ih, ihl⟩ := ih
    have hcall := callOwn_sound hX hF ho ih
    have loops : ∀ b fr s r, ev X own (n + 1) (.loop b) fr s = some r → ∀ N, N ≤ 1000000000 → codeOK N b = true → ∀ ι₀ s₀ w₀ ι a w, FRN N Bare ι fr a → HR ι s w → Ext ι₀ s₀ w₀ ι s w → Code.rounds P b (XPost N ι₀ s₀ w₀ r) (n + 1) a w := by
      intro b fr s r h N hN hc ι₀ s₀ w₀ ι a w hf hH hE
      have h : evSeq (ev X own n) (.loop b) (ev X own n b fr s) = some r := h
      rw [rounds_succ]
      rcases evSeq_sound h with ⟨fr', s', h1, h2⟩ | ⟨h1, h2⟩
      · refine wp_mono (ih b fr s _ h1 N hN hc ι a w hf hH) fun e a' w' ⟨κ, g1, g2, g3, g4⟩ => ?_
        cases e <;> simp only at g4
        exact ihl b fr' s' r h2 N hN hc ι₀ s₀ w₀ κ a' w' g1 g2 (hE.trans g3)
      · refine wp_mono (ih b fr s _ h1 N hN hc ι a w hf hH) fun e a' w' hp => ?_
        obtain ⟨x, fr', s'⟩ := r
        have hp' := XPost.of hE hp
        cases e
        case normal =>
          obtain ⟨κ, g1, g2, g3, g4⟩ := hp
          cases x <;> simp only at g4
          exact absurd rfl (h2 fr' s')
        all_goals exact hp'
    refine ⟨fun c fr s r h N hN hc ι a w hf hH => ?_, loops⟩
    replace h : evStep X own (ev X own n) c fr s = some r := h
    unfold evStep at h
    split at h
    · cases h; exact wp_skip ⟨ι, hf, hH, Ext.refl _ _ _, trivial⟩
    · cases h; exact wp_label ⟨ι, hf, hH, Ext.refl _ _ _, trivial⟩
    · rename_i id ops draw
      simp only [codeOK, Bool.and_eq_true] at hc
      unfold evRegion at h
      split at h
      · refine wp_region ?_
        have := inOrder_sound hX hcall ops.toList 0 (by simp) hc.1 h hf hH (Ext.refl _ _ _)
        simpa [List.range_eq_range'] using this
      · have hdr : drawOK ops = true := by simpa using hc.2
        refine wp_region_any hX.mixed ?_
        exact hd _ hcall N ops fr s r hN hc.1 hdr h ι s w ι a _ hf (hH.heap rfl) (Ext.heap rfl ⟨rfl, rfl⟩)
    · rename_i x y
      simp only [codeOK, Bool.and_eq_true] at hc
      refine wp_seq ?_
      rcases evSeq_sound h with ⟨fr', s', h1, h2⟩ | ⟨h1, h2⟩
      · refine wp_mono (ih x fr s _ h1 N hN hc.1 ι a w hf hH) fun e a' w' ⟨κ, g1, g2, g3, g4⟩ => ?_
        cases e <;> simp only at g4
        exact wp_mono (ih y fr' s' r h2 N hN hc.2 κ a' w' g1 g2) fun e a w => XPost.of g3
      · refine wp_mono (ih x fr s _ h1 N hN hc.1 ι a w hf hH) fun e a' w' hp => ?_
        obtain ⟨x, fr', s'⟩ := r
        cases e
        case normal =>
          obtain ⟨κ, g1, g2, g3, g4⟩ := hp
          cases x <;> simp only at g4
          exact absurd rfl (h2 fr' s')
        all_goals exact hp
    · rename_i x b c
      simp only [codeOK, Bool.and_eq_true] at hc
      have hv := hf.opd x (fun _ _ h => h)
      unfold evCond at h
      split at h
      · rename_i e; rw [e] at hv; exact wp_cond_true hv.bool (ih b fr s r h N hN hc.1 ι a w hf hH)
      · rename_i e; rw [e] at hv; exact wp_cond_false hv.bool (ih c fr s r h N hN hc.2 ι a w hf hH)
      · cases h
    · rename_i id b
      refine wp_block ?_
      unfold evBlock at h
      split at h
      · rename_i j fr' s' he
        split at h
        · rename_i hj
          cases h
          have hj := Nat.beq_eq.mp hj
          subst hj
          refine wp_mono (ih b fr s _ he N hN hc ι a w hf hH) fun e a' w' ⟨κ, g1, g2, g3, g4⟩ => ?_
          cases e <;> simp only at g4
          subst g4
          simp only [Exit.inBlock, if_true]
          exact ⟨κ, g1, g2, g3, trivial⟩
        · rename_i hj
          cases h
          refine wp_mono (ih b fr s _ he N hN hc ι a w hf hH) fun e a' w' ⟨κ, g1, g2, g3, g4⟩ => ?_
          cases e <;> simp only at g4
          subst g4
          have : j ≠ id := fun e => by rw [e] at hj; simp at hj
          simp only [Exit.inBlock, this, if_false]
          exact ⟨κ, g1, g2, g3, rfl⟩
      · rename_i hne
        obtain ⟨x, fr', s'⟩ := r
        refine wp_mono (ih b fr s _ h N hN hc ι a w hf hH) fun e a' w' hp => ?_
        cases e
        case exit j =>
          obtain ⟨κ, g1, g2, g3, g4⟩ := hp
          cases x <;> simp only at g4
          exact absurd h (hne _ _ _)
        all_goals exact hp
    · rename_i b
      exact wp_loop_rounds (n + 1) (loops b fr s r h N hN hc ι s w ι a w hf hH (Ext.refl _ _ _))
    · cases h; exact wp_exit ⟨ι, hf, hH, Ext.refl _ _ _, rfl⟩
    · rename_i b
      refine wp_scope_straight (wp_mono (ih b fr s r h N hN hc ι a w hf hH) fun e a' w' hp => ?_)
      cases e
      case goto l =>
        obtain ⟨κ, g1, g2, g3, g4⟩ := hp
        obtain ⟨x, fr', s'⟩ := r
        cases x <;> simp only at g4
      all_goals exact hp
    · cases h; exact wp_ret ⟨ι, hf, hH, Ext.refl _ _ _, trivial⟩
    · cases h
    · cases h
    · cases h

end
end Go.Am
