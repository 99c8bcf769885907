/-
  CODE AND CALLS of the abstract machine against the kit's 'Code.wp' and 'Calls'.
-/
import Derived.Test.YtiahoioaklpnlaaGreatDoorAmDraw3
import Derived.LoopNIn
import Derived.RecoverIn
import Derived.RangeFuncRecord
namespace Go.Am

section
variable {P : Program} {X : Ctx} (hX : CtxOK P X)

/-- A block is given up, and written there alone. -/
theorem HR.dead {ι : Inj} {s : St} {w w' : World} (h : HR P ι s w) {b cb : Nat} {d : Nat × Nat} {ab : AB} (hb : ι b = some (cb, d)) (hg : s.h.get b = some ab) (hkin : Kin w w') (hsz : w'.heap.size = w.heap.size) (hk : ∀ c, c ≠ cb → w'.heap[c]? = w.heap[c]?) :
    HR P ι { s with h := s.h.del b } w' ∧ Ext ι s w ι { s with h := s.h.del b } w' := by
  suffices hE : Ext ι s w ι { s with h := s.h.del b } w' by
    refine ⟨⟨h.gl.ext hE rfl, h.base, h.dom, fun c cc dd ab1 hx hg1 => ?_, fun c c' cc dd dd' ab1 ab2 h1 h2 g1 g2 => h.inj c c' cc dd dd' ab1 ab2 h1 h2 (Tr.get_del g1).2 (Tr.get_del g2).2⟩, hE⟩
    · obtain ⟨hne, hg1⟩ := Tr.get_del hg1
      have : cc ≠ cb := fun e => hne (h.inj c b cc dd d ab1 ab hx (e ▸ hb) hg1 hg)
      exact (h.br c cc dd ab1 hx hg1).frame (hk cc this) ι.le_refl
  refine ⟨ι.le_refl, by rw [hsz]; exact Nat.le_refl _, fun c hc ho => ⟨hk c ?_, ?_⟩, fun _ _ => rfl, Nat.le_refl _, hkin⟩
  · intro e; subst e; exact ho ⟨b, d, ab, hb, hg⟩
  · rintro ⟨c', dd, ab1, hx, hg1⟩
    exact ho ⟨c', dd, ab1, hx, (Tr.get_del hg1).2⟩
theorem putObj_other {w : World} {cb : Nat} {o : Obj} (c : Nat) (h : c ≠ cb) : (w.putObj cb o).heap[c]? = w.heap[c]? := World.putObj_heap_other h

def resOne (tmps : Array Value) : ResultVar → Sem Value
  | .tmp t => pure (tmps.getD t undef)
  | .cell x t => do loadVar t (← asAddr (tmps.getD x undef))
theorem results_eq (fn : Func) (tmps : Array Value) : results fn tmps = (do let vs ← fn.results.mapM (resOne tmps); pure (if h : vs.size = 1 then vs[0] else .tuple vs)) := by
  have : (fun r => match r with
    | .tmp t => pure (tmps.getD t undef)
    | .cell x t => do loadVar t (← asAddr (tmps.getD x undef)) : ResultVar → Sem Value) = resOne tmps := by
    funext r; cases r <;> rfl
  rw [← this]
  rfl

include hX in
theorem loadR_run {N : Nat} {ι : Inj} {fr : Fr} {a : Act} {s : St} {w : World} {r : ResultVar} {v : AV} (h : loadR X fr s r = some v) (hf : FRN N Bare ι fr a) (hH : HR P ι s w) :
    ∃ cv, (resOne a.tmps r).run P w = .ok cv w ∧ VR ι v cv := by
  unfold loadR at h
  split at h
  · rename_i t
    split at h
    · rename_i u hu
      cases h
      obtain ⟨cv, h1, h2⟩ := hf.t t _ (fun h => h) hu
      exact ⟨cv, by simp [resOne, h1], h2⟩
    · cases h
      exact ⟨_, by simp [resOne]; rfl, by simp [VR]⟩
  · rename_i x t
    have hv := hf.opd (.tmp x) (fun _ _ h => h)
    have hv' : VR ι (fr.opd (.tmp x)) (a.tmps.getD x undef) := by simpa [Act.eval] using hv
    obtain ⟨cv, h1, h2⟩ := loadT_sound hX hH h hv'
    refine ⟨cv, ?_, h2⟩
    unfold loadT at h
    split at h
    · rename_i b off hp
      rw [hp] at hv'
      obtain ⟨c, d, _, e⟩ := hv'.ptr
      rw [e] at h1
      simp only [resOne]
      rw [e]
      simpa [Instr.loadAt, Instr.sureAddr, asAddr] using h1
    · rename_i g off hp
      rw [hp] at hv'
      simp only [VR] at hv'
      rw [hv'] at h1
      simp only [resOne]
      rw [hv']
      simpa [Instr.loadAt, Instr.sureAddr, asAddr] using h1
    · cases h

include hX in
theorem results_run {N : Nat} {ι : Inj} {fr : Fr} {a : Act} {s : St} {w : World} {fn : Func} {v : AV} (h : resAt X fr s fn.results = some v) (hf : FRN N Bare ι fr a) (hH : HR P ι s w) :
    ∃ cv, (results fn a.tmps).run P w = .ok cv w ∧ VR ι v cv := by
  have key : ∀ (rs : List ResultVar) (l : List AV), resL X fr s rs = some l → ∃ m : List Value, (rs.mapM (resOne a.tmps)).run P w = .ok m w ∧ VRs ι l m := by
    intro rs
    induction rs with
    | nil => intro l hl; cases hl; exact ⟨[], by simp, by simp [VRs]⟩
    | cons r rs ih =>
      intro l hl
      unfold resL at hl
      split at hl
      · rename_i v hv
        split at hl
        · rename_i l' hl'
          cases hl
          obtain ⟨m, h1, h2⟩ := ih _ hl'
          obtain ⟨cv, h3, h4⟩ := loadR_run hX hv hf hH
          refine ⟨cv :: m, ?_, by simp only [VRs]; exact ⟨h4, h2⟩⟩
          rw [List.mapM_cons]
          simp only [Sem.run_bind]
          rw [h3]
          simp only [Result.andThen_ok]
          rw [h1]
          simp
        · cases hl
      · cases hl
  unfold resAt at h
  split at h
  · rename_i x hx
    cases h
    obtain ⟨m, h1, h2⟩ := key _ _ hx
    match m, h1, h2 with
    | [cv], h1, h2 =>
      have h3 := mapM_run (P := P) (w := w) fn.results _ _ h1
      refine ⟨cv, ?_, by simpa [VRs] using h2⟩
      rw [results_eq]
      simp only [Sem.run_bind]
      rw [h3]
      simp
    | [], _, h2 => simp [VRs] at h2
    | _ :: _ :: _, _, h2 => simp [VRs] at h2
  · rename_i l hne hx
    cases h
    obtain ⟨m, h1, h2⟩ := key _ _ hx
    have h3 := mapM_run (P := P) (w := w) fn.results _ _ h1
    have hlen := h2.length
    refine ⟨.tuple m.toArray, ?_, by simp only [VR]; exact ⟨_, rfl, by simpa using h2⟩⟩
    have hm : m.length ≠ 1 := fun e => by
      rw [e] at hlen
      match l, hlen with
      | [y], _ => exact hne y rfl
    rw [results_eq]
    simp only [Sem.run_bind]
    rw [h3]
    simp [hm]
  · cases h

variable (hF : ∀ f fn, X.fns.get f = some fn → fnOK fn = true)

/-- What is asked of a function that stands for itself. -/
def OwnOK (P : Program) (own : OwnF) : Prop :=
  ∀ f g, own f = some g → ∀ args s r, g args s = some r → ∀ ι w cargs, VRs ι args cargs.toList → HR P ι s w → CallResF P ι s w r f cargs

def EvOK (P : Program) (ev : Ev) : Prop :=
  ∀ c fr s r, ev c fr s = some r → ∀ ro N, N ≤ 1000000000 → codeOK N c = true → (ro = none ∨ quiet c = true) → ∀ ι a w, FRN N Bare ι fr a → HR P ι s w → c.wpIn (FE P ro) 0 P (XPost P N ι s w r) a w

theorem DRs.nil_left {ι : Inj} {m : List Deferred} (h : DRs ι [] m) : m = [] := by cases h; rfl

/-- How a function ends, here and there. -/
def MR (ι : Inj) : DM → FrameMode → Prop
  | .ret, u => u = .returning
  | .pan v, u => ∃ cv, VR ι v cv ∧ u = .panicking [{ v := cv, recovered := false }]
  | .rcv _, u => ∃ cv, u = .panicking [{ v := cv, recovered := true }]
theorem MR.mono {ι κ : Inj} (h : ι.le κ) {m : DM} {u : FrameMode} (hm : MR ι m u) : MR κ m u := by
  cases m with
  | ret => exact hm
  | pan v => obtain ⟨cv, h1, h2⟩ := hm; exact ⟨cv, h1.mono h, h2⟩
  | rcv v => exact hm
theorem MR.settle {ι : Inj} {m : DM} {u : FrameMode} (hm : MR ι m u) : MR ι (settled m) (settle u) := by
  cases m with
  | ret => simp only [MR] at hm; subst hm; simp [settled, MR, Go.settle]
  | pan v => obtain ⟨cv, h1, rfl⟩ := hm; exact ⟨cv, h1, by simp [Go.settle]⟩
  | rcv v => obtain ⟨cv, rfl⟩ := hm; simp [settled, MR, Go.settle]

/-- What a deferred function's code comes to. -/
def SPost (P : Program) (N : Nat) (c₀ : Frame) (cs : List Frame) (ι : Inj) (s : St) (w : World) (r : EX × Fr × St × DM) (e : Exit) (a' : Act) (cs' : List Frame) (w' : World) : Prop :=
  ∃ κ u, cs' = { c₀ with mode := u } :: cs ∧ MR κ r.2.2.2 u ∧ FRN N Bare κ r.2.1 a' ∧ HR P κ r.2.2.1 w' ∧ Ext ι s w κ r.2.2.1 w' ∧ match r.1, e with
    | .norm, .normal => True
    | .brk i, .exit j => i = j
    | .ret, .ret => True
    | .pan v, .panic ch => ∃ cv, ch = [{ v := cv, recovered := false }] ∧ VR κ v cv
    | _, _ => False
theorem wpSIn_mono {F : Fence} {n : Nat} {P : Program} {c : Code} {Q Q' : Exit → Act → List Frame → World → Prop} {a : Act} {cs : List Frame} {w : World} (h : c.wpSIn F n P Q a cs w) (hq : ∀ e a cs w, Q e a cs w → Q' e a cs w) : c.wpSIn F n P Q' a cs w :=
  fun b k hb hr hF hroom => let ⟨e, a', cs', w', l, q, r⟩ := h b k hb hr hF hroom; ⟨e, a', cs', w', l, hq _ _ _ _ q, r⟩

include hX in
/-- One that calls nothing, and defers nothing: how it ends. -/
theorem one_plain {ops : Array Oper} {o : Oper} {N : Nat} {ι : Inj} {fr : Fr} {a : Act} {s : St} {w : World} {pr : PR} (h : oneOp X noCall ops o fr s = some pr) (hq : ∀ fr' s', pr = .go fr' s' → fr'.d = []) (hf : FRN N Bare ι fr a) (hH : HR P ι s w) (hd : dstOK N o = true) :
    (Region.wanted o (yielded ops a.tmps) = false ∧ ∃ fr', pr = .go fr' s ∧ FRN N Bare ι fr' (a.put o.dst undef)) ∨
    (Region.wanted o (yielded ops a.tmps) = true ∧ ((∃ cv w' κ fr' s', ((execOp a.eval o).run P w = .ok (.value cv) w' ∨ ((execOp a.eval o).run P w = .ok .skip w' ∧ cv = undef)) ∧ pr = .go fr' s' ∧ FRN N Bare κ fr' (a.put o.dst cv) ∧ HR P κ s' w' ∧ Ext ι s w κ s' w') ∨
      ∃ v cv, (execOp a.eval o).run P w = .halt (.panic cv) w ∧ pr = .pan v fr s ∧ VR ι v cv)) := by
  have hdl : ∀ d, o.dst = some d → d < N := fun d => dstOK_lt hd
  have he : ∀ x ∈ o.op.operands, VR ι (fr.opd x) (a.eval x) := fun x hx => hf.opd x fun t ht h => h
  unfold oneOp goIf at h
  split at h
  · cases h
  · rename_i hw
    have hw := says_spec hw hf (fun _ _ h => h)
    unfold goPass at h
    split at h
    · obtain ⟨fr', rfl, _, _, _, h3⟩ := goOld_spec h
      exact .inl ⟨hw, fr', rfl, h3 hf (by simp [undef, VR, VRs]) hdl⟩
    · cases h
  · rename_i hw
    have hw := says_spec hw hf (fun _ _ h => h)
    refine .inr ⟨hw, ?_⟩
    unfold goOp at h
    split at h
    · cases h
    · rename_i v hop
      obtain ⟨cv, h1, h2⟩ := opAt_sound hX hop hH he
      obtain ⟨fr', rfl, _, _, _, h3⟩ := goOld_spec h
      exact .inl ⟨cv, w, ι, fr', s, .inl h1, rfl, h3 hf h2 hdl, hH, Ext.refl _ _ _⟩
    · rename_i v hop
      simp only [kV_eq] at h
      obtain ⟨cv, h1, h2⟩ := opAt_sound hX hop hH he
      obtain ⟨fr', rfl, _, _, _, h3⟩ := goOld_spec h
      exact .inl ⟨cv, w, ι, fr', s, .inl h1, rfl, h3 hf h2 hdl, hH, Ext.refl _ _ _⟩
    · rename_i v s' hop
      unfold goOn at h
      simp only [kS_eq, kV_eq] at h
      obtain ⟨κ, w', cv, h1, h2, g3, g4⟩ := opAt_sound hX hop hH he
      obtain ⟨fr', rfl, _, _, _, h3⟩ := goOld_spec h
      exact .inl ⟨cv, w', κ, fr', s', h1, rfl, h3 (hf.mono g4.le) h2 hdl, g3, g4⟩
    · rename_i d hop
      obtain ⟨fr', rfl, h1, _⟩ := goOld_spec h
      have := hq _ _ rfl
      rw [h1] at this
      cases this
    · rename_i v hop
      cases h
      obtain ⟨cv, h1, h2⟩ := opAt_sound hX hop hH he
      exact .inr ⟨v, cv, h1, rfl, h2⟩
    · rename_i f args hop
      simp only [kL_eq, noCall, goCall] at h
      cases h
    · rename_i b args hop
      simp only [kL_eq, noCall, goCall] at h
      cases h

theorem noCall_ok : CallOK P noCall := fun _ _ _ _ h => by cases h
theorem about_recover {o : Oper} {a : Act} {w : World} (h : isRec o = true) : ∀ f, o.about P w a.eval = some f → ∃ fn, P.funcs[f]? = some fn := by
  intro f hf
  unfold isRec at h
  unfold Oper.about at hf
  split at h
  · rename_i c ho
    simp only [ho] at hf
    split at h
    · rename_i hc
      simp [resolve, hc, Target.leads] at hf
    · cases h
  · cases h
include hX in
theorem about_one {call : Caller} (hC : CallOK P call) {ops : Array Oper} {o : Oper} {N : Nat} {ι : Inj} {fr : Fr} {a : Act} {s : St} {w : World} {pr : PR} (h : oneOp X call ops o fr s = some pr) (hf : FRN N Bare ι fr a) (hH : HR P ι s w) : ∀ f, o.about P w a.eval = some f → ∃ fn, P.funcs[f]? = some fn := by
  have he : ∀ x ∈ o.op.operands, VR ι (fr.opd x) (a.eval x) := fun x hx => hf.opd x fun t ht h => h
  unfold oneOp goIf at h
  split at h
  · cases h
  · unfold goPass at h
    split at h
    · rename_i hp; exact about_pass hX hp he
    · cases h
  · exact about_done hX hC h hH he

include hX in
theorem inOrderS_sound {ops : Array Oper} {N : Nat} {r : EX × Fr × St × DM} {c₀ : Frame} {cs : List Frame} {ι₀ : Inj} {s₀ : St} {w₀ : World} : ∀ (l : List Oper) (i : Nat), ops.toList.drop i = l → l.all (dstOK N) = true → ∀ {m : DM} {u : FrameMode} {ι : Inj} {fr : Fr} {a : Act} {s : St} {w : World}, inOrderS X noCall ops l m fr s = some r →
    MR ι m u → FRN N Bare ι fr a → HR P ι s w → Ext ι₀ s₀ w₀ ι s w → wpOpsSIn (FE P none) 0 P ops (SPost P N c₀ cs ι₀ s₀ w₀ r) (List.range' i l.length) a ({ c₀ with mode := u } :: cs) w
  | [], i, hl, hd, m, u, ι, fr, a, s, w, h, hm, hf, hH, hE => by
    cases h
    exact ⟨ι, u, rfl, hm, hf, hH, hE, trivial⟩
  | o :: l, i, hl, hd, m, u, ι, fr, a, s, w, h, hm, hf, hH, hE => by
    have hoi : ops[i]? = some o := by
      have := congrArg List.head? hl
      simpa using this
    have hl' : ops.toList.drop (i + 1) = l := by
      have := congrArg List.tail hl
      simpa using this
    simp only [List.all_cons, Bool.and_eq_true] at hd
    rw [List.length_cons, List.range'_succ]
    unfold inOrderS at h
    simp only [wpOpsSIn, hoi]
    refine ⟨?_, ?_⟩
    · split at h
      · rename_i hrec; exact about_recover hrec
      · unfold nextS at h
        split at h
        · rename_i hop; exact about_one hX noCall_ok hop hf hH
        · rename_i hop; exact about_one hX noCall_ok hop hf hH
        · cases h
    split at h
    · -- recover
      rename_i hrec
      unfold recGo at h
      split at h
      · rename_i hw
        have hw := says_spec hw hf (fun _ _ h => h)
        simp only [hw, if_true]
        have hrun : (execOp a.eval o).run P w = .ok .recover w := by
          unfold isRec at hrec
          split at hrec
          · rename_i c ho
            split at hrec
            · rename_i hc
              simp [execOp, ho, resolve, hc, invoke, builtin]
            · cases hrec
          · cases hrec
        rw [hrun]
        simp only
        unfold nextS at h
        split at h
        · rename_i fr' s' hg
          split at h
          · obtain ⟨fr2, e, h1, h2, h4, h3⟩ := goOld_spec hg
            cases e
            cases m with
            | ret =>
              simp only [MR] at hm
              subst hm
              simp only [recoverD]
              exact inOrderS_sound l (i + 1) hl' hd.2 (m := .ret) h rfl (h3 hf (by simp [recVal, VR]) fun d => dstOK_lt hd.1) hH hE
            | pan v =>
              obtain ⟨cv, hv, rfl⟩ := hm
              simp only [recoverD]
              exact inOrderS_sound l (i + 1) hl' hd.2 (m := .rcv v) h ⟨cv, rfl⟩ (h3 hf hv fun d => dstOK_lt hd.1) hH hE
            | rcv v =>
              obtain ⟨cv, rfl⟩ := hm
              simp only [recoverD]
              exact inOrderS_sound l (i + 1) hl' hd.2 (m := .rcv v) h ⟨cv, rfl⟩ (h3 hf (by simp [recVal, VR]) fun d => dstOK_lt hd.1) hH hE
          · cases h
        · rename_i v fr' s' hg
          obtain ⟨fr2, e, _⟩ := goOld_spec hg
          cases e
        · cases h
      · cases h
    · -- any other
      unfold nextS at h
      split at h
      · rename_i fr' s' hop
        split at h
        · rename_i hd0
          rcases one_plain hX hop (fun fr'' s'' e => by cases e; exact hd0) hf hH hd.1 with ⟨hw, fr2, e, hf'⟩ | ⟨hw, ⟨cv, w', κ, fr2, s2, hr, e, hf', hH', hE'⟩ | ⟨v, cv, hr, e, _⟩⟩
          · cases e
            simp only [hw, Bool.false_eq_true, if_false]
            exact inOrderS_sound l (i + 1) hl' hd.2 h hm hf' hH hE
          · cases e
            simp only [hw, if_true]
            have := inOrderS_sound (c₀ := c₀) (cs := cs) l (i + 1) hl' hd.2 h (hm.mono hE'.le) hf' hH' (hE.trans hE')
            rcases hr with hr | ⟨hr, rfl⟩
            · rw [hr]; exact this
            · rw [hr]; exact this
          · cases e
        · cases h
      · rename_i v fr' s' hop
        cases h
        rcases one_plain hX hop (fun fr'' s'' e => by cases e) hf hH hd.1 with ⟨hw, fr2, e, hf'⟩ | ⟨hw, ⟨cv, w', κ, fr2, s2, hr, e, hf', hH', hE'⟩ | ⟨v, cv, hr, e, hv⟩⟩
        · cases e
        · cases e
        · cases e
          simp only [hw, if_true]
          rw [hr]
          exact ⟨ι, u, rfl, hm, hf, hH, hE, cv, rfl, hv⟩
      · cases h

include hX in
theorem evS_sound {ev : Ev} (hev : EvOK P ev) {N : Nat} (hN : N ≤ 1000000000) {c₀ : Frame} {cs : List Frame} {ι₀ : Inj} {s₀ : St} {w₀ : World} : ∀ (c : Code) {r : EX × Fr × St × DM} {m : DM} {u : FrameMode} {ι : Inj} {fr : Fr} {a : Act} {s : St} {w : World}, evS X ev c m fr s = some r → codeOK N c = true →
    MR ι m u → FRN N Bare ι fr a → HR P ι s w → Ext ι₀ s₀ w₀ ι s w → c.wpSIn (FE P none) 0 P (SPost P N c₀ cs ι₀ s₀ w₀ r) a ({ c₀ with mode := u } :: cs) w := by
  have plain : ∀ (c : Code) {r : EX × Fr × St × DM} {m : DM} {u : FrameMode} {ι : Inj} {fr : Fr} {a : Act} {s : St} {w : World}, plainS m (ev c fr s) = some r → codeOK N c = true →
      MR ι m u → FRN N Bare ι fr a → HR P ι s w → Ext ι₀ s₀ w₀ ι s w → c.wpSIn (FE P none) 0 P (SPost P N c₀ cs ι₀ s₀ w₀ r) a ({ c₀ with mode := u } :: cs) w := by
    intro c r m u ι fr a s w h hc hm hf hH hE
    unfold plainS at h
    split at h
    · rename_i x fr' s' he
      cases h
      refine wpSIn_of_wpIn rfl (wpIn_mono (hev c fr s _ he none N hN hc (.inl rfl) ι a w hf hH) fun e a' w' ⟨κ, h1, h2, h3, h4⟩ => ⟨κ, u, rfl, hm.mono h3.le, h1, h2, hE.trans h3, h4⟩)
    · cases h
  intro c
  induction c with
  | seq x y ihx ihy =>
    intro r m u ι fr a s w h hc hm hf hH hE
    simp only [codeOK, Bool.and_eq_true] at hc
    refine wpSIn_seq ?_
    simp only [evS] at h
    split at h
    · rename_i fr' s' m' he
      refine wpSIn_mono (ihx he hc.1 hm hf hH hE) fun e a' cs' w' ⟨κ, u', g0, g1, g2, g3, g4, g5⟩ => ?_
      subst g0
      cases e <;> simp only at g5
      exact ihy h hc.2 g1 g2 g3 g4
    · rename_i hne
      obtain ⟨x', fr', s', m'⟩ := r
      refine wpSIn_mono (ihx h hc.1 hm hf hH hE) fun e a' cs' w' hp => ?_
      cases e
      case normal =>
        obtain ⟨κ, u', g0, g1, g2, g3, g4, g5⟩ := hp
        cases x' <;> simp only at g5
        exact absurd h (hne _ _ _)
      all_goals exact hp
  | region id ops draw =>
    intro r m u ι fr a s w h hc hm hf hH hE
    simp only [evS] at h
    split at h
    · rename_i hr
      simp only [Bool.and_eq_true, Bool.not_eq_true'] at hr
      obtain ⟨rfl, _⟩ := hr
      simp only [codeOK, Bool.and_eq_true] at hc
      refine wpSIn_region ?_
      have := inOrderS_sound hX (c₀ := c₀) (cs := cs) ops.toList 0 (by simp) hc.1 h hm hf hH hE
      simpa [List.range_eq_range'] using this
    · exact plain _ h hc hm hf hH hE
  | _ => intro r m u ι fr a s w h hc hm hf hH hE; exact plain _ h hc hm hf hH hE

include hX hF in
theorem leave_sound {ev : Ev} (hev : EvOK P ev) {fn : Func} {N : Nat} {r : CR} {ι₀ : Inj} {s₀ : St} {w₀ : World} : ∀ (l : List DE) {cl : List Deferred} {m : DM} {u : FrameMode} {ι : Inj} {fr : Fr} {a : Act} {s : St} {w : World}, leave X ev fn fr l m s = some r → DRs ι l cl →
    MR ι m u → FRN N Bare ι fr a → HR P ι s w → Ext ι₀ s₀ w₀ ι s w → LeavesInM (FE P none) 0 P fn a.tmps (CPost P ι₀ s₀ w₀ r) cl u w
  | [], cl, m, u, ι, fr, a, s, w, h, hl, hm, hf, hH, hE => by
    cases hl
    cases m with
    | ret =>
      simp only [MR] at hm
      subst hm
      simp only [leave, retOf] at h
      split at h
      · rename_i v hv
        cases h
        obtain ⟨cv, g1, g2⟩ := results_run hX hv hf hH
        exact ⟨cv, g1, v, s, rfl, ι, g2, hH, hE⟩
      · cases h
    | pan v =>
      obtain ⟨cv, hv, rfl⟩ := hm
      simp only [leave] at h
      cases h
      exact ⟨v, s, rfl, ι, cv, rfl, hv, hH, hE⟩
    | rcv v => simp [leave] at h
  | .mark b :: l, cl, m, u, ι, fr, a, s, w, h, hl, hm, hf, hH, hE => by
    cases hl with
    | @mark _ cb c _ cl x h1 h2 hl =>
      simp only [leave] at h
      have hu : u ≠ .run := by
        cases m with
        | ret => simp only [MR] at hm; rw [hm]; simp
        | pan v => obtain ⟨_, _, e⟩ := hm; rw [e]; simp
        | rcv v => obtain ⟨_, e⟩ := hm; rw [e]; simp
      split at h
      · rename_i s' hs
        unfold unmark at hs
        split at hs
        · rename_i hg
          cases hs
          have hbr := hH.br b cb x _ h2 hg
          obtain ⟨g1, g2⟩ := hH.dead (w' := w.putObj cb (.deferred none)) h2 hg ⟨rfl, rfl⟩ World.putObj_size (fun c hc => putObj_other c hc)
          exact ⟨hu, .inl ⟨cb, _, h1, run_takeDeferred hbr.2, leave_sound hev l h hl hm hf g1 (hE.trans g2)⟩⟩
        · cases hs
      · cases h
  | .fn d :: l, cl, m, u, ι, fr, a, s, w, h, hl, hm, hf, hH, hE => by
    cases hl with
    | @cons _ c _ cl cap h1 h2 hl =>
      simp only [leave] at h
      split at h
      · rename_i m' s' hd
        unfold dfrWith at hd
        split at hd
        · rename_i g hg
          split at hd
          · rename_i code hc
            have hP := hX.fns d.fn g hg
            have hok := hF d.fn g hg
            simp only [fnOK, hc, Bool.and_eq_true, bne_iff_ne, ne_eq] at hok
            have hu : u ≠ .run := by
              cases m with
              | ret => simp only [MR] at hm; rw [hm]; simp
              | pan v => obtain ⟨_, _, e⟩ := hm; rw [e]; simp
              | rcv v => obtain ⟨_, e⟩ := hm; rw [e]; simp
            refine ⟨hu, .inr ⟨FE_depth (ro := none), .func d.fn, cap, d.fn, c.args ++ cap, h1, by rw [h1]; simp [invoke, callFunc, hP, hc, hok.2.1], fun f' hf' => by rw [h1] at hf'; simp only [Target.leads, Option.some.injEq] at hf'; exact hf' ▸ ⟨g, hP⟩, ?_⟩⟩
            refine CallsDIn.mono (callsDIn_of_wpSIn (R := fun e u' w' => ∃ (κ : Inj) (mm : Value), e = .returned mm ∧ MR κ m' (settle u') ∧ HR P κ s' w' ∧ Ext ι₀ s₀ w₀ κ s' w' ∧ ι.le κ) hP hc ⟨g, hP⟩ fun c₀ cs hc₀ => ?_) fun e u' w' ⟨κ, mm, he, g1, g2, g3, g4⟩ => ?_
            · have hf0 : FRN g.ntmps Bare ι { t := Tr.of d.args, d := [] } { tmps := (c.args ++ cap) ++ Array.replicate (g.ntmps - (c.args ++ cap).size) undef, defers := [] } := by
                refine ⟨fun k v _ hk => ?_, .nil, by simp; omega⟩
                obtain ⟨cv, q1, q2⟩ := h2.get (Tr.get_of hk)
                have hk' : k < (c.args ++ cap).size := by
                  have := (List.getElem?_eq_some_iff.1 q1).1
                  simpa using this
                refine ⟨cv, ?_, q2⟩
                simp only
                rw [Array.getElem?_append_left hk']
                rw [← Array.getElem?_toList]; exact q1
              have hc' : ({ c₀ with mode := u } : Frame) = c₀ := by subst hc₀; rfl
              unfold dfrEnd at hd
              split at hd
              · rename_i fr' s'' m'' he
                split at hd
                · rename_i v hdd hv
                  cases hd
                  have := evS_sound hX hev (Nat.ble_eq.mp hok.2.2) (c₀ := c₀) (cs := cs) code he hok.1 hm hf0 hH (Ext.refl _ _ _)
                  rw [hc'] at this
                  refine wpSIn_mono this fun e a' cs' w' ⟨κ, u', g0, g1, g2, g3, g4, g5⟩ => ?_
                  cases e <;> simp only at g5
                  have hdr := g2.d
                  simp only [hdd] at hdr
                  obtain ⟨cv, q1, q2⟩ := results_run hX hv g2 g3
                  exact ⟨hdr.nil_left, u', g0, cv, q1, κ, cv, rfl, g1.settle, g3, hE.trans g4, g4.le⟩
                · cases hd
              · rename_i fr' s'' m'' he
                split at hd
                · rename_i v hdd hv
                  cases hd
                  have := evS_sound hX hev (Nat.ble_eq.mp hok.2.2) (c₀ := c₀) (cs := cs) code he hok.1 hm hf0 hH (Ext.refl _ _ _)
                  rw [hc'] at this
                  refine wpSIn_mono this fun e a' cs' w' ⟨κ, u', g0, g1, g2, g3, g4, g5⟩ => ?_
                  cases e <;> simp only at g5
                  have hdr := g2.d
                  simp only [hdd] at hdr
                  obtain ⟨cv, q1, q2⟩ := results_run hX hv g2 g3
                  exact ⟨hdr.nil_left, u', g0, cv, q1, κ, cv, rfl, g1.settle, g3, hE.trans g4, g4.le⟩
                · cases hd
              · cases hd
            · subst he
              exact leave_sound hev l h (hl.mono g4) g1 (hf.mono g4) g2 g3
          · cases hd
        · cases hd
      · cases h

include hX hF in
theorem callWith_enters {ev : Ev} (hev : EvOK P ev) {f : FuncId} {args : List AV} {s : St} {r : CR} (h : callWith X ev f args s = some r) {ι : Inj} {w : World} {cargs : Array Value} (hv : VRs ι args cargs.toList) (hH : HR P ι s w) : (callFunc f cargs).run P w = .ok (.enter f cargs) w ∧ CallsIn (FE P none) 0 P f cargs w (CPost P ι s w r) := by
  unfold callWith at h
  split at h
  · rename_i fn hfn
    split at h
    · rename_i c hc
      have hP := hX.fns f fn hfn
      have hok := hF f fn hfn
      simp only [fnOK, hc, Bool.and_eq_true, bne_iff_ne, ne_eq] at hok
      refine ⟨by simp [callFunc, hP, hc, hok.2.1], ?_⟩
      refine callsIn_of_wp_marks (n := 0) hP hc ⟨fn, hP⟩ ?_
      have hf0 : FRN fn.ntmps Bare ι { t := Tr.of args, d := [] } { tmps := cargs ++ Array.replicate (fn.ntmps - cargs.size) undef, defers := [] } := by
        refine ⟨fun k v _ hk => ?_, .nil, by simp; omega⟩
        obtain ⟨cv, h1, h2⟩ := hv.get (Tr.get_of hk)
        have hk' : k < cargs.size := by
          have := (List.getElem?_eq_some_iff.1 h1).1
          simpa using this
        refine ⟨cv, ?_, h2⟩
        simp only
        rw [Array.getElem?_append_left hk']
        simpa using h1
      unfold endOf at h
      split at h
      · rename_i fr s' he
        refine wpIn_mono (hev c _ s _ he none fn.ntmps (Nat.ble_eq.mp hok.2.2) hok.1 (.inl rfl) ι _ w hf0 hH) fun e a' w' ⟨κ, h1, h2, h3, h4⟩ => ?_
        cases e <;> simp only at h4
        exact leave_sound hX hF hev _ h h1.d rfl h1 h2 h3
      · rename_i fr s' he
        refine wpIn_mono (hev c _ s _ he none fn.ntmps (Nat.ble_eq.mp hok.2.2) hok.1 (.inl rfl) ι _ w hf0 hH) fun e a' w' ⟨κ, h1, h2, h3, h4⟩ => ?_
        cases e <;> simp only at h4
        exact leave_sound hX hF hev _ h h1.d rfl h1 h2 h3
      · rename_i v fr s' he
        refine wpIn_mono (hev c _ s _ he none fn.ntmps (Nat.ble_eq.mp hok.2.2) hok.1 (.inl rfl) ι _ w hf0 hH) fun e a' w' ⟨κ, h1, h2, h3, h4⟩ => ?_
        cases e <;> simp only at h4
        obtain ⟨cv, rfl, hcv⟩ := h4
        exact leave_sound hX hF hev _ h h1.d ⟨cv, hcv, rfl⟩ h1 h2 h3
      · cases h
    · cases h
  · cases h
include hX hF in
theorem callWith_sound {ev : Ev} (hev : EvOK P ev) {f : FuncId} {args : List AV} {s : St} {r : CR} (h : callWith X ev f args s = some r) {ι : Inj} {w : World} {cargs : Array Value} (hv : VRs ι args cargs.toList) (hH : HR P ι s w) : CallResF P ι s w r f cargs :=
  .inl (callWith_enters hX hF hev h hv hH)

end
end Go.Am
