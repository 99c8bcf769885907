/-
  CODE of the abstract machine: all its forms; fuel.
-/
import Derived.Test.YtiahoioaklpnlaaGreatDoorAmRound
import Derived.Scope
namespace Go.Am

section scopes
variable {F : Fence} {n : Nat} {P : Program} {b : Frame} {a : Act} {k : List Item} {cs : List Frame} {w : World} {Q : Exit → Act → World → Prop}
theorem stepR_scope {c : Code} : step P (lone (b.atR a (.code (.scope c) :: k)) cs w) = .next (lone (b.atR a (.code c :: .inScope c :: k)) cs w) :=
  step_lone_go (by simp [stepG, stepG.exec, Frame.atR])
theorem stepR_inScope {c : Code} : step P (lone (b.atR a (.inScope c :: k)) cs w) = .next (lone (b.atR a k) cs w) :=
  step_lone_go (by simp [stepG, stepG.exec, Frame.atR])
theorem wpIn_scope_straight {c : Code} (h : c.wpIn F n P (Exit.noGoto Q) a w) : (Code.scope c).wpIn F n P Q a w := by
  intro b k cs hro hb hr
  have h0 : (lone (b.atR a (.code (.scope c) :: k)) cs w).fenced P F := fenced_calm hb hr rfl
  obtain ⟨e, a₁, w₁, hq, harr⟩ := h b (.inScope c :: k) cs hro hb hr
  cases e with
  | normal => exact ⟨.normal, a₁, w₁, hq, .head h0 stepR_scope (StepsIn.trans harr (.one (fenced_calm hb hr rfl) stepR_inScope))⟩
  | exit id =>
    have hx : ∀ id, exitTo id (.inScope c :: k) = exitTo id k := fun id => by simp [exitTo]
    exact ⟨.exit id, a₁, w₁, hq, fun k' hk => .head h0 stepR_scope (harr.1 k' (by rw [hx]; exact hk)),
      fun hr' hk => let ⟨k₁, h1, h2⟩ := harr.2 hr' (by rw [hx]; exact hk); ⟨k₁, h1, .head h0 stepR_scope h2⟩⟩
  | goto l => exact hq.elim
  | ret => exact ⟨.ret, a₁, w₁, hq, .of_steps (.one h0 stepR_scope) harr⟩
  | panic ch => exact ⟨.panic ch, a₁, w₁, hq, .of_steps (.one h0 stepR_scope) harr⟩
  | outgrown => exact ⟨.outgrown, a₁, w₁, hq, .of_steps (.one h0 stepR_scope) harr⟩
end scopes

section
variable {P : Program} {X : Ctx} (hX : CtxOK P X) (hF : ∀ f fn, X.fns.get f = some fn → fnOK fn = true)

include hX hF in
theorem callFn_sound {own : OwnF} (ho : OwnOK P own) {ev : Ev} (hev : EvOK P ev) {f : FuncId} {args : List AV} {s : St} {r : CR} (h : callFn X own ev f args s = some r) {ι : Inj} {w : World} {cargs : Array Value} (hv : VRs ι args cargs.toList) (hH : HR P ι s w) : CallResF P ι s w r f cargs := by
  unfold callFn at h
  split at h
  · rename_i g hg; exact ho f g hg args s r h ι w cargs hv hH
  · exact callWith_sound hX hF hev h hv hH
include hX hF in
theorem callOwn_sound {own : OwnF} (ho : OwnOK P own) {ev : Ev} (hev : EvOK P ev) : CallOK P (callOwn X own ev) := by
  intro f args s r h ι w cargs hv hH
  unfold callOwn at h
  split at h
  · exact callFn_sound hX hF ho hev h hv hH
  · exact fun cb d hb => rnd_sound hev h hv hH hb

theorem evSeq_sound {ih : Ev} {b : Code} {r : EX × Fr × St} {o : Option (EX × Fr × St)} (h : evSeq ih b o = some r) : (∃ fr s, o = some (.norm, fr, s) ∧ ih b fr s = some r) ∨ (o = some r ∧ ∀ fr s, r ≠ (.norm, fr, s)) := by
  unfold evSeq at h
  split at h
  · rename_i fr s; exact .inl ⟨fr, s, rfl, h⟩
  · rename_i hne
    refine .inr ⟨h, fun fr s e => ?_⟩
    subst e
    exact hne _ _ h

/-- What is pending is one of these. -/
theorem LR.notBusy {st : LSt} {r : Loop} (h : LR st r) (hs : st ≠ .busy) : r.state ≠ .busy := by
  cases st with
  | ready => rw [h.1]; simp
  | busy => exact absurd rfl hs
  | done c => rw [h.1]; simp

include hX hF in
theorem rng_sound {ev : Ev} (hev : EvOK P ev) {g : Operand} {ps : Array Nat} {as bd : Code} {fr : Fr} {s : St} {r : EX × Fr × St} (h : rngWith X ev ps.toList as bd fr s (fr.opd g) = some r)
    {N : Nat} (hN : N ≤ 1000000000) (hca : codeOK N as = true) (hcb : codeOK N bd = true) (hqa : quiet as = true) (hqb : quiet bd = true) (hps : ∀ p ∈ ps.toList, p < N) {ι : Inj} {a : Act} {w : World} (hf : FRN N Bare ι fr a) (hH : HR P ι s w) :
    (Code.rangeFunc g ps as bd).wpIn (FE P none) 0 P (XPost P N ι s w r) a w := by
  have hg := hf.opd g (fun _ _ h => h)
  unfold rngWith at h
  split at h
  · rename_i f first cap hgv
    rw [hgv] at hg
    obtain ⟨cx, cy, hgc, hv1, hv2⟩ : ∃ x y, a.eval g = .func (.func f) x y ∧ VRs ι first x.toList ∧ VRs ι cap y.toList := by simpa [VR] using hg
    unfold rngCall at h
    simp only [kL_eq, kS_eq] at h
    have n1 := hH.new (w' := w.alloc (.deferred (some []))) (ab := .dfr) (o := .deferred (some [])) 0 rfl ⟨rfl, rfl⟩ (fun κ _ => ⟨rfl, World.alloc_heap_new _ _⟩)
    let ι1 := ι.at s.nx (w.heap.size, 0, 0)
    let w1 := w.alloc (.deferred (some []))
    let rec0 : FuncId → Loop := fun fn => { state := .ready, pending := none, fn, tmps := a.tmps, params := ps, assign := as, body := bd, defers := w.heap.size }
    have hsz1 : w1.heap.size = w.heap.size + 1 := by simp [w1]
    refine wpIn_rangeFunc fun fn hex => ?_
    have n2 := n1.1.new (w' := w1.alloc (.loop (rec0 fn))) (ab := .loop fr.t ps.toList as bd .ready) (o := .loop (rec0 fn)) 0 rfl ⟨rfl, rfl⟩ (fun κ hκ =>
      ⟨rfl, rec0 fn, N, World.alloc_heap_new _ _, hex, rfl, rfl, rfl, ⟨rfl, rfl⟩, hf.n, hN, hca, hcb, hqa, hqb, hps, fun k v hk => by
        obtain ⟨cv, q1, q2⟩ := hf.t k v (fun h => h) hk
        exact ⟨cv, q1, q2.mono (Inj.le_trans n1.2.le hκ)⟩⟩)
    let ι2 := ι1.at (s.nx + 1) (w1.heap.size, 0, 0)
    let w2 := w1.alloc (.loop (rec0 fn))
    have n2' : HR P ι2 ((s.new .dfr).2.new (.loop fr.t ps.toList as bd .ready)).2 w2 ∧ Ext ι1 (s.new .dfr).2 w1 ι2 ((s.new .dfr).2.new (.loop fr.t ps.toList as bd .ready)).2 w2 := n2
    have hE2 : Ext ι s w ι2 ((s.new .dfr).2.new (.loop fr.t ps.toList as bd .ready)).2 w2 := n1.2.trans n2'.2
    have hb1 : ι2 s.nx = some (w.heap.size, 0, 0) := by
      show (ι1.at (s.nx + 1) _) s.nx = _
      unfold Inj.at
      rw [if_neg (by omega)]
      exact Inj.at_same _ _ _
    have hb2 : ι2 (s.nx + 1) = some (w.heap.size + 1, 0, 0) := by
      rw [← hsz1]; exact Inj.at_same _ _ _
    have hvy : VR ι2 (.yld (s.nx + 1)) (.func (.yield (w.heap.size + 1)) #[] #[]) := by
      simp only [VR]
      exact ⟨_, _, hb2, rfl⟩
    have hargs : VRs ι2 (first ++ (.yld (s.nx + 1) :: cap)) (cx ++ #[Value.func (.yield (w.heap.size + 1)) #[] #[]] ++ cy).toList := by
      have e : (cx ++ #[Value.func (.yield (w.heap.size + 1)) #[] #[]] ++ cy).toList = cx.toList ++ (Value.func (.yield (w.heap.size + 1)) #[] #[] :: cy.toList) := by simp
      rw [e]
      exact (hv1.mono hE2.le).append (by simp only [VRs]; exact ⟨hvy, hv2.mono hE2.le⟩)
    unfold rngEnd at h
    split at h
    · rename_i v s3 hcall
      obtain ⟨g1, g2⟩ := callWith_enters hX hF hev hcall hargs n2'.1
      refine ⟨w.heap.size + 1, _, w2, { target := .fn (.func f) cy, args := cx ++ #[Value.func (.yield (w.heap.size + 1)) #[] #[]] }, w2, f, cx ++ #[Value.func (Fn.yield (w.heap.size + 1)) #[] #[]] ++ cy, w2, run_enterLoop_outer fn a.tmps ps as bd, ?_, fun f' hf' => ?_, ?_, FE_depth, ?_⟩
      · simp only [resolve]
        rw [hgc]
        simp [Deferred.ofValue, Act.eval]
      · simp only [Target.leads, Option.some.injEq] at hf'
        subst hf'
        exact callFunc_ex g1
      · simp only [invoke]; exact g1
      · refine callsIn_FE (CallsIn.mono g2 fun e w3 he => ?_)
        cases e with
        | panicked chain => obtain ⟨v', s'', e, _⟩ := he; cases e
        | outgrown => exact he.elim
        | returned cv =>
          obtain ⟨v', s'', e, κ, q1, q2, q3⟩ := he
          cases e
          have hk2 := q3.le _ _ hb2
          have hk1 := q3.le _ _ hb1
          have hEall := hE2.trans q3
          unfold rngJump at h
          have fin : ∀ {t ps' as' bd' st}, s3.h.get (s.nx + 1) = some (.loop t ps' as' bd' st) → st ≠ .busy → ∃ (r3 : Loop) (w4 : World), LR st r3 ∧ (Instr.endLoop (w.heap.size + 1)).run P w3 = .ok r3.pending w4 ∧
              HR P κ { s3 with h := s3.h.del (s.nx + 1) } w4 ∧ Ext ι s w κ { s3 with h := s3.h.del (s.nx + 1) } w4 ∧
              FRN N Bare κ ⟨fr.t, .mark s.nx :: fr.d⟩ { a with defers := [{ target := .collected w.heap.size, args := #[] }] ++ a.defers } := fun hg3 hnb => by
            obtain ⟨_, r3, N3, hw3, _, _, _, _, hl, _⟩ := q2.br _ _ _ _ hk2 hg3
            obtain ⟨d1, d2⟩ := q2.dead (w' := w3.putObj (w.heap.size + 1) (.loop { r3 with state := .exhausted })) hk2 hg3 ⟨rfl, rfl⟩ World.putObj_size (fun c hc => putObj_other c hc)
            refine ⟨r3, _, hl, run_endLoop hw3 (hl.notBusy hnb), d1, hEall.trans d2, fun k v hk hv => ?_, ?_, hf.n⟩
            · obtain ⟨cv, p1, p2⟩ := hf.t k v hk hv
              exact ⟨cv, p1, p2.mono hEall.le⟩
            · exact .mark rfl hk1 (hf.d.mono hEall.le)
          split at h
          · rename_i t ps' as' bd' hg3
            cases h
            obtain ⟨r3, w4, hl, z1, z2, z3, z4⟩ := fin hg3 (by simp)
            rw [hl.2] at z1
            exact ⟨_, _, z1, ⟨κ, z4, z2, z3, trivial⟩⟩
          · rename_i t ps' as' bd' c hg3
            split at h
            · rename_i hj
              obtain ⟨r3, w4, hl, z1, z2, z3, z4⟩ := fin hg3 (by simp)
              rw [hl.2] at z1
              refine ⟨_, _, z1, ?_⟩
              have hcc : codeOK N c = true := by cases c <;> simp_all [jumpOK, codeOK]
              exact wpIn_mono (hev c _ _ r h none N hN hcc (.inl rfl) κ _ _ z4 z2) fun e a' w' hp => XPost.of z3 hp
            · cases h
          · cases h
    · rename_i v s3 hcall
      cases h
      obtain ⟨g1, g2⟩ := callWith_enters hX hF hev hcall hargs n2'.1
      refine ⟨w.heap.size + 1, _, w2, { target := .fn (.func f) cy, args := cx ++ #[Value.func (.yield (w.heap.size + 1)) #[] #[]] }, w2, f, cx ++ #[Value.func (Fn.yield (w.heap.size + 1)) #[] #[]] ++ cy, w2, run_enterLoop_outer fn a.tmps ps as bd, ?_, fun f' hf' => ?_, ?_, FE_depth, ?_⟩
      · simp only [resolve]
        rw [hgc]
        simp [Deferred.ofValue, Act.eval]
      · simp only [Target.leads, Option.some.injEq] at hf'
        subst hf'
        exact callFunc_ex g1
      · simp only [invoke]; exact g1
      · refine callsIn_FE (CallsIn.mono g2 fun e w3 he => ?_)
        cases e with
        | returned cv => obtain ⟨v', s'', e, _⟩ := he; cases e
        | outgrown => exact he.elim
        | panicked chain =>
          obtain ⟨v', s'', e, κ, cv, rfl, q1, q2, q3⟩ := he
          cases e
          refine ⟨κ, ⟨fun k v hk hv => ?_, .mark rfl (q3.le _ _ hb1) (hf.d.mono (hE2.trans q3).le), hf.n⟩, q2, hE2.trans q3, cv, rfl, q1⟩
          obtain ⟨cv, p1, p2⟩ := hf.t k v hk hv
          exact ⟨cv, p1, p2.mono (hE2.trans q3).le⟩
    · cases h
  · cases h

include hX hF in
theorem ev_sound {own : OwnF} (ho : OwnOK P own) : ∀ n, EvOK P (ev X own n) ∧
    ∀ b fr s r, ev X own n (.loop b) fr s = some r → ∀ ro N, N ≤ 1000000000 → codeOK N b = true → (ro = none ∨ quiet b = true) → ∀ ι₀ s₀ w₀ ι a w, FRN N Bare ι fr a → HR P ι s w → Ext ι₀ s₀ w₀ ι s w → Code.roundsIn (FE P ro) 0 P b (XPost P N ι₀ s₀ w₀ r) n a w := by
  intro n
  induction n with
  | zero => exact ⟨fun c fr s r h => (by cases h), fun b fr s r h => (by cases h)⟩
  | succ n ih =>
    obtain ⟨ih, ihl⟩ := ih
    have hcall := callOwn_sound hX hF ho ih
    have loops : ∀ b fr s r, ev X own (n + 1) (.loop b) fr s = some r → ∀ ro N, N ≤ 1000000000 → codeOK N b = true → (ro = none ∨ quiet b = true) → ∀ ι₀ s₀ w₀ ι a w, FRN N Bare ι fr a → HR P ι s w → Ext ι₀ s₀ w₀ ι s w → Code.roundsIn (FE P ro) 0 P b (XPost P N ι₀ s₀ w₀ r) (n + 1) a w := by
      intro b fr s r h ro N hN hc hq ι₀ s₀ w₀ ι a w hf hH hE
      have h : evSeq (ev X own n) (.loop b) (ev X own n b fr s) = some r := h
      rw [roundsIn_succ]
      rcases evSeq_sound h with ⟨fr', s', h1, h2⟩ | ⟨h1, h2⟩
      · refine wpIn_mono (ih b fr s _ h1 ro N hN hc hq ι a w hf hH) fun e a' w' ⟨κ, g1, g2, g3, g4⟩ => ?_
        cases e <;> simp only at g4
        exact ihl b fr' s' r h2 ro N hN hc hq ι₀ s₀ w₀ κ a' w' g1 g2 (hE.trans g3)
      · refine wpIn_mono (ih b fr s _ h1 ro N hN hc hq ι a w hf hH) fun e a' w' hp => ?_
        obtain ⟨x, fr', s'⟩ := r
        have hp' := XPost.of hE hp
        cases e
        case normal =>
          obtain ⟨κ, g1, g2, g3, g4⟩ := hp
          cases x <;> simp only at g4
          exact absurd rfl (h2 fr' s')
        all_goals exact hp'
    refine ⟨fun c fr s r h ro N hN hc hq ι a w hf hH => ?_, loops⟩
    replace h : evStep X own (ev X own n) c fr s = some r := h
    unfold evStep at h
    split at h
    · cases h; exact wpIn_skip ⟨ι, hf, hH, Ext.refl _ _ _, trivial⟩
    · cases h; exact wpIn_label ⟨ι, hf, hH, Ext.refl _ _ _, trivial⟩
    · rename_i id ops draw
      simp only [codeOK, Bool.and_eq_true] at hc
      have hq' : ro = none ∨ ops.toList.all quietOp = true := hq.imp (fun h => h) (fun h => by simpa [quiet] using h)
      unfold evRegion at h
      split at h
      · refine wpIn_region ?_
        have := inOrder_sound hX hcall ops.toList 0 (by simp) hc.1 hq' h hf hH (Ext.refl _ _ _)
        simpa [List.range_eq_range'] using this
      · have hdr : drawOK ops = true := by simpa using hc.2
        refine wpIn_region_any hX.mixed ?_
        exact draw_sound hX hcall ro N ops fr s r hN hc.1 hq' hdr h ι s w ι a _ hf (hH.heap rfl) (Ext.heap rfl ⟨rfl, rfl⟩)
    · rename_i x y
      simp only [codeOK, Bool.and_eq_true] at hc
      have hq1 : ro = none ∨ quiet x = true := hq.imp (fun h => h) (fun h => by simp only [quiet, Bool.and_eq_true] at h; exact h.1)
      have hq2 : ro = none ∨ quiet y = true := hq.imp (fun h => h) (fun h => by simp only [quiet, Bool.and_eq_true] at h; exact h.2)
      refine wpIn_seq ?_
      rcases evSeq_sound h with ⟨fr', s', h1, h2⟩ | ⟨h1, h2⟩
      · refine wpIn_mono (ih x fr s _ h1 ro N hN hc.1 hq1 ι a w hf hH) fun e a' w' ⟨κ, g1, g2, g3, g4⟩ => ?_
        cases e <;> simp only at g4
        exact wpIn_mono (ih y fr' s' r h2 ro N hN hc.2 hq2 κ a' w' g1 g2) fun e a w => XPost.of g3
      · refine wpIn_mono (ih x fr s _ h1 ro N hN hc.1 hq1 ι a w hf hH) fun e a' w' hp => ?_
        obtain ⟨x, fr', s'⟩ := r
        cases e
        case normal =>
          obtain ⟨κ, g1, g2, g3, g4⟩ := hp
          cases x <;> simp only at g4
          exact absurd rfl (h2 fr' s')
        all_goals exact hp
    · rename_i x b c
      simp only [codeOK, Bool.and_eq_true] at hc
      have hq1 : ro = none ∨ quiet b = true := hq.imp (fun h => h) (fun h => by simp only [quiet, Bool.and_eq_true] at h; exact h.1)
      have hq2 : ro = none ∨ quiet c = true := hq.imp (fun h => h) (fun h => by simp only [quiet, Bool.and_eq_true] at h; exact h.2)
      have hv := hf.opd x (fun _ _ h => h)
      unfold evCond at h
      split at h
      · rename_i e; rw [e] at hv; exact wpIn_cond_true hv.bool (ih b fr s r h ro N hN hc.1 hq1 ι a w hf hH)
      · rename_i e; rw [e] at hv; exact wpIn_cond_false hv.bool (ih c fr s r h ro N hN hc.2 hq2 ι a w hf hH)
      · cases h
    · rename_i id b
      have hq1 : ro = none ∨ quiet b = true := hq.imp (fun h => h) (fun h => by simpa [quiet] using h)
      refine wpIn_block ?_
      unfold evBlock at h
      split at h
      · rename_i j fr' s' he
        split at h
        · rename_i hj
          cases h
          have hj := Nat.beq_eq.mp hj
          subst hj
          refine wpIn_mono (ih b fr s _ he ro N hN hc hq1 ι a w hf hH) fun e a' w' ⟨κ, g1, g2, g3, g4⟩ => ?_
          cases e <;> simp only at g4
          subst g4
          simp only [Exit.inBlock, if_true]
          exact ⟨κ, g1, g2, g3, trivial⟩
        · rename_i hj
          cases h
          refine wpIn_mono (ih b fr s _ he ro N hN hc hq1 ι a w hf hH) fun e a' w' ⟨κ, g1, g2, g3, g4⟩ => ?_
          cases e <;> simp only at g4
          subst g4
          have : j ≠ id := fun e => by rw [e] at hj; simp at hj
          simp only [Exit.inBlock, this, if_false]
          exact ⟨κ, g1, g2, g3, rfl⟩
      · rename_i hne
        obtain ⟨x, fr', s'⟩ := r
        refine wpIn_mono (ih b fr s _ h ro N hN hc hq1 ι a w hf hH) fun e a' w' hp => ?_
        cases e
        case exit j =>
          obtain ⟨κ, g1, g2, g3, g4⟩ := hp
          cases x <;> simp only at g4
          exact absurd h (hne _ _ _)
        all_goals exact hp
    · rename_i b
      have hq1 : ro = none ∨ quiet b = true := hq.imp (fun h => h) (fun h => by simpa [quiet] using h)
      exact wpIn_loop_rounds (n + 1) (loops b fr s r h ro N hN hc hq1 ι s w ι a w hf hH (Ext.refl _ _ _))
    · cases h; exact wpIn_exit ⟨ι, hf, hH, Ext.refl _ _ _, rfl⟩
    · rename_i b
      have hq1 : ro = none ∨ quiet b = true := hq.imp (fun h => h) (fun h => by simpa [quiet] using h)
      refine wpIn_scope_straight (wpIn_mono (ih b fr s r h ro N hN hc hq1 ι a w hf hH) fun e a' w' hp => ?_)
      cases e
      case goto l =>
        obtain ⟨κ, g1, g2, g3, g4⟩ := hp
        obtain ⟨x, fr', s'⟩ := r
        cases x <;> simp only at g4
      all_goals exact hp
    · cases h; exact wpIn_ret ⟨ι, hf, hH, Ext.refl _ _ _, trivial⟩
    · cases h
    · cases h
    · rename_i g ps as bd
      rcases hq with rfl | hq
      · simp only [codeOK, Bool.and_eq_true] at hc
        obtain ⟨⟨hca, hcb⟩, ⟨hqa, hqb⟩, hps⟩ := hc
        exact rng_sound hX hF ih h hN hca hcb hqa hqb (fun p hp => by simpa [Nat.blt_eq] using List.all_eq_true.mp hps p hp) hf hH
      · simp [quiet] at hq

end
end Go.Am
