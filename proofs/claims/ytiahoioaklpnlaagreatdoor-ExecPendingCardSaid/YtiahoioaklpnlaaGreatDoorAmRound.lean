/-
  ROUNDS OF A RANGE OVER A FUNCTION.
-/
import Derived.Test.YtiahoioaklpnlaaGreatDoorAmCode
namespace Go.Am
/-- What is asked behind a round's body; it may be left by a panic. -/
def roundPostP (P : Program) (l : Nat) (R : Ending → World → Prop) : Exit → Act → World → Prop
  | .normal, _, w => ∃ v w', (Instr.endRound l none).run P w = .ok v w' ∧ R (.returned v) w'
  | .ret, _, w => ∃ v w', (Instr.endRound l (some .ret)).run P w = .ok v w' ∧ R (.returned v) w'
  | .exit id, _, w => ∃ v w', (Instr.endRound l (some (.exit id))).run P w = .ok v w' ∧ R (.returned v) w'
  | .goto t, _, w => ∃ v w', (Instr.endRound l (some (.goto t))).run P w = .ok v w' ∧ R (.returned v) w'
  | .panic chain, a, w => a.defers = [] ∧ R (.panicked chain) w
  | .outgrown, _, _ => False
theorem roundIn_pan {F : Fence} {n : Nat} {P : Program} {l : Nat} {f : FuncId} {tmps : Array Value} {assign body : Code} {w : World} {R : Ending → World → Prop} (hF : F.fn f) (hex : ∃ fn, P.funcs[f]? = some fn)
    (h : assign.wpIn (F.inRound l) n P (Exit.then (fun a₁ w₁ => ∃ w₂, (Instr.beginRound l).run P w₁ = .ok () w₂ ∧ body.wpIn (F.inRound l) n P (roundPostP P l R) a₁ w₂) (fun _ _ _ => False))
      { tmps := tmps, defers := [] } w) :
    RoundIn F n P l f tmps assign body w R := by
  refine ⟨hF, fun c cs hr => ?_⟩
  let b : Frame := { (default : Frame) with fn := f, kind := .normal, roundOf := some l }
  have hb0 : Frame.round l f tmps assign body .normal = b.atR { tmps := tmps, defers := [] } [.code assign, .beginRound, .code body] := by
    simp [Frame.round, Frame.atR, b]
  have hr' : (F.inRound l).room ((c :: cs).length + 1 + n) := hr
  have hF' : (F.inRound l).fn b.fn := hF
  obtain ⟨e, a₁, w₁, hq, harr⟩ := h b [.beginRound, .code body] (c :: cs) rfl hF' hr'
  rw [← hb0] at harr
  cases e with
  | normal =>
    obtain ⟨w₂, hbr, hbody⟩ := hq
    have s1 : StepsIn (Machine.fenced P (F.inRound l)) P (lone (b.atR a₁ [.beginRound, .code body]) (c :: cs) w₁) (lone (b.atR a₁ [.code body]) (c :: cs) w₂) :=
      .one (fenced_calm (fr := b.atR a₁ [.beginRound, .code body]) hF' hr' rfl) (stepR_beginRound rfl hbr)
    obtain ⟨e₂, a₂, w₃, hq₂, harr₂⟩ := hbody b [] (c :: cs) rfl hF' hr'
    cases e₂ with
    | normal =>
      obtain ⟨v, w₄, hend, hR⟩ := hq₂
      exact ⟨.returned v, w₄, hR, (StepsIn.trans harr s1).trans (StepsIn.trans harr₂ (.one (fenced_calm (fr := b.atR a₂ []) hF' hr' rfl) (stepR_round_end rfl rfl hend)))⟩
    | ret =>
      obtain ⟨v, w₄, hend, hR⟩ := hq₂
      obtain ⟨k₁, hs⟩ := harr₂.2 rfl
      exact ⟨.returned v, w₄, hR, (StepsIn.trans harr s1).trans (StepsIn.trans hs (.one (fenced_calm (fr := b.atR a₂ (.code .ret :: k₁)) hF' hr' rfl) (stepR_round_ret rfl rfl hend)))⟩
    | exit id =>
      obtain ⟨v, w₄, hend, hR⟩ := hq₂
      obtain ⟨k₁, hk, hs⟩ := harr₂.2 rfl rfl
      exact ⟨.returned v, w₄, hR, (StepsIn.trans harr s1).trans (StepsIn.trans hs (.one (fenced_calm (fr := b.atR a₂ (.code (.exit id) :: k₁)) hF' hr' rfl) (stepR_round_exit rfl rfl hk hend)))⟩
    | goto t =>
      obtain ⟨v, w₄, hend, hR⟩ := hq₂
      obtain ⟨k₁, hk, hs⟩ := harr₂.2 rfl rfl
      exact ⟨.returned v, w₄, hR, (StepsIn.trans harr s1).trans (StepsIn.trans hs (.one (fenced_calm (fr := b.atR a₂ (.code (.goto t) :: k₁)) hF' hr' rfl) (stepR_round_goto rfl rfl hk hend)))⟩
    | panic chain =>
      obtain ⟨hd, hR⟩ := hq₂
      obtain ⟨todo, hs⟩ := harr₂
      have hl : ({ b.atR a₂ todo with mode := .panicking chain } : Frame).leaving P w₃ (.panicked chain) := ⟨rfl, hd, hex⟩
      exact ⟨.panicked chain, w₃, hR, (StepsIn.trans harr s1).trans (StepsIn.trans hs (.one (fenced_leaving (fr := { b.atR a₂ todo with mode := .panicking chain }) hF' hr' hl) (step_leave_panicked hl)))⟩
    | outgrown => exact hq₂.elim
  | exit id => exact hq.elim
  | goto t => exact hq.elim
  | ret => exact hq.elim
  | panic chain => exact hq.elim
  | outgrown => exact hq.elim

section
variable {P : Program} {X : Ctx} (hX : CtxOK P X)

theorem zipPut_size : ∀ (ps : List Nat) (cargs : List Value) (tmps : Array Value), ((ps.zip cargs).foldl (fun tmps (t, a) => tmps.setIfInBounds t a) tmps).size = tmps.size
  | [], _, _ => by simp
  | _ :: _, [], _ => by simp
  | p :: ps, c :: cargs, tmps => by
    simp only [List.zip_cons_cons, List.foldl_cons]
    rw [zipPut_size ps cargs]
    simp
theorem zipPut_spec {ι : Inj} : ∀ (ps : List Nat) (args : List AV) (cargs : List Value) (t t' : Tr AV) (tmps : Array Value), zipPut ps args t = some t' → VRs ι args cargs → (∀ k v, t.get k = some v → ∃ cv, tmps[k]? = some cv ∧ VR ι v cv) → (∀ p ∈ ps, p < tmps.size) →
    cargs.length = ps.length ∧ ∀ k v, t'.get k = some v → ∃ cv, ((ps.zip cargs).foldl (fun tmps (t, a) => tmps.setIfInBounds t a) tmps)[k]? = some cv ∧ VR ι v cv
  | [], [], cargs, t, t', tmps, h, hv, ht, hp => by
    cases cargs with
    | nil => simp only [zipPut, Option.some.injEq] at h; subst h; exact ⟨rfl, ht⟩
    | cons _ _ => simp [VRs] at hv
  | [], _ :: _, cargs, t, t', tmps, h, hv, ht, hp => by simp [zipPut] at h
  | _ :: _, [], cargs, t, t', tmps, h, hv, ht, hp => by simp [zipPut] at h
  | p :: ps, v :: args, cargs, t, t', tmps, h, hv, ht, hp => by
    cases cargs with
    | nil => simp [VRs] at hv
    | cons cv cargs =>
      simp only [VRs] at hv
      simp only [zipPut, kT_eq] at h
      have hlt := hp p (by simp)
      have ih := zipPut_spec ps args cargs _ t' (tmps.setIfInBounds p cv) h hv.2 (fun k u hu => by
        rcases Tr.get_put hu with ⟨rfl, rfl⟩ | ⟨hne, hu⟩
        · exact ⟨cv, Array.getElem?_setIfInBounds_self_of_lt hlt, hv.1⟩
        · obtain ⟨c, h1, h2⟩ := ht k u hu
          exact ⟨c, by rw [Array.getElem?_setIfInBounds_ne (Ne.symm hne)]; exact h1, h2⟩) (fun q hq => by simpa using hp q (by simp [hq]))
      exact ⟨by simp [ih.1], ih.2⟩

theorem rnd_sound {ev : Ev} (hev : EvOK P ev) {b : Nat} {args : List AV} {s : St} {r : CR} (h : rndWith ev b args s = some r) {ι : Inj} {w : World} {cargs : Array Value} (hv : VRs ι args cargs.toList) (hH : HR P ι s w) {cb : Nat} {d : Nat × Nat} (hb : ι b = some (cb, d)) :
    ∃ fn tmps assign body, (Instr.yield cb cargs).run P w = .ok (.round cb fn tmps assign body) w ∧ RoundIn (FE P none) 0 P cb fn tmps assign body w (CPost P ι s w r) := by
  unfold rndWith rndAt at h
  split at h
  · rename_i t ps as bd0 hg
    obtain ⟨hd, r0, N, hw, hex, e1, e2, e3, hst, hN, hN9, hca, hcb, hqa, hqb, hps, ht⟩ := hH.br b cb d _ hb hg
    unfold rndGo at h
    split at h
    · rename_i t' hz
      obtain ⟨hlen, ht'⟩ := zipPut_spec ps args cargs.toList t t' r0.tmps hz hv ht (fun p hp => Nat.lt_of_lt_of_le (hps p hp) hN)
      have hsz : cargs.size = r0.params.size := by
        rw [← e1] at hlen
        simpa using hlen
      refine ⟨_, _, _, _, run_yield hw hsz, roundIn_pan (F := FE P none) hex hex ?_⟩
      have htm : ((r0.params.zip cargs).foldl (fun tmps (t, a) => tmps.setIfInBounds t a) r0.tmps) = ((ps.zip cargs.toList).foldl (fun tmps (t, a) => tmps.setIfInBounds t a) r0.tmps) := by
        rw [← Array.foldl_toList, Array.toList_zip, e1]
      unfold rndAssign at h
      split at h
      · rename_i fr1 s1 he
        rw [← e2] at he hca hqa
        have hf0 : FRN N Bare ι ⟨t', []⟩ { tmps := (r0.params.zip cargs).foldl (fun tmps (t, a) => tmps.setIfInBounds t a) r0.tmps, defers := [] } :=
          ⟨fun k v _ hk => by rw [htm]; exact ht' k v hk, .nil, by rw [htm, zipPut_size]; exact hN⟩
        refine wpIn_mono (hev _ _ s _ he (some cb) N hN9 hca (.inr hqa) ι _ w hf0 hH) fun e a₁ w₁ ⟨κ, h1, h2, h3, h4⟩ => ?_
        cases e <;> simp only at h4
        unfold rndBusy at h
        split at h
        · rename_i t1 ps1 as1 bd hg1
          have hb1 := h3.le _ _ hb
          obtain ⟨_, r1, N1, hw1, hex1, e1', e2', e3', hst1, hN1, hN91, hca1, hcb1, hqa1, hqb1, hps1, ht1⟩ := h2.br b cb d _ hb1 hg1
          refine ⟨_, run_beginRound hw1 hst1.1, ?_⟩
          have hlt1 : cb < w₁.heap.size := (Array.getElem?_eq_some_iff.mp hw1).1
          obtain ⟨p1, p2⟩ := h2.put (w' := w₁.putObj cb (.loop { r1 with state := .busy })) (ab' := .loop t1 ps1 as1 bd .busy) hb1 hg1 ⟨rfl, rfl⟩ World.putObj_size (fun c hc => putObj_other c hc)
            ⟨hd, _, N1, World.putObj_heap_same hlt1, hex1, e1', e2', e3', rfl, hN1, hN91, hca1, hcb1, hqa1, hqb1, hps1, ht1⟩
          unfold rndBody at h
          split at h
          · rename_i x fr2 s2 he2
            rw [← e3] at he2 hcb hqb
            refine wpIn_mono (hev _ _ _ _ he2 (some cb) N hN9 hcb (.inr hqb) κ _ _ h1 p1) fun e a₂ w₂ ⟨μ, q1, q2, q3, q4⟩ => ?_
            unfold rndEnd at h
            split at h
            · rename_i t2 ps2 as2 bd2 hg2
              have hb2 := q3.le _ _ hb1
              obtain ⟨_, r2, N2, hw2, hex2, e1'', e2'', e3'', hst2, hN2, hN92, hca2, hcb2, hqa2, hqb2, hps2, ht2⟩ := q2.br b cb d _ hb2 hg2
              have hlt2 : cb < w₂.heap.size := (Array.getElem?_eq_some_iff.mp hw2).1
              have fin : ∀ (j : Option Code) (st : LSt), LR st { r2 with state := if j.isNone then .ready else .done, pending := j } → r = .ret (.bool j.isNone) { s2 with h := s2.h.put b (.loop t2 ps2 as2 bd2 st) } →
                  ∃ v w', (Instr.endRound cb j).run P w₂ = .ok v w' ∧ CPost P ι s w r (.returned v) w' := fun j st hl hr => by
                obtain ⟨z1, z2⟩ := q2.put (w' := w₂.putObj cb (.loop { r2 with state := if j.isNone then .ready else .done, pending := j })) (ab' := .loop t2 ps2 as2 bd2 st) hb2 hg2 ⟨rfl, rfl⟩ World.putObj_size (fun c hc => putObj_other c hc)
                  ⟨hd, _, N2, World.putObj_heap_same hlt2, hex2, e1'', e2'', e3'', hl, hN2, hN92, hca2, hcb2, hqa2, hqb2, hps2, ht2⟩
                exact ⟨_, _, run_endRound j hw2, _, _, hr, μ, by simp [VR], z1, ((h3.trans p2).trans q3).trans z2⟩
              split at h
              · cases h
                cases e <;> simp only at q4
                exact fin none .ready ⟨rfl, rfl⟩ rfl
              · cases h
                cases e <;> simp only at q4
                exact fin (some .ret) (.done .ret) ⟨rfl, rfl⟩ rfl
              · cases h
                cases e <;> simp only at q4
                subst q4
                exact fin (some (.exit _)) (.done (.exit _)) ⟨rfl, rfl⟩ rfl
              · unfold rndPan at h
                split at h
                case h_2 => cases h
                rename_i hd0
                cases h
                cases e <;> simp only at q4
                obtain ⟨cv, rfl, hcv⟩ := q4
                have hdd : a₂.defers = [] := by
                  have := q1.d
                  simp only [hd0] at this
                  exact this.nil_left
                exact ⟨hdd, _, _, rfl, μ, cv, rfl, hcv, q2, (h3.trans p2).trans q3⟩
            · cases h
          · cases h
        · cases h
      · cases h
    · cases h
  · cases h
end
end Go.Am
