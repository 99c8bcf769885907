/-
  ROUNDS OF A RANGE OVER A FUNCTION.
-/
import Derived.Test.YtiahoioaklpnlaaGreatDoorAmCode
namespace Go.Am
section
variable {P : Program} {X : Ctx} (hX : CtxOK P X)

theorem zipPut_size : ∀ (ps : List Nat) (cargs : List Value) (tmps : Array Value), ((ps.zip cargs).foldl (fun tmps (t, a) => tmps.setIfInBounds t a) tmps).size = tmps.size
  | [], _, _ => by simp
  | _ :: _, [], _ => by simp
  | p :: ps, c :: cargs, tmps => by
    simp only [List.zip_cons_cons, List.foldl_cons]
    rw [zipPut_size ps cargs]
    simp
theorem zipPut_spec {ι : Inj} : ∀ (ps : List Nat) (args : List AV) (cargs : List Value) (t t' : Tr AV) (tmps : Array Value), zipPut ps args t = some t' → VRs ι args cargs → (∀ k v, t.get k = some v → ∃ cv, tmps[k]? = some cv ∧ VR ι v cv) → (∀ p ∈ ps, p < tmps.size) →
    cargs.length = ps.length ∧ ∀ k v, t'.get k = some v → ∃ cv, ((ps.zip cargs).foldl (fun tmps (t, a) => tmps.setIfInBounds t a) tmps)[k]? = some cv ∧ VR ι v cv
  | [], [], cargs, t, t', tmps, h, hv, ht, hp => by
    cases cargs with
    | nil => simp only [zipPut, Option.some.injEq] at h; subst h; exact ⟨rfl, ht⟩
    | cons _ _ => simp [VRs] at hv
  | [], _ :: _, cargs, t, t', tmps, h, hv, ht, hp => by simp [zipPut] at h
  | _ :: _, [], cargs, t, t', tmps, h, hv, ht, hp => by simp [zipPut] at h
  | p :: ps, v :: args, cargs, t, t', tmps, h, hv, ht, hp => by
    cases cargs with
    | nil => simp [VRs] at hv
    | cons cv cargs =>
      simp only [VRs] at hv
      simp only [zipPut, kT_eq] at h
      have hlt := hp p (by simp)
      have ih := zipPut_spec ps args cargs _ t' (tmps.setIfInBounds p cv) h hv.2 (fun k u hu => by
        rcases Tr.get_put hu with ⟨rfl, rfl⟩ | ⟨hne, hu⟩
        · exact ⟨cv, Array.getElem?_setIfInBounds_self_of_lt hlt, hv.1⟩
        · obtain ⟨c, h1, h2⟩ := ht k u hu
          exact ⟨c, by rw [Array.getElem?_setIfInBounds_ne (Ne.symm hne)]; exact h1, h2⟩) (fun q hq => by simpa using hp q (by simp [hq]))
      exact ⟨by simp [ih.1], ih.2⟩

theorem rnd_sound {ev : Ev} (hev : EvOK P ev) {b : Nat} {args : List AV} {s : St} {r : CR} (h : rndWith ev b args s = some r) {ι : Inj} {w : World} {cargs : Array Value} (hv : VRs ι args cargs.toList) (hH : HR ι s w) {cb : Nat} {d : Nat × Nat} (hb : ι b = some (cb, d)) :
    ∃ fn tmps assign body, (Instr.yield cb cargs).run P w = .ok (.round cb fn tmps assign body) w ∧ RoundIn Fence.wide 0 P cb fn tmps assign body w (CPost ι s w r) := by
  unfold rndWith rndAt at h
  split at h
  · rename_i t ps as bd0 hg
    obtain ⟨hd, r0, N, hw, e1, e2, e3, hst, hN, hN9, hca, hcb, hqa, hqb, hps, ht⟩ := hH.br b cb d _ hb hg
    unfold rndGo at h
    split at h
    · rename_i t' hz
      obtain ⟨hlen, ht'⟩ := zipPut_spec ps args cargs.toList t t' r0.tmps hz hv ht (fun p hp => Nat.lt_of_lt_of_le (hps p hp) hN)
      have hsz : cargs.size = r0.params.size := by
        rw [← e1] at hlen
        simpa using hlen
      refine ⟨_, _, _, _, run_yield hw hsz, roundIn_of_wpIn (F := Fence.wide) trivial ?_⟩
      have htm : ((r0.params.zip cargs).foldl (fun tmps (t, a) => tmps.setIfInBounds t a) r0.tmps) = ((ps.zip cargs.toList).foldl (fun tmps (t, a) => tmps.setIfInBounds t a) r0.tmps) := by
        rw [← Array.foldl_toList, Array.toList_zip, e1]
      unfold rndAssign at h
      split at h
      · rename_i fr1 s1 he
        rw [← e2] at he hca hqa
        have hf0 : FRN N Bare ι ⟨t', []⟩ { tmps := (r0.params.zip cargs).foldl (fun tmps (t, a) => tmps.setIfInBounds t a) r0.tmps, defers := [] } :=
          ⟨fun k v _ hk => by rw [htm]; exact ht' k v hk, .nil, by rw [htm, zipPut_size]; exact hN⟩
        refine wpIn_mono (hev _ _ s _ he (some cb) N hN9 hca (.inr hqa) ι _ w hf0 hH) fun e a₁ w₁ ⟨κ, h1, h2, h3, h4⟩ => ?_
        cases e <;> simp only at h4
        unfold rndBusy at h
        split at h
        · rename_i t1 ps1 as1 bd hg1
          have hb1 := h3.le _ _ hb
          obtain ⟨_, r1, N1, hw1, e1', e2', e3', hst1, hN1, hN91, hca1, hcb1, hqa1, hqb1, hps1, ht1⟩ := h2.br b cb d _ hb1 hg1
          refine ⟨_, run_beginRound hw1 hst1.1, ?_⟩
          have hlt1 : cb < w₁.heap.size := (Array.getElem?_eq_some_iff.mp hw1).1
          obtain ⟨p1, p2⟩ := h2.put (w' := w₁.putObj cb (.loop { r1 with state := .busy })) (ab' := .loop t1 ps1 as1 bd .busy) hb1 hg1 ⟨rfl, rfl⟩ World.putObj_size (fun c hc => putObj_other c hc)
            ⟨hd, _, N1, World.putObj_heap_same hlt1, e1', e2', e3', rfl, hN1, hN91, hca1, hcb1, hqa1, hqb1, hps1, ht1⟩
          unfold rndBody at h
          split at h
          · rename_i x fr2 s2 he2
            rw [← e3] at he2 hcb hqb
            refine wpIn_mono (hev _ _ _ _ he2 (some cb) N hN9 hcb (.inr hqb) κ _ _ h1 p1) fun e a₂ w₂ ⟨μ, q1, q2, q3, q4⟩ => ?_
            unfold rndEnd at h
            split at h
            · rename_i t2 ps2 as2 bd2 hg2
              have hb2 := q3.le _ _ hb1
              obtain ⟨_, r2, N2, hw2, e1'', e2'', e3'', hst2, hN2, hN92, hca2, hcb2, hqa2, hqb2, hps2, ht2⟩ := q2.br b cb d _ hb2 hg2
              have hlt2 : cb < w₂.heap.size := (Array.getElem?_eq_some_iff.mp hw2).1
              have fin : ∀ (j : Option Code) (st : LSt), LR st { r2 with state := if j.isNone then .ready else .done, pending := j } → r = .ret (.bool j.isNone) { s2 with h := s2.h.put b (.loop t2 ps2 as2 bd2 st) } →
                  ∃ v w', (Instr.endRound cb j).run P w₂ = .ok v w' ∧ CPost ι s w r (.returned v) w' := fun j st hl hr => by
                obtain ⟨z1, z2⟩ := q2.put (w' := w₂.putObj cb (.loop { r2 with state := if j.isNone then .ready else .done, pending := j })) (ab' := .loop t2 ps2 as2 bd2 st) hb2 hg2 ⟨rfl, rfl⟩ World.putObj_size (fun c hc => putObj_other c hc)
                  ⟨hd, _, N2, World.putObj_heap_same hlt2, e1'', e2'', e3'', hl, hN2, hN92, hca2, hcb2, hqa2, hqb2, hps2, ht2⟩
                exact ⟨_, _, run_endRound j hw2, _, _, hr, μ, by simp [VR], z1, ((h3.trans p2).trans q3).trans z2⟩
              split at h
              · cases h
                cases e <;> simp only at q4
                exact fin none .ready ⟨rfl, rfl⟩ rfl
              · cases h
                cases e <;> simp only at q4
                exact fin (some .ret) (.done .ret) ⟨rfl, rfl⟩ rfl
              · cases h
                cases e <;> simp only at q4
                subst q4
                exact fin (some (.exit _)) (.done (.exit _)) ⟨rfl, rfl⟩ rfl
              · cases h
            · cases h
          · cases h
        · cases h
      · cases h
    · cases h
  · cases h
end
end Go.Am
