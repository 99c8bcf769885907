/-
  A CALL THAT WAS RUN ONCE, in a state of the blocks alone that it may reach, that answers what names no block and leaves these blocks as they were: wherever they stand so, its answer is taken over, and nothing else turns.
-/
import Derived.Test.YtiahoioaklpnlaaGreatDoorAmPart
namespace Go.Am

mutual
/-- Each block that is named is one of the first n. -/
def AV.under (n : Nat) : AV → Bool
  | .ptr (some (b, _)) => Nat.blt b n
  | .slc (some (b, _, _)) _ _ _ => Nat.blt b n
  | .map (some b) => Nat.blt b n
  | .yld b => Nat.blt b n
  | .func _ a b => AV.unders n a && AV.unders n b
  | .iface _ v => v.under n
  | .agg cs => AV.unders n cs
  | .tup cs => AV.unders n cs
  | _ => true
def AV.unders (n : Nat) : List AV → Bool
  | [] => true
  | a :: l => a.under n && AV.unders n l
end
/-- Two maps of blocks agree on the first n. -/
def Agree (n : Nat) (ι κ : Inj) : Prop := ∀ b, b < n → ∀ x, ι b = some x → κ b = some x
mutual
theorem VR.agree {n : Nat} {ι κ : Inj} (h : Agree n ι κ) : ∀ {a : AV} {v : Value}, a.under n = true → VR ι a v → VR κ a v
  | .top, _, _, _ => by simp [VR]
  | .bool _, _, _, hv => by simpa [VR] using hv
  | .int _ _, _, _, hv => by simpa [VR] using hv
  | .flt _ _, _, _, hv => by simpa [VR] using hv
  | .str _, _, _, hv => by simpa [VR] using hv
  | .ptr none, _, _, hv => by simpa [VR] using hv
  | .ptr (some (b, o)), _, hf, hv => by
    simp only [AV.under, Nat.blt_eq] at hf
    simp only [VR] at hv ⊢
    obtain ⟨c, d, h1, h2⟩ := hv
    exact ⟨c, d, h _ hf _ h1, h2⟩
  | .slc none _ _ _, _, _, hv => by simpa [VR] using hv
  | .slc (some (b, o, es)) _ _ _, _, hf, hv => by
    simp only [AV.under, Nat.blt_eq] at hf
    simp only [VR] at hv ⊢
    obtain ⟨cb, d, off, m, h1, h2⟩ := hv
    exact ⟨cb, d, off, m, h _ hf _ h1, h2⟩
  | .map none, _, _, hv => by simpa [VR] using hv
  | .map (some r), _, hf, hv => by
    simp only [AV.under, Nat.blt_eq] at hf
    simp only [VR] at hv ⊢
    obtain ⟨c, d, h1, h2⟩ := hv
    exact ⟨c, d, h _ hf _ h1, h2⟩
  | .func f a b, _, hf, hv => by
    simp only [AV.under, Bool.and_eq_true] at hf
    simp only [VR] at hv ⊢
    obtain ⟨x, y, h1, h2, h3⟩ := hv
    exact ⟨x, y, h1, VRs.agree h hf.1 h2, VRs.agree h hf.2 h3⟩
  | .nilFunc, _, _, hv => by simpa [VR] using hv
  | .iface t u, _, hf, hv => by
    simp only [AV.under] at hf
    simp only [VR] at hv ⊢
    obtain ⟨x, h1, h2⟩ := hv
    exact ⟨x, h1, VR.agree h hf h2⟩
  | .nilIface, _, _, hv => by simpa [VR] using hv
  | .agg cs, _, hf, hv => by
    simp only [AV.under] at hf
    simp only [VR] at hv ⊢
    obtain ⟨x, h1, h2⟩ := hv
    exact ⟨x, h1, VRs.agree h hf h2⟩
  | .tup cs, _, hf, hv => by
    simp only [AV.under] at hf
    simp only [VR] at hv ⊢
    obtain ⟨x, h1, h2⟩ := hv
    exact ⟨x, h1, VRs.agree h hf h2⟩
  | .any, _, _, hv => by simpa [VR] using hv
  | .yld b, _, hf, hv => by
    simp only [AV.under, Nat.blt_eq] at hf
    simp only [VR] at hv ⊢
    obtain ⟨c, d, h1, h2⟩ := hv
    exact ⟨c, d, h _ hf _ h1, h2⟩
  | .gp _ _, _, _, hv => by simpa [VR] using hv
  | .cls _ _ _ _, _, _, hv => by simp only [VR] at hv ⊢; exact hv
  | .ne _ _, _, _, hv => by simp only [VR] at hv ⊢; exact hv
theorem VRs.agree {n : Nat} {ι κ : Inj} (h : Agree n ι κ) : ∀ {l : List AV} {m : List Value}, AV.unders n l = true → VRs ι l m → VRs κ l m
  | [], [], _, _ => by simp [VRs]
  | [], _ :: _, _, hv => by simp [VRs] at hv
  | _ :: _, [], _, hv => by simp [VRs] at hv
  | a :: l, v :: m, hf, hv => by
    simp only [AV.unders, Bool.and_eq_true] at hf
    simp only [VRs] at hv ⊢
    exact ⟨VR.agree h hf.1 hv.1, VRs.agree h hf.2 hv.2⟩
end
noncomputable def cellsBelow (n : Nat) (c : Tr AV) : Nat → Bool
  | 0 => true
  | i + 1 => (match c.get i with | some v => v.under n | none => true) && cellsBelow n c i
theorem cellsBelow_get {n : Nat} {c : Tr AV} : ∀ {m : Nat}, cellsBelow n c m = true → ∀ i v, i < m → c.get i = some v → v.under n = true
  | 0, _, i, v, hi, _ => by omega
  | m + 1, h, i, v, hi, hv => by
    simp only [cellsBelow, Bool.and_eq_true] at h
    by_cases e : i = m
    · subst e
      have h1 := h.1
      rw [hv] at h1
      exact h1
    · exact cellsBelow_get h.2 i v (by omega) hv
def esBelow (n : Nat) : List (AV × AV) → Bool
  | [] => true
  | (a, b) :: l => a.under n && b.under n && esBelow n l
noncomputable def AB.under (n : Nat) : AB → Bool
  | .cells c m => cellsBelow n c m
  | .map es => esBelow n es
  | _ => false
theorem ERs.agree {n : Nat} {ι κ : Inj} (h : Agree n ι κ) {es : List (AV × AV)} {l : List MapEntry} (hr : ERs ι es l) (hb : esBelow n es = true) : ERs κ es l := by
  induction hr with
  | nil => exact .nil
  | cons h1 _ ih =>
    rename_i p e es l _
    obtain ⟨a, b⟩ := p
    simp only [esBelow, Bool.and_eq_true] at hb
    exact .cons ⟨VR.agree h hb.1.1 h1.1, VR.agree h hb.1.2 h1.2⟩ (ih hb.2)
theorem BR.agree {P : Program} {n : Nat} {ι κ : Inj} (h : Agree n ι κ) {w : World} {cb : Nat} {d : Nat × Nat} {ab : AB} (hb : ab.under n = true) (hr : BR P ι w cb d ab) : BR P κ w cb d ab := by
  cases ab with
  | cells c m =>
    obtain ⟨cs, e, fz, h1, h0, h2⟩ := hr
    refine ⟨cs, e, fz, h1, h0, fun i v hv => ?_⟩
    obtain ⟨a, b, cv, c', d⟩ := h2 i v hv
    exact ⟨a, b, cv, c', VR.agree h (cellsBelow_get hb i v a hv) d⟩
  | map es =>
    obtain ⟨h0, hd, l, k, h1, ⟨l', hp, hr⟩, h3⟩ := hr
    exact ⟨h0, hd, l, k, h1, ⟨l', hp, hr.agree h hb⟩, h3⟩
  | loop t ps a bd st => cases hb
  | dfr => cases hb

noncomputable def blocksBelow (n : Nat) : List (Nat × AB) → Bool
  | [] => true
  | (b, x) :: l => Nat.blt b n && x.under n && blocksBelow n l
theorem blocksBelow_get {n : Nat} : ∀ {l : List (Nat × AB)}, blocksBelow n l = true → ∀ b x, (b, x) ∈ l → b < n ∧ x.under n = true
  | [], _, b, x, h => by cases h
  | (c, y) :: l, h, b, x, hm => by
    simp only [blocksBelow, Bool.and_eq_true, Nat.blt_eq] at h
    rcases List.mem_cons.mp hm with e | e
    · cases e; exact h.1
    · exact blocksBelow_get h.2 b x e
def shIn (n : Nat) (l : List Nat) : List Nat → Bool
  | [] => true
  | b :: m => (!Nat.blt b n || hasN b l) && shIn n l m
theorem shIn_get {n : Nat} {l : List Nat} : ∀ {m : List Nat}, shIn n l m = true → ∀ b, b < n → hasN b l = false → hasN b m = false
  | [], _, b, _, _ => rfl
  | c :: m, h, b, hb, hn => by
    simp only [shIn, Bool.and_eq_true] at h
    refine hasN_out fun hm => ?_
    rcases List.mem_cons.mp hm with e | e
    · subst e
      have h1 := h.1
      rw [hn] at h1
      simp only [Bool.or_false, Bool.not_eq_true'] at h1
      have : Nat.blt b n = true := Nat.blt_eq.mpr hb
      rw [this] at h1
      cases h1
    · have := shIn_get h.2 b hb hn
      rw [hasN_mem e] at this
      cases this
noncomputable def Part.okQ (p : Part) : Option CR → Bool
  | some (.ret v t) => AV.eqb p.v v && p.v.flat && stand t p.st && AV.unders p.nx0 p.args && blocksBelow p.nx0 p.st
  | _ => false
noncomputable def Part.ownQ (p : Part) : List AV → St → Option CR := fun args s =>
  if AV.eqbs args p.args && shIn p.nx0 p.sh0 s.sh && stand s p.st && glHas s.gl p.gl then some (.ret p.v s) else none

theorem partQ_own {P : Program} {X : Ctx} (hX : CtxOK P X) (hF : ∀ f fn, X.fns.get f = some fn → fnOK fn = true) {own : OwnF} (ho : OwnOK P own) {n : Nat} {f : FuncId} (p : Part)
    (h : p.okQ (evCall X own n f p.args p.st0) = true) : OwnOne P f p.ownQ := by
  intro args s r hr ι w cargs hv hH
  unfold Part.ownQ at hr
  split at hr
  · rename_i hc
    cases hr
    simp only [Bool.and_eq_true] at hc
    obtain ⟨⟨⟨c1, c3⟩, c4⟩, c6⟩ := hc
    have ea := AV.eqbs_eq c1
    subst ea
    unfold Part.okQ at h
    split at h
    · rename_i v t he
      simp only [Bool.and_eq_true] at h
      obtain ⟨⟨⟨⟨q1, q2⟩, q3⟩, q4⟩, q5⟩ := h
      have ev := AV.eqb_eq q1
      have sub : ∀ b x, p.st0.h.get b = some x → s.h.get b = some x ∧ (b, x) ∈ p.st := fun b x hb => by
        rcases putAll_get hb with h1 | ⟨_, h2⟩
        · exact ⟨stand_get c4 b x h1, h1⟩
        · simp [Tr.get_e] at h2
      let ι' : Inj := fun b => if b < p.nx0 then ι b else none
      have hlo : ∀ b, b < p.nx0 → ι' b = ι b := fun b hb => if_pos hb
      have hle : ∀ b x, ι' b = some x → b < p.nx0 ∧ ι b = some x := fun b x hb => by
        by_cases e : b < p.nx0
        · exact ⟨e, by rw [← hlo b e]; exact hb⟩
        · have : ι' b = none := if_neg e
          rw [this] at hb; cases hb
      have ag : Agree p.nx0 ι ι' := fun b hb x hx => by rw [hlo b hb]; exact hx
      have hOwn : ∀ cb, Own ι' p.st0 cb → Own ι s cb := fun cb ⟨b, d, ab, h1, h2⟩ => ⟨b, d, ab, (hle b _ h1).2, (sub b ab h2).1⟩
      have hH0 : HR P ι' p.st0 w := by
        refine ⟨fun g c hg => ?_, fun b cb d hb hs => hH.base b cb d (hle b _ hb).2 (shIn_get c3 b (hle b _ hb).1 hs), fun b x hb => (hle b x hb).1, fun b cb d ab hb hg => BR.agree ag (blocksBelow_get q5 b ab (sub b ab hg).2).2 (hH.br b cb d ab (hle b _ hb).2 (sub b ab hg).1),
          fun b b' cb d d' ab ab' h1 h2 g1 g2 => hH.inj b b' cb d d' ab ab' (hle b _ h1).2 (hle b' _ h2).2 (sub b ab g1).1 (sub b' ab' g2).1⟩
        obtain ⟨x, hx, hxc⟩ := glHas_get c6 g c hg
        obtain ⟨hno, cs, e, fz, h2, h3⟩ := hH.gl g x hx
        exact ⟨fun ho => hno (hOwn g ho), cs, e, fz, h2, fun i v hi => h3 i v (hxc i v hi)⟩
      obtain ⟨e1, e2⟩ := evCall_sound hX hF ho n he (VRs.agree ag q4 hv) hH0
      refine .inl ⟨e1, CallsIn.mono e2 fun e w' hp => ?_⟩
      cases e with
      | panicked c => obtain ⟨v', s'', e, _⟩ := hp; cases e
      | outgrown => exact hp.elim
      | returned cv =>
        obtain ⟨v', t', e, κ, g1, g2, g3⟩ := hp
        cases e
        have hE : Ext ι s w ι s w' := by
          refine ⟨ι.le_refl, g3.size, fun cb hcb ho' => ⟨(g3.keep cb hcb fun h => ho' (hOwn cb h)).1, ho'⟩, fun b hb => rfl, Nat.le_refl _, g3.kin⟩
        have ga : Agree p.nx0 κ ι := fun b hb x hx => by rw [← hlo b hb, ← g3.old b hb]; exact hx
        refine ⟨_, _, rfl, ι, by rw [ev] at q2 ⊢; exact VR.flat q2 g1, ⟨hH.gl.ext hE rfl, hH.base, hH.dom, fun b cb d ab hb hg => ?_, hH.inj⟩, hE⟩
        by_cases hm : (b, ab) ∈ p.st
        · obtain ⟨k1, k2⟩ := blocksBelow_get q5 b ab hm
          exact BR.agree ga k2 (g2.br b cb d ab (by rw [g3.old b k1, hlo b k1]; exact hb) (stand_get q3 b ab hm))
        · have hbr := hH.br b cb d ab hb hg
          refine hbr.frame (g3.keep cb hbr.lt fun ⟨b', d', ab', k1, k2⟩ => hm ?_).1 ι.le_refl
          obtain ⟨k3, k4⟩ := sub b' ab' k2
          have eb := hH.inj b' b cb d' d ab' ab (hle b' _ k1).2 hb k3 hg
          subst eb
          rw [k3] at hg
          cases hg
          exact k4
    · cases h
  · cases hr
end Go.Am
