/-
  REGIONS THAT DRAW THEIR ORDER, second part: the invariant, its steps.
-/
import Derived.Test.YtiahoioaklpnlaaGreatDoorAmDraw
namespace Go.Am

/-- One that was taken, in the state as it is now. -/
structure PO (P : Program) (X : Ctx) (ops : Array Oper) (b0 : Nat) (fr : Fr) (s : St) (p : Pend) : Prop where
  op : ops[p.i]? = some p.o
  na : acts p.o = false
  slot : ∀ d u, p.o.dst = some d → fr.t.get d = some u → u = p.v
  plain : p.laid = none → (wantedAt ops fr p.o = some true ∧ (opAt X p.o fr s = some (.old p.v) ∨ opAt X p.o fr s = some (.pure p.v))) ∨ (wantedAt ops fr p.o = some false ∧ p.v = .tup [])
  laid : ∀ b ab, p.laid = some (b, ab) → wantedAt ops fr p.o = some true ∧ s.h.get b = some ab ∧ b0 ≤ b ∧ b < s.nx ∧ mayLay p.o = true ∧
    ∃ f, p.v = f b ∧ ∀ ι w (a : Act), (∀ x ∈ p.o.op.operands, VR ι (fr.opd x) (a.eval x)) → LayOK P ι w ((execOp a.eval p.o).run P w) ab f

def Hid (L : Array Bool) (pend : List Pend) (k : Nat) : Prop := ∃ p ∈ pend, L.getD p.i false = false ∧ p.o.dst = some k

def Ord (L : Array Bool) : List Pend → Prop
  | [] => True
  | p :: l => (∀ e ∈ p.o.after, onB e = true → L.getD e.on false = true ∨ ∃ q ∈ l, q.i = e.on) ∧ Ord L l

structure DI (P : Program) (X : Ctx) (ops : Array Oper) (N : Nat) (ι₀ : Inj) (s₀ : St) (w₀ : World) (done : Nat) (pend : List Pend) (fr : Fr) (s : St) (L : Array Bool) (ι : Inj) (a : Act) (w : World) : Prop where
  size : L.size = ops.size
  rng : ∀ i, bit done i = true → i < ops.size
  sub : ∀ i, L.getD i false = true → bit done i = true
  cov : ∀ i, bit done i = true → L.getD i false = true ∨ ∃ p ∈ pend, p.i = i
  pdone : ∀ p ∈ pend, bit done p.i = true
  po : ∀ p ∈ pend, PO P X ops s₀.nx fr s p
  out : ∀ p ∈ pend, ∀ b ab, p.laid = some (b, ab) → L.getD p.i false = false → ι b = none
  uniq : ∀ p ∈ pend, ∀ q ∈ pend, ∀ b x y, p.laid = some (b, x) → q.laid = some (b, y) → p.i = q.i
  one : ∀ p ∈ pend, ∀ q ∈ pend, p.i = q.i → p = q
  ord : Ord L pend
  frame : FRN N (Hid L pend) ι fr a
  heap : HR P ι s w
  ext : Ext ι₀ s₀ w₀ ι s w

theorem Ord.mono {L L' : Array Bool} (h : ∀ i, L.getD i false = true → L'.getD i false = true) : ∀ {l : List Pend}, Ord L l → Ord L' l
  | [], _ => trivial
  | _ :: _, ⟨h1, h2⟩ => ⟨fun e he hb => (h1 e he hb).imp (h _) id, h2.mono h⟩
theorem Ord.filter {L : Array Bool} {f : Pend → Bool} : ∀ {l : List Pend}, (∀ p ∈ l, f p = false → L.getD p.i false = true) → Ord L l → Ord L (l.filter f)
  | [], _, _ => trivial
  | p :: l, hf, ⟨h1, h2⟩ => by
    have ih := Ord.filter (f := f) (fun q hq => hf q (by simp [hq])) h2
    rw [List.filter_cons]
    split
    · refine ⟨fun e he hb => ?_, ih⟩
      rcases h1 e he hb with h | ⟨q, hq, e'⟩
      · exact .inl h
      · cases hfq : f q
        · exact .inl (e' ▸ hf q (by simp [hq]) hfq)
        · exact .inr ⟨q, List.mem_filter.mpr ⟨hq, hfq⟩, e'⟩
    · exact ih
/-- Where none is ready, all that were taken came up. -/
theorem Ord.all {ops : Array Oper} {L : Array Bool} (hs : L.size = ops.size) (hr : Region.ready .any ops L = []) : ∀ {l : List Pend}, (∀ p ∈ l, ops[p.i]? = some p.o) → Ord L l → ∀ p ∈ l, L.getD p.i false = true
  | [], _, _, p, hp => by cases hp
  | q :: l, ho, ⟨h1, h2⟩, p, hp => by
    have ih := Ord.all hs hr (fun p hp => ho p (by simp [hp])) h2
    rcases List.mem_cons.mp hp with rfl | hp
    · cases hL : L.getD p.i false
      · have : p.i ∈ Region.ready .any ops L := (ready_iff hs).mpr ⟨p.o, ho p (by simp), hL, fun e he hb => by
          rcases h1 e he hb with h | ⟨q, hq, e'⟩
          · exact h
          · rw [← e']; exact ih q hq⟩
        rw [hr] at this; cases this
      · rfl
    · exact ih p hp

section
variable {P : Program} {X : Ctx} (hX : CtxOK P X) {ops : Array Oper} (hdraw : drawOK ops = true) {N : Nat} (hN : N ≤ 1000000000) (hdst : ops.toList.all (dstOK N) = true)
  {ι₀ : Inj} {s₀ : St} {w₀ : World} {done : Nat} {pend : List Pend} {fr : Fr} {s : St} {L : Array Bool} {ι : Inj} {a : Act} {w : World} {Q : Exit → Act → World → Prop} {K : Act → World → Prop}

theorem opd_same {fr fr' : Fr} {x : Operand} (h : ∀ t, x = .tmp t → fr'.t.get t = fr.t.get t) : fr'.opd x = fr.opd x := by
  cases x with
  | tmp t => simp [Fr.opd, h t rfl]
  | _ => rfl
theorem looks_op {o : Oper} {x : Operand} {t : Nat} (hx : x ∈ o.op.operands) (ht : x = .tmp t) : t ∈ o.looksAt ops := by
  subst ht
  exact List.mem_append_left _ (List.mem_filterMap.2 ⟨.tmp t, by simpa using hx, rfl⟩)
theorem wanted_same {fr fr' : Fr} {o : Oper} (h : ∀ t ∈ o.looksAt ops, fr'.t.get t = fr.t.get t) : wantedAt ops fr' o = wantedAt ops fr o := by
  unfold wantedAt
  cases hg : o.guard with
  | none => rfl
  | some jw =>
    obtain ⟨j, want⟩ := jw
    simp only
    unfold guardAt
    cases hj : ops.toList[j]? with
    | none => rfl
    | some g =>
      simp only
      cases hd : g.dst with
      | none => rfl
      | some d =>
        simp only
        have hj' : ops[j]? = some g := by simpa using hj
        unfold saysAt
        rw [h d (by simp [Oper.looksAt, hg, hj', hd])]

include hdraw in
/-- What is ready looks at nothing that is hidden. -/
theorem DI.clear (h : DI P X ops N ι₀ s₀ w₀ done pend fr s L ι a w) {j : Nat} {o : Oper} (hj : ops[j]? = some o) (hr : ∀ e ∈ o.after, onB e = true → L.getD e.on false = true) : ∀ t ∈ o.looksAt ops, ¬ Hid L pend t := by
  rintro t ht ⟨q, hq, hL, hd⟩
  have hpo := h.po q hq
  have hap := drawOK_apart hdraw hpo.op hj hpo.na hd
  by_cases e : q.i = j
  · exact hap.1 e ht
  · obtain ⟨e', he', hb, hon⟩ := waits_spec.mp ((hap.2 e).2 ht)
    have := hr e' he' hb
    rw [hon, hL] at this; cases this

include hX hdraw hdst in
/-- One that was taken comes up. -/
theorem DI.late {ro : Option Nat} (h : DI P X ops N ι₀ s₀ w₀ done pend fr s L ι a w) {p : Pend} (hp : p ∈ pend) (hL : L.getD p.i false = false) (hr : ∀ e ∈ p.o.after, onB e = true → L.getD e.on false = true)
    (hk : ∀ ι' a' w', DI P X ops N ι₀ s₀ w₀ done pend fr s (L.setIfInBounds p.i true) ι' a' w' → K a' w') : wpOpIn (FE P ro) 0 P ops Q p.i K a w := by
  have hpo := h.po p hp
  have hlt : p.i < L.size := by rw [h.size]; exact h.rng _ (h.pdone p hp)
  have hclr := h.clear hdraw hpo.op hr
  have hdo : dstOK N p.o = true := List.all_eq_true.mp hdst p.o (by rw [Array.mem_toList_iff]; exact Array.mem_of_getElem? hpo.op)
  have he : ∀ x ∈ p.o.op.operands, VR ι (fr.opd x) (a.eval x) := fun x hx => h.frame.opd x fun t ht => hclr t (looks_op hx ht)
  have mono : ∀ i, L.getD i false = true → (L.setIfInBounds p.i true).getD i false = true := fun i hi => by rw [getD_set hlt, hi]; rfl
  have unl : ∀ i, (L.setIfInBounds p.i true).getD i false = false → L.getD i false = false ∧ p.i ≠ i := fun i hi => by
    rw [getD_set hlt] at hi
    simpa using hi
  -- what is left to show: the frame, the heap
  have fin : ∀ {κ : Inj} {cv : Value} {w' : World}, ι.le κ → VR κ p.v cv → HR P κ s w' → Ext ι₀ s₀ w₀ κ s w' → (∀ q ∈ pend, ∀ b ab, q.laid = some (b, ab) → q.i ≠ p.i → L.getD q.i false = false → κ b = none) → K (a.put p.o.dst cv) w' := by
    intro κ cv w' hle hv hH hE hout
    refine hk κ _ w' ⟨by simp [h.size], h.rng, fun i hi => ?_, fun i hi => (h.cov i hi).imp (mono i) id, h.pdone, h.po, fun q hq b ab hl hq' => hout q hq b ab hl (fun e => (unl _ hq').2 e.symm) (unl _ hq').1, h.uniq, h.one, h.ord.mono mono, ⟨fun k u hh hu => ?_, ?_, ?_⟩, hH, hE⟩
    · rw [getD_set hlt] at hi
      rcases Bool.or_eq_true_iff.mp hi with hi | hi
      · exact h.sub i hi
      · have : p.i = i := by simpa using hi
        rw [← this]; exact h.pdone p hp
    · by_cases e : p.o.dst = some k
      · have hkN := dstOK_lt hdo e
        have := hpo.slot k u e hu
        subst this
        rw [e, put_some]
        exact ⟨cv, by simp only; rw [Array.getElem?_setIfInBounds_self_of_lt (Nat.lt_of_lt_of_le hkN h.frame.n)], hv⟩
      · have hnh : ¬ Hid L pend k := fun ⟨q, hq, hql, hqd⟩ => by
          refine hh ⟨q, hq, ?_, hqd⟩
          rw [getD_set hlt, hql]
          simp only [Bool.false_or, decide_eq_false_iff_not]
          intro e'
          have := h.one p hp q hq e'
          subst this
          exact e hqd
        obtain ⟨c, h1, h2⟩ := h.frame.t k u hnh hu
        refine ⟨c, ?_, h2.mono hle⟩
        cases hd : p.o.dst with
        | none => exact h1
        | some d =>
          rw [put_some]
          simp only
          rw [Array.getElem?_setIfInBounds_ne (fun e' => e (by rw [hd, e']))]
          exact h1
    · have := h.frame.d.mono hle
      cases p.o.dst <;> exact this
    · have := h.frame.n
      cases p.o.dst
      · exact this
      · simpa [put_some] using this
  have hsem : p.o.semAt (FE P ro).round a.eval = execOp a.eval p.o := Oper.semAt_eq _ _ _ fun c hc => by
    have := hpo.na
    simp [acts, hc] at this
  unfold wpOpIn
  simp only [hpo.op]
  cases hl : p.laid with
  | none =>
    rcases hpo.plain hl with ⟨hw, hop⟩ | ⟨hw, hv⟩
    · have hw := says_spec hw h.frame hclr
      simp only [hw, if_true]
      refine ⟨about_na hpo.na, ?_⟩
      rw [hsem]
      have : ∃ cv, (execOp a.eval p.o).run P w = .ok (.value cv) w ∧ VR ι p.v cv := by
        rcases hop with hop | hop
        · exact opAt_sound hX hop h.heap he
        · exact opAt_sound hX hop h.heap he
      obtain ⟨cv, h1, h2⟩ := this
      rw [h1]
      exact fin ι.le_refl h2 h.heap h.ext fun q hq b ab hl _ hql => h.out q hq b ab hl hql
    · have hw := says_spec hw h.frame hclr
      simp only [hw, Bool.false_eq_true, if_false]
      exact ⟨about_na hpo.na, fin ι.le_refl (by rw [hv]; simp [undef, VR, VRs]) h.heap h.ext fun q hq b ab hl _ hql => h.out q hq b ab hl hql⟩
  | some bx =>
    obtain ⟨b, ab⟩ := bx
    obtain ⟨hw, hg, hb0, hbs, _, f, hv, hlay⟩ := hpo.laid b ab hl
    have hw := says_spec hw h.frame hclr
    simp only [hw, if_true]
    refine ⟨about_na hpo.na, ?_⟩
    rw [hsem]
    obtain ⟨o, z, cv, w', h1, h2, h5, h3, h4⟩ := hlay ι w a he
    rw [h1]
    have hb := h.out p hp b ab hl hL
    refine fin (Inj.at_le hb) ?_ (h.heap.lay z hb hbs hg h2 h3) (h.ext.lay z hb hb0 h2 h5) fun q hq b' ab' hl' hne hql => ?_
    · rw [hv]; exact h4 _ _ (Inj.at_same _ _ _)
    · have hbb : b' ≠ b := fun e => by subst e; exact hne (h.uniq q hq p hp b' ab' ab hl' hl)
      unfold Inj.at
      rw [if_neg hbb]
      exact h.out q hq b' ab' hl' hql

end
end Go.Am
