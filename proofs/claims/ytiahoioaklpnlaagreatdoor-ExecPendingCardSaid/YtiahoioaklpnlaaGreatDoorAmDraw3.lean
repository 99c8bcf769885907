/-
  REGIONS THAT DRAW THEIR ORDER, third part: what is taken, what acts, the whole.
-/
import Derived.Test.YtiahoioaklpnlaaGreatDoorAmDraw2
namespace Go.Am

theorem Ord.done {L : Array Bool} {done : Nat} (hs : ∀ i, L.getD i false = true → bit done i = true) : ∀ {l : List Pend}, (∀ p ∈ l, bit done p.i = true) → Ord L l → ∀ q ∈ l, ∀ e ∈ q.o.after, onB e = true → bit done e.on = true
  | [], _, _, q, hq => by cases hq
  | p :: l, hd, ⟨h1, h2⟩, q, hq => by
    intro e he hb
    rcases List.mem_cons.mp hq with rfl | hq
    · rcases h1 e he hb with h | ⟨q', hq', e'⟩
      · exact hs _ h
      · rw [← e']; exact hd q' (by simp [hq'])
    · exact Ord.done hs (fun p hp => hd p (by simp [hp])) h2 q hq e he hb

/-- What is asked of regions that draw. -/
def DrawSound (P : Program) (X : Ctx) (call : Caller) : Prop :=
  ∀ (ro : Option Nat) (N : Nat) (ops : Array Oper) (fr : Fr) (s : St) (r : EX × Fr × St), N ≤ 1000000000 → ops.toList.all (dstOK N) = true → (ro = none ∨ ops.toList.all quietOp = true) → drawOK ops = true → drawGo X call ops (numbered ops) (ops.size + 1) 0 [] fr s = some r →
    ∀ (ι₀ : Inj) (s₀ : St) (w₀ : World) (ι : Inj) (a : Act) (w : World), FRN N Bare ι fr a → HR P ι s w → Ext ι₀ s₀ w₀ ι s w → wpAnyIn (FE P ro) 0 P .any ops (XPost P N ι₀ s₀ w₀ r) ops.size (Array.replicate ops.size false) a w

section
variable {P : Program} {X : Ctx} (hX : CtxOK P X) {ops : Array Oper} (hdraw : drawOK ops = true) {N : Nat} (hN : N ≤ 1000000000) (hdst : ops.toList.all (dstOK N) = true)
  {ι₀ : Inj} {s₀ : St} {w₀ : World} {done : Nat} {pend : List Pend} {fr : Fr} {s : St} {L : Array Bool} {ι : Inj} {a : Act} {w : World} {Q : Exit → Act → World → Prop} {K : Act → World → Prop}

theorem Fr.put_get {fr : Fr} {dst : Option Nat} {v : AV} {k : Nat} (hd : ∀ d, dst = some d → d ≤ 1000000000) (hk : dst ≠ some k) : (fr.put dst v).t.get k = fr.t.get k := by
  unfold Fr.put
  cases dst with
  | none => rfl
  | some d => exact Tr.get_put_ne (hd d rfl) fun e => hk (by rw [e])
theorem Fr.put_self {fr : Fr} {dst : Option Nat} {v u : AV} {d : Nat} (hd : dst = some d) (h : (fr.put dst v).t.get d = some u) : u = v := by
  subst hd
  rcases Tr.get_put h with ⟨_, e⟩ | ⟨e, _⟩
  · exact e.symm
  · exact absurd rfl e

include hdraw hN hdst in
theorem DI.take_core (h : DI P X ops N ι₀ s₀ w₀ done pend fr s L ι a w) {i : Nat} {o : Oper} (hi : ops[i]? = some o) (hnd : bit done i = false) (hna : acts o = false) (hra : ∀ e ∈ o.after, onB e = true → bit done e.on = true)
    {v : AV} {lay : Option (Nat × AB)} {s' : St} (hle : s.le s') (hnx : s.nx ≤ s'.nx) (hH : HR P ι s' w) (hE : Ext ι₀ s₀ w₀ ι s' w)
    (hnew : (∀ t ∈ o.looksAt ops, (fr.put o.dst v).t.get t = fr.t.get t) → PO P X ops s₀.nx ⟨(fr.put o.dst v).t, fr.d⟩ s' ⟨i, o, v, lay⟩)
    (hout : ∀ b ab, lay = some (b, ab) → ι b = none) (huniq : ∀ b x, lay = some (b, x) → ∀ q ∈ pend, ∀ y, q.laid ≠ some (b, y)) :
    DI P X ops N ι₀ s₀ w₀ (Nat.lor done (Nat.pow 2 i)) (⟨i, o, v, lay⟩ :: pend) ⟨(fr.put o.dst v).t, fr.d⟩ s' L ι a w := by
  have hdo : dstOK N o = true := List.all_eq_true.mp hdst o (by rw [Array.mem_toList_iff]; exact Array.mem_of_getElem? hi)
  have hdb : ∀ d, o.dst = some d → d ≤ 1000000000 := fun d hd => Nat.le_trans (Nat.le_of_lt (dstOK_lt hdo hd)) hN
  have hdone := Ord.done h.sub h.pdone h.ord
  have hne : ∀ q ∈ pend, q.i ≠ i := fun q hq e => by
    have := h.pdone q hq
    rw [e, hnd] at this; cases this
  have hL : L.getD i false = false := by
    cases hl : L.getD i false
    · rfl
    · have := h.sub i hl
      rw [hnd] at this; cases this
  have same : ∀ k, o.dst ≠ some k → (fr.put o.dst v).t.get k = fr.t.get k := fun k hk => Fr.put_get hdb hk
  have lq : ∀ q ∈ pend, ∀ t ∈ q.o.looksAt ops, (fr.put o.dst v).t.get t = fr.t.get t := fun q hq t ht => same t fun e => by
    have hap := (drawOK_apart hdraw hi (h.po q hq).op hna e).2 (fun e => hne q hq e.symm)
    obtain ⟨e', he', hb, hon⟩ := waits_spec.mp (hap.2 ht)
    have := hdone q hq e' he' hb
    rw [hon, hnd] at this; cases this
  have oq : ∀ q ∈ pend, ∀ x ∈ q.o.op.operands, (⟨(fr.put o.dst v).t, fr.d⟩ : Fr).opd x = fr.opd x := fun q hq x hx => opd_same fun t ht => lq q hq t (looks_op hx ht)
  refine ⟨h.size, fun j hj => ?_, fun j hj => ?_, fun j hj => ?_, fun q hq => ?_, fun q hq => ?_, fun q hq b ab hl hql => ?_, fun q hq q' hq' b x y hl hl' => ?_, fun q hq q' hq' e => ?_, ?_, ⟨fun k u hk hu => ?_, h.frame.d, h.frame.n⟩, hH, hE⟩
  · rw [bit_or] at hj
    rcases Bool.or_eq_true_iff.mp hj with hj | hj
    · exact h.rng j hj
    · have : i = j := by simpa using hj
      subst this
      exact (Array.getElem?_eq_some_iff.mp hi).1
  · rw [bit_or, h.sub j hj]; rfl
  · rw [bit_or] at hj
    rcases Bool.or_eq_true_iff.mp hj with hj | hj
    · exact (h.cov j hj).imp id fun ⟨p, hp, e⟩ => ⟨p, by simp [hp], e⟩
    · have : i = j := by simpa using hj
      exact .inr ⟨_, List.mem_cons_self, this⟩
  · rw [bit_or]
    rcases List.mem_cons.mp hq with rfl | hq
    · simp
    · rw [h.pdone q hq]; rfl
  · rcases List.mem_cons.mp hq with rfl | hq
    · refine hnew fun t ht => same t fun e => ?_
      exact (drawOK_apart hdraw hi hi hna e).1 rfl ht
    · have hp := h.po q hq
      refine ⟨hp.op, hp.na, fun d u hd hu => ?_, fun hl => ?_, fun b ab hl => ?_⟩
      · refine hp.slot d u hd ?_
        rw [← same d fun e => ?_]
        · exact hu
        · exact ((drawOK_apart hdraw hp.op hi hp.na hd).2 (hne q hq)).1 e
      · rw [wanted_same (fr := fr) (fr' := ⟨(fr.put o.dst v).t, fr.d⟩) (lq q hq), opAt_congr (oq q hq)]
        refine (hp.plain hl).imp (fun ⟨g1, g2⟩ => ⟨g1, ?_⟩) id
        rcases g2 with g2 | g2
        · exact .inl (opAt_mono hle hp.na g2 (by simp))
        · exact .inr (opAt_mono hle hp.na g2 (by simp))
      · obtain ⟨g1, g2, g3, g4, g5, f, g6, g7⟩ := hp.laid b ab hl
        refine ⟨by rw [wanted_same (fr := fr) (fr' := ⟨(fr.put o.dst v).t, fr.d⟩) (lq q hq)]; exact g1, hle.h _ _ g2, g3, Nat.lt_of_lt_of_le g4 hnx, g5, f, g6, fun ι w a he => g7 ι w a fun x hx => ?_⟩
        rw [← oq q hq x hx]; exact he x hx
  · rcases List.mem_cons.mp hq with rfl | hq
    · exact hout b ab hl
    · exact h.out q hq b ab hl hql
  · rcases List.mem_cons.mp hq with rfl | hq <;> rcases List.mem_cons.mp hq' with rfl | hq'
    · rfl
    · exact absurd hl' (huniq b x hl q' hq' y)
    · exact absurd hl (huniq b y hl' q hq x)
    · exact h.uniq q hq q' hq' b x y hl hl'
  · rcases List.mem_cons.mp hq with rfl | hq <;> rcases List.mem_cons.mp hq' with rfl | hq'
    · rfl
    · exact absurd e.symm (hne q' hq')
    · exact absurd e (hne q hq)
    · exact h.one q hq q' hq' e
  · exact ⟨fun e he hb => h.cov _ (hra e he hb), h.ord⟩
  · have hkd : o.dst ≠ some k := fun e => hk ⟨_, List.mem_cons_self, hL, e⟩
    have hu : (fr.put o.dst v).t.get k = some u := hu
    rw [same k hkd] at hu
    exact h.frame.t k u (fun ⟨p, hp, h1, h2⟩ => hk ⟨p, by simp [hp], h1, h2⟩) hu

include hX hdraw hN hdst in
theorem DI.take (h : DI P X ops N ι₀ s₀ w₀ done pend fr s L ι a w) {i : Nat} {o : Oper} (hi : ops[i]? = some o) (hm : mayTake done i o = true) {p : Pend} {fr' : Fr} {s' : St} (ht : takeIf X i o fr s (wantedAt ops fr o) = some (p, fr', s')) :
    p.i = i ∧ DI P X ops N ι₀ s₀ w₀ (Nat.lor done (Nat.pow 2 i)) (p :: pend) fr' s' L ι a w := by
  simp only [mayTake, Bool.and_eq_true, Bool.not_eq_true'] at hm
  obtain ⟨⟨hnd, hna⟩, hra⟩ := hm
  have hra := readyAt_spec.mp hra
  have hxs : ∀ {v : AV} {x : Operand}, (∀ t ∈ o.looksAt ops, (fr.put o.dst v).t.get t = fr.t.get t) → x ∈ o.op.operands → (⟨(fr.put o.dst v).t, fr.d⟩ : Fr).opd x = fr.opd x := fun hs hx => opd_same fun t ht => hs t (looks_op hx ht)
  have hws : ∀ {v : AV}, (∀ t ∈ o.looksAt ops, (fr.put o.dst v).t.get t = fr.t.get t) → wantedAt ops ⟨(fr.put o.dst v).t, fr.d⟩ o = wantedAt ops fr o := fun hs => wanted_same hs
  unfold takeIf at ht
  split at ht
  · cases ht
  · rename_i hw
    simp only [kT_eq] at ht
    cases ht
    refine ⟨rfl, h.take_core hdraw hN hdst hi hnd hna hra ⟨fun _ _ h => h, rfl⟩ (Nat.le_refl _) h.heap h.ext (fun hs => ⟨hi, hna, fun d u hd hu => Fr.put_self hd hu, fun _ => .inr ⟨?_, rfl⟩, by simp⟩) (by simp) (by simp)⟩
    rw [hws hs]; exact hw
  · rename_i hw
    unfold take1 at ht
    split at ht
    · rename_i v hop
      simp only [kT_eq] at ht
      cases ht
      refine ⟨rfl, h.take_core hdraw hN hdst hi hnd hna hra ⟨fun _ _ h => h, rfl⟩ (Nat.le_refl _) h.heap h.ext (fun hs => ⟨hi, hna, fun d u hd hu => Fr.put_self hd hu, fun _ => .inl ⟨?_, .inl ?_⟩, by simp⟩) (by simp) (by simp)⟩
      · rw [hws hs]; exact hw
      · simp only
        rw [opAt_congr (fun x hx => hxs hs hx)]; exact hop
    · rename_i v hop
      simp only [kT_eq, kV_eq] at ht
      cases ht
      refine ⟨rfl, h.take_core hdraw hN hdst hi hnd hna hra ⟨fun _ _ h => h, rfl⟩ (Nat.le_refl _) h.heap h.ext (fun hs => ⟨hi, hna, fun d u hd hu => Fr.put_self hd hu, fun _ => .inl ⟨?_, .inr ?_⟩, by simp⟩) (by simp) (by simp)⟩
      · rw [hws hs]; exact hw
      · simp only
        rw [opAt_congr (fun x hx => hxs hs hx)]; exact hop
    · rename_i v s1 hop
      split at ht
      · rename_i hnx hfree
        simp only [kS_eq, kV_eq, kT_eq] at ht
        split at ht
        · rename_i ab' hg
          cases ht
          obtain ⟨hl, ab, f, h1, h2⟩ := lay_sound (P := P) hX hop hna
          have he := h1 s
          rw [hop] at he
          simp only [Option.some.injEq, OR.val.injEq] at he
          obtain ⟨rfl, rfl⟩ := he
          have hab : ab = ab' := by
            rcases Tr.get_put hg with ⟨_, e⟩ | ⟨e, _⟩
            · exact e
            · exact absurd rfl e
          subst hab
          have hle : s.le (s.new ab).2 := ⟨fun b x hb => by
            have hne : b ≠ s.nx := fun e => by rw [e, hfree] at hb; cases hb
            show (s.h.put s.nx ab).get b = some x
            rw [Tr.get_put_ne (Nat.ble_eq.mp hnx) hne]; exact hb, rfl⟩
          refine ⟨rfl, h.take_core hdraw hN hdst hi hnd hna hra hle (Nat.le_succ _) (h.heap.ahead ab) (h.ext.ahead h.heap ab) (fun hs => ⟨hi, hna, fun d u hd hu => Fr.put_self hd hu, by simp, fun b x hb => ?_⟩) (fun b x hb => ?_) (fun b x hb q hq y hy => ?_)⟩
          · simp only [Option.some.injEq, Prod.mk.injEq] at hb
            obtain ⟨rfl, rfl⟩ := hb
            refine ⟨by rw [hws hs]; exact hw, hg, h.ext.nx, Nat.lt_succ_self _, hl, f, rfl, fun ι w a he => h2 ι w a fun x hx => ?_⟩
            rw [← hxs hs hx]; exact he x hx
          · simp only [Option.some.injEq, Prod.mk.injEq] at hb
            obtain ⟨rfl, rfl⟩ := hb
            exact h.heap.fresh
          · simp only [Option.some.injEq, Prod.mk.injEq] at hb
            obtain ⟨rfl, rfl⟩ := hb
            have := ((h.po q hq).laid _ _ hy).2.2.2.1
            omega
        · cases ht
      · cases ht
    · cases ht

include hX hdraw hN hdst in
theorem takeAll_spec {r : EX × Fr × St} {k : Nat → List Pend → Fr → St → Option (EX × Fr × St)} : ∀ (l : List (Nat × Oper)), (∀ io ∈ l, ops[io.1]? = some io.2) → ∀ (done : Nat) (pend : List Pend) (fr : Fr) (s : St), takeAll X ops k l done pend fr s = some r →
    ∃ done' pend' fr' s', k done' pend' fr' s' = some r ∧ ∀ L ι a w, DI P X ops N ι₀ s₀ w₀ done pend fr s L ι a w → DI P X ops N ι₀ s₀ w₀ done' pend' fr' s' L ι a w
  | [], _, done, pend, fr, s, h => ⟨done, pend, fr, s, h, fun _ _ _ _ h => h⟩
  | io :: l, hl, done, pend, fr, s, h => by
    unfold takeAll at h
    split at h
    · exact takeAll_spec l (fun io h => hl io (by simp [h])) done pend fr s h
    · rename_i hm
      unfold takeGo at h
      split at h
      · rename_i p fr' s' ht
        simp only [kN_eq] at h
        obtain ⟨d2, p2, f2, s2, g1, g2⟩ := takeAll_spec l (fun io h => hl io (by simp [h])) _ _ _ _ h
        exact ⟨d2, p2, f2, s2, g1, fun L ι a w hd => g2 L ι a w (hd.take hX hdraw hN hdst (hl io (by simp)) hm ht).2⟩
      · cases h

include hX hdraw hN hdst in
/-- One that acts. -/
theorem DI.act {ro : Option Nat} (hq : ro = none ∨ ops.toList.all quietOp = true) {call : Caller} (hC : CallOK P call) (h : DI P X ops N ι₀ s₀ w₀ done pend fr s L ι a w) {i : Nat} {o : Oper} (hi : ops[i]? = some o) (hnd : bit done i = false) (hr : ∀ e ∈ o.after, onB e = true → L.getD e.on false = true)
    {fr1 : Fr} {s1 : St} (h1 : oneOp X call ops o fr s = some (.go fr1 s1)) (hst : (pend.filter fun p => !waitsFor o p.i).all (stands X ops fr1 s1) = true)
    (hk : ∀ ι' a' w', DI P X ops N ι₀ s₀ w₀ (Nat.lor done (Nat.pow 2 i)) (pend.filter fun p => !waitsFor o p.i) fr1 s1 (L.setIfInBounds i true) ι' a' w' → K a' w') : wpOpIn (FE P ro) 0 P ops Q i K a w := by
  have hlt : i < L.size := by rw [h.size]; exact (Array.getElem?_eq_some_iff.mp hi).1
  have hdo : dstOK N o = true := List.all_eq_true.mp hdst o (by rw [Array.mem_toList_iff]; exact Array.mem_of_getElem? hi)
  have hdone := Ord.done h.sub h.pdone h.ord
  have hne : ∀ q ∈ pend, q.i ≠ i := fun q hq e => by
    have := h.pdone q hq
    rw [e, hnd] at this; cases this
  have mono : ∀ j, L.getD j false = true → (L.setIfInBounds i true).getD j false = true := fun j hj => by rw [getD_set hlt, hj]; rfl
  have unl : ∀ j, (L.setIfInBounds i true).getD j false = false → L.getD j false = false ∧ i ≠ j := fun j hj => by
    rw [getD_set hlt] at hj
    simpa using hj
  have waited : ∀ q ∈ pend, waitsFor o q.i = true → L.getD q.i false = true := fun q _ hw => by
    obtain ⟨e, he, hb, hon⟩ := waits_spec.mp hw
    rw [← hon]; exact hr e he hb
  have hqo : ro = none ∨ quietOp o = true := hq.imp id fun hq => List.all_eq_true.mp hq o (by rw [Array.mem_toList_iff]; exact Array.mem_of_getElem? hi)
  refine one_sound hX hC hi h1 h.frame h.heap (h.clear hdraw hi hr) hdo hqo (fun κ a' w' fr' s' e hf hH hE hs => ?_) (fun κ a' w' fr' s' v cv e => by cases e)
  cases e
  have hs := hs hN
  refine hk κ a' w' ⟨by simp [h.size], fun j hj => ?_, fun j hj => ?_, fun j hj => ?_, fun q hq => ?_, fun q hq => ?_, fun q hq b ab hl hql => ?_, fun q hq q' hq' => h.uniq q (List.mem_filter.mp hq).1 q' (List.mem_filter.mp hq').1, fun q hq q' hq' => h.one q (List.mem_filter.mp hq).1 q' (List.mem_filter.mp hq').1,
    Ord.filter (fun p hp hf => mono _ (waited p hp (by simpa using hf))) (h.ord.mono mono), ⟨fun k u hh hu => ?_, hf.d, hf.n⟩, hH, h.ext.trans hE⟩
  · rw [bit_or] at hj
    rcases Bool.or_eq_true_iff.mp hj with hj | hj
    · exact h.rng j hj
    · have : i = j := by simpa using hj
      subst this
      rw [← h.size]; exact hlt
  · rw [getD_set hlt] at hj
    rw [bit_or]
    rcases Bool.or_eq_true_iff.mp hj with hj | hj
    · rw [h.sub j hj]; rfl
    · rw [hj]; simp
  · rw [bit_or] at hj
    rcases Bool.or_eq_true_iff.mp hj with hj | hj
    · rcases h.cov j hj with hj | ⟨q, hq, e⟩
      · exact .inl (mono j hj)
      · cases hw : waitsFor o q.i
        · exact .inr ⟨q, List.mem_filter.mpr ⟨hq, by simp [hw]⟩, e⟩
        · exact .inl (mono j (e ▸ waited q hq hw))
    · exact .inl (by rw [getD_set hlt, hj]; simp)
  · rw [bit_or, h.pdone q (List.mem_filter.mp hq).1]; rfl
  · have hqs := List.all_eq_true.mp hst q hq
    have hq := (List.mem_filter.mp hq).1
    have hp := h.po q hq
    refine ⟨hp.op, hp.na, fun d u hd hu => ?_, fun hl => ?_, fun b ab hl => ?_⟩
    · refine hp.slot d u hd ?_
      rw [← hs d fun e => ((drawOK_apart hdraw hp.op hi hp.na hd).2 (hne q hq)).1 e]
      exact hu
    · unfold stands at hqs
      simp only [hl] at hqs
      split at hqs
      · rename_i hw
        refine .inl ⟨hw, ?_⟩
        unfold standsOp at hqs
        split at hqs
        · rename_i u hu; rw [AV.same_eq hqs] at hu; exact .inl hu
        · rename_i u hu; rw [AV.same_eq hqs] at hu; exact .inr hu
        · cases hqs
      · rename_i hw
        refine .inr ⟨hw, ?_⟩
        split at hqs
        · rename_i hv; exact hv
        · cases hqs
      · cases hqs
    · obtain ⟨g1, g2, g3, g4, g5, f, g6, g7⟩ := hp.laid b ab hl
      have lq : ∀ t ∈ q.o.looksAt ops, fr1.t.get t = fr.t.get t := fun t ht => hs t fun e => by
        obtain ⟨e', he', hb, hon⟩ := waits_spec.mp (drawOK_reads hdraw hp.op hi g5 e (hne q hq) ht)
        have := hdone q hq e' he' hb
        rw [hon, hnd] at this; cases this
      refine ⟨by rw [wanted_same lq]; exact g1, ?_, g3, Nat.lt_of_lt_of_le g4 hE.nx, g5, f, g6, fun ι w a he => g7 ι w a fun x hx => ?_⟩
      · unfold stands standsBlock at hqs
        simp only [hl] at hqs
        split at hqs
        · rename_i y hy; rw [sameAB_eq hqs]; exact hy
        · cases hqs
      · have := opd_same (fr := fr) (fr' := fr1) (x := x) fun t ht => lq t (looks_op hx ht)
        rw [← this]; exact he x hx
  · have hqp := (List.mem_filter.mp hq).1
    rw [hE.old b ((h.po q hqp).laid b ab hl).2.2.2.1]
    exact h.out q hqp b ab hl (unl _ hql).1
  · refine hf.t k u (fun ⟨q, hq, hql, hqd⟩ => hh ⟨q, List.mem_filter.mpr ⟨hq, ?_⟩, ?_, hqd⟩) hu
    · cases hw : waitsFor o q.i
      · rfl
      · rw [waited q hq hw] at hql; cases hql
    · rw [getD_set hlt, hql]
      simp only [Bool.false_or, decide_eq_false_iff_not]
      exact fun e => hne q hq e.symm

include hX hdraw hdst in
theorem DI.act_pan {ro : Option Nat} (hq : ro = none ∨ ops.toList.all quietOp = true) {call : Caller} (hC : CallOK P call) (h : DI P X ops N ι₀ s₀ w₀ done pend fr s L ι a w) {i : Nat} {o : Oper} (hi : ops[i]? = some o) (hr : ∀ e ∈ o.after, onB e = true → L.getD e.on false = true)
    {v : AV} {fr1 : Fr} {s1 : St} (h1 : oneOp X call ops o fr s = some (.pan v fr1 s1)) : wpOpIn (FE P ro) 0 P ops (XPost P N ι₀ s₀ w₀ (.pan v, ⟨.e, fr1.d⟩, s1)) i K a w := by
  have hdo : dstOK N o = true := List.all_eq_true.mp hdst o (by rw [Array.mem_toList_iff]; exact Array.mem_of_getElem? hi)
  have hqo : ro = none ∨ quietOp o = true := hq.imp id fun hq => List.all_eq_true.mp hq o (by rw [Array.mem_toList_iff]; exact Array.mem_of_getElem? hi)
  refine one_sound hX hC hi h1 h.frame h.heap (h.clear hdraw hi hr) hdo hqo (fun κ a' w' fr' s' e => by cases e) (fun κ a' w' fr' s' v cv e hf hH hE hv => ?_)
  cases e
  exact ⟨κ, ⟨fun k u _ hu => (by cases hu), hf.d, hf.n⟩, hH, h.ext.trans hE, cv, rfl, hv⟩

/-- How many did not come up yet. -/
def cnt (L : Array Bool) : Nat := L.toList.countP (! ·)
theorem countP_set : ∀ {l : List Bool} {i : Nat}, l[i]? = some false → (l.set i true).countP (! ·) + 1 = l.countP (! ·)
  | [], i, h => by simp at h
  | x :: l, 0, h => by
    simp at h
    subst h
    simp
  | x :: l, i + 1, h => by
    have := countP_set (l := l) (i := i) (by simpa using h)
    simp only [List.set_cons_succ, List.countP_cons]
    omega
theorem cnt_set {L : Array Bool} {i : Nat} (hi : i < L.size) (h : L.getD i false = false) : cnt (L.setIfInBounds i true) + 1 = cnt L := by
  obtain ⟨l⟩ := L
  have hi : i < l.length := hi
  have h : l[i]? = some false := by
    simp [List.getElem?_eq_getElem hi] at h
    rw [List.getElem?_eq_getElem hi, h]
  simp only [cnt, List.setIfInBounds_toArray]
  exact countP_set h
theorem cnt_zero {L : Array Bool} (h : cnt L = 0) (i : Nat) (hi : i < L.size) : L.getD i false = true := by
  have h := List.countP_eq_zero.mp h
  have := h L[i] (by simp)
  simp [hi] at this ⊢
  exact this

include hX hdraw hN hdst in
theorem draw_main {ro : Option Nat} (hq : ro = none ∨ ops.toList.all quietOp = true) {call : Caller} (hC : CallOK P call) {r : EX × Fr × St} : ∀ (f : Nat) (done : Nat) (pend : List Pend) (fr : Fr) (s : St), drawGo X call ops (numbered ops) f done pend fr s = some r →
    ∀ (fuel : Nat) (L : Array Bool) (ι : Inj) (a : Act) (w : World), cnt L ≤ fuel → DI P X ops N ι₀ s₀ w₀ done pend fr s L ι a w → wpAnyIn (FE P ro) 0 P .any ops (XPost P N ι₀ s₀ w₀ r) fuel L a w := by
  intro f
  induction f with
  | zero => intro done pend fr s h; cases h
  | succ f ih =>
    intro done pend fr s h fuel L ι a w hc hd
    obtain ⟨done, pend, fr, s, hact, hstep⟩ := takeAll_spec (ι₀ := ι₀) (s₀ := s₀) (w₀ := w₀) hX hdraw hN hdst (numbered ops) (fun io hio => numbered_mem.mp hio) _ _ _ _ h
    replace hd := hstep L ι a w hd
    clear hstep h
    have mem : ∀ io, io ∈ readyList (numbered ops) done ↔ ops[io.1]? = some io.2 ∧ bit done io.1 = false ∧ ∀ e ∈ io.2.after, onB e = true → bit done e.on = true := fun io => by
      unfold readyList
      rw [List.mem_filter, numbered_mem]
      simp only [Bool.and_eq_true, Bool.not_eq_true', readyAt_spec]
    have fin : ∀ {L ι a w}, DI P X ops N ι₀ s₀ w₀ done pend fr s L ι a w → Region.ready .any ops L = [] → XPost P N ι₀ s₀ w₀ r .normal a w := fun {L ι a w} hd hr => by
      have hall := Ord.all hd.size hr (fun p hp => (hd.po p hp).op) hd.ord
      have hnil : readyList (numbered ops) done = [] := by
        refine List.eq_nil_iff_forall_not_mem.mpr fun io hio => ?_
        obtain ⟨h1, h2, h3⟩ := (mem io).mp hio
        have : io.1 ∈ Region.ready .any ops L := (ready_iff hd.size).mpr ⟨io.2, h1, ?_, fun e he hb => ?_⟩
        · rw [hr] at this; cases this
        · cases hl : L.getD io.1 false
          · rfl
          · have := hd.sub _ hl
            rw [h2] at this; cases this
        · rcases hd.cov _ (h3 e he hb) with h | ⟨p, hp, e'⟩
          · exact h
          · rw [← e']; exact hall p hp
      rw [hnil] at hact
      cases hact
      exact ⟨ι, ⟨fun k v _ hv => hd.frame.t k v (fun ⟨p, hp, h1, _⟩ => by rw [hall p hp] at h1; cases h1) hv, hd.frame.d, hd.frame.n⟩, hd.heap, hd.ext, trivial⟩
    revert L ι a w
    induction fuel with
    | zero =>
      intro L ι a w hc hd
      have hr : Region.ready .any ops L = [] := by
        refine List.eq_nil_iff_forall_not_mem.mpr fun i hi => ?_
        obtain ⟨o, h1, h2, _⟩ := (ready_iff hd.size).mp hi
        have hlt : i < L.size := by rw [hd.size]; exact (Array.getElem?_eq_some_iff.mp h1).1
        rw [cnt_zero (Nat.le_zero.mp hc) i hlt] at h2; cases h2
      exact ⟨hr, fin hd hr⟩
    | succ fuel ihf =>
      intro L ι a w hc hd
      refine ⟨fin hd, fun i hi => ?_⟩
      obtain ⟨o, h1, h2, h3⟩ := (ready_iff hd.size).mp hi
      have hlt : i < L.size := by rw [hd.size]; exact (Array.getElem?_eq_some_iff.mp h1).1
      have hcs := cnt_set hlt h2
      cases hb : bit done i
      · -- one that acts
        have hio : (i, o) ∈ readyList (numbered ops) done := (mem (i, o)).mpr ⟨h1, hb, fun e he hbe => hd.sub _ (h3 e he hbe)⟩
        unfold actIf at hact
        split at hact
        · rename_i e; rw [e] at hio; cases hio
        · rename_i io e
          rw [e] at hio
          have hio : (i, o) = io := by simpa using hio
          subst hio
          split at hact
          · cases hact
          · unfold actGo at hact
            split at hact
            · rename_i fr1 s1 hop
              split at hact
              · rename_i hst
                simp only [kN_eq] at hact
                exact hd.act hX hdraw hN hdst hq hC h1 hb h3 hop hst fun ι' a' w' hd' => ih _ _ _ _ hact fuel _ ι' a' w' (by omega) hd'
              · cases hact
            · rename_i v fr1 s1 hop
              cases hact
              exact hd.act_pan hX hdraw hdst hq hC h1 h3 hop
            · cases hact
        · cases hact
      · -- one that was taken
        rcases hd.cov i hb with h | ⟨p, hp, e⟩
        · rw [h2] at h; cases h
        · subst e
          have hpo := (hd.po p hp).op
          rw [h1] at hpo
          cases hpo
          exact hd.late hX hdraw hdst hp h2 h3 fun ι' a' w' hd' => ihf _ ι' a' w' (by omega) hd'

include hX in
theorem draw_sound {call : Caller} (hC : CallOK P call) : DrawSound P X call := by
  intro ro N ops fr s r hN hdst hq hdraw h ι₀ s₀ w₀ ι a w hf hH hE
  refine draw_main hX hdraw hN hdst hq hC _ _ _ _ _ h ops.size _ ι a w ?_ ?_
  · simp only [cnt, Array.toList_replicate]
    exact Nat.le_trans List.countP_le_length (by simp)
  · have hr : ∀ i, (Array.replicate ops.size false).getD i false = false := fun i => by
      rw [Array.getD_eq_getD_getElem?, Array.getElem?_replicate]
      split <;> rfl
    refine ⟨by simp, fun i hi => ?_, fun i hi => ?_, fun i hi => ?_, by simp, by simp, by simp, by simp, by simp, trivial, ⟨fun k v _ hv => hf.t k v (fun h => h) hv, hf.d, hf.n⟩, hH, hE⟩
    · rw [bit_zero] at hi; cases hi
    · rw [hr] at hi; cases hi
    · rw [bit_zero] at hi; cases hi
end
end Go.Am
