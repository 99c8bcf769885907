/-
  REGIONS THAT DRAW THEIR ORDER: what does not act was taken as soon as it was ready; what the tape does, in its own order, comes to the same.
-/
import Derived.Test.YtiahoioaklpnlaaGreatDoorAmSame
namespace Go.Am

theorem bit_eq (m i : Nat) : bit m i = m.testBit i := by
  have e1 : m.testBit i = decide (m / 2 ^ i % 2 = 1) := Nat.testBit_eq_decide_div_mod_eq
  have e2 : Nat.shiftRight m i = m / 2 ^ i := Nat.shiftRight_eq_div_pow m i
  rw [e1]
  unfold bit
  rw [e2]
  cases h : decide (m / 2 ^ i % 2 = 1)
  · have h : ¬ m / 2 ^ i % 2 = 1 := by simpa using h
    cases hb : Nat.beq (Nat.mod (m / 2 ^ i) 2) 1
    · rfl
    · exact absurd (Nat.beq_eq.mp hb) h
  · have h : m / 2 ^ i % 2 = 1 := by simpa using h
    exact Nat.beq_eq.mpr h
theorem bit_or (m i j : Nat) : bit (Nat.lor m (Nat.pow 2 i)) j = (bit m j || decide (i = j)) := by
  rw [bit_eq, bit_eq]
  have : Nat.lor m (Nat.pow 2 i) = m ||| 2 ^ i := rfl
  rw [this, Nat.testBit_or, Nat.testBit_two_pow]
theorem bit_zero (j : Nat) : bit 0 j = false := by rw [bit_eq]; simp
theorem onB_binds (e : Edge) : Region.binds .any e = onB e := by
  unfold Region.binds onB
  cases e.ground <;> rfl

section
variable {ops : Array Oper}
theorem numbered_mem {i : Nat} {o : Oper} : (i, o) ∈ numbered ops ↔ ops[i]? = some o := by
  unfold numbered
  simp only [List.mem_map, Prod.mk.injEq, Prod.exists]
  constructor
  · rintro ⟨o', i', h, rfl, rfl⟩
    have := List.mem_zipIdx' h
    obtain ⟨h1, h2⟩ := this
    rw [h2]
    simp
  · intro h
    refine ⟨o, i, ?_, rfl, rfl⟩
    rw [List.mem_zipIdx_iff_getElem?]
    simpa using h
theorem hasD_mem {d : Nat} : ∀ {l : List Nat}, hasD d l = true ↔ d ∈ l
  | [] => by simp [hasD]
  | x :: l => by
    simp only [hasD, Bool.or_eq_true, hasD_mem, List.mem_cons]
    constructor
    · rintro (h | h)
      · exact .inl (Nat.beq_eq.mp h)
      · exact .inr h
    · rintro (h | h)
      · exact .inl (Nat.beq_eq.mpr h)
      · exact .inr h
theorem waits_spec {o : Oper} {i : Nat} : waitsFor o i = true ↔ ∃ e ∈ o.after, onB e = true ∧ e.on = i := by
  unfold waitsFor
  simp only [List.any_eq_true, Bool.and_eq_true, Array.mem_toList_iff]
  constructor
  · rintro ⟨e, h1, h2, h3⟩; exact ⟨e, h1, h2, Nat.beq_eq.mp h3⟩
  · rintro ⟨e, h1, h2, h3⟩; exact ⟨e, h1, h2, Nat.beq_eq.mpr h3⟩
theorem readyAt_spec {done : Nat} {o : Oper} : readyAt done o = true ↔ ∀ e ∈ o.after, onB e = true → bit done e.on = true := by
  unfold readyAt
  simp only [List.all_eq_true, Bool.or_eq_true, Bool.not_eq_true', Array.mem_toList_iff]
  constructor
  · intro h e he hb
    rcases h e he with h | h
    · rw [hb] at h; cases h
    · exact h
  · intro h e he
    cases hb : onB e
    · exact .inl rfl
    · exact .inr (h e he hb)

theorem drawOK_apart (h : drawOK ops = true) {i j d : Nat} {oi oj : Oper} (hi : ops[i]? = some oi) (hj : ops[j]? = some oj) (ha : acts oi = false) (hd : oi.dst = some d) :
    (i = j → d ∉ oj.looksAt ops) ∧ (i ≠ j → oj.dst ≠ some d ∧ (d ∈ oj.looksAt ops → waitsFor oj i = true)) := by
  have h1 := List.all_eq_true.mp h _ (numbered_mem.mpr hi)
  simp only [drawOK1, ha, hd, Bool.false_or, Bool.and_eq_true] at h1
  have h2 := List.all_eq_true.mp h1.1 _ (numbered_mem.mpr hj)
  unfold behind at h2
  split at h2
  · rename_i hij
    have hij := Nat.beq_eq.mp hij
    simp only at hij
    refine ⟨fun _ hm => ?_, fun hne => absurd hij hne⟩
    rw [hasD_mem.mpr hm] at h2; cases h2
  · rename_i hij
    have hij : i ≠ j := fun e => by
      have := Nat.beq_eq.mpr e
      simp only at hij
      rw [this] at hij; cases hij
    refine ⟨fun e => absurd e hij, fun _ => ?_⟩
    simp only [Bool.and_eq_true, Bool.not_eq_true', Bool.or_eq_true] at h2
    refine ⟨fun e => ?_, fun hm => ?_⟩
    · have := h2.1
      simp [isDst, e] at this
    · rcases h2.2 with h3 | h3
      · rw [hasD_mem.mpr hm] at h3; cases h3
      · exact h3
theorem drawOK_reads (h : drawOK ops = true) {i j d : Nat} {oi oj : Oper} (hi : ops[i]? = some oi) (hj : ops[j]? = some oj) (hl : mayLay oi = true) (hd : oj.dst = some d) (hne : i ≠ j) (hm : d ∈ oi.looksAt ops) : waitsFor oi j = true := by
  have h1 := List.all_eq_true.mp h _ (numbered_mem.mpr hi)
  simp only [drawOK1, Bool.and_eq_true, hl, Bool.not_true, Bool.false_or] at h1
  have h2 := List.all_eq_true.mp h1.2 _ (numbered_mem.mpr hj)
  simp only [readsOld, hd, Bool.or_eq_true, Bool.not_eq_true'] at h2
  rcases h2 with h2 | h2 | h2
  · exact absurd (Nat.beq_eq.mp h2) hne
  · rw [hasD_mem.mpr hm] at h2; cases h2
  · exact h2

theorem getD_set {L : Array Bool} {i j : Nat} (hi : i < L.size) : (L.setIfInBounds i true).getD j false = (L.getD j false || decide (i = j)) := by
  by_cases h : i = j
  · subst h; simp [hi]
  · simp [h, Array.getElem?_setIfInBounds_ne h]
theorem ready_iff {L : Array Bool} (hs : L.size = ops.size) {j : Nat} : j ∈ Region.ready .any ops L ↔ ∃ o, ops[j]? = some o ∧ L.getD j false = false ∧ ∀ e ∈ o.after, onB e = true → L.getD e.on false = true := by
  rw [mem_ready]
  constructor
  · rintro ⟨h1, o, h2, h3⟩
    have hlt : j < L.size := by rw [hs]; exact (Array.getElem?_eq_some_iff.mp h2).1
    refine ⟨o, h2, ?_, fun e he hb => h3 e he (by rw [onB_binds]; exact hb)⟩
    simp [hlt] at h1 ⊢; exact h1
  · rintro ⟨o, h2, h1, h3⟩
    have hlt : j < L.size := by rw [hs]; exact (Array.getElem?_eq_some_iff.mp h2).1
    refine ⟨?_, o, h2, fun e he hb => h3 e he (by rw [← onB_binds]; exact hb)⟩
    simp [hlt] at h1 ⊢; exact h1
end

/-- What is laid and comes up late. -/
theorem HR.lay {P : Program} {ι : Inj} {s : St} {w w' : World} (h : HR P ι s w) {b : Nat} {ab : AB} {o : Obj} (z : Nat) (hb : ι b = none) (hlt : b < s.nx) (hg : s.h.get b = some ab) (hh : w'.heap = w.heap.push o) (hbr : ∀ κ, ι.le κ → BR P κ w' w.heap.size (0, z) ab) :
    HR P (ι.at b (w.heap.size, 0, z)) s w' := by
  have hle : ι.le (ι.at b (w.heap.size, 0, z)) := Inj.at_le hb
  have old : ∀ c x, c ≠ b → (ι.at b (w.heap.size, 0, z)) c = some x → ι c = some x := fun c x hc hx => by
    unfold Inj.at at hx; rwa [if_neg hc] at hx
  refine ⟨fun g c hc => ?_, fun c cb d hx hs => ?_, fun c x hx => ?_, fun c cb d ab' hx hg' => ?_, fun c c' cb d d' ab1 ab2 h1 h2 g1 g2 => ?_⟩
  · obtain ⟨h1, cs, e, fz, h2, h3⟩ := h.gl g c hc
    have hlt' := h.gl.lt hc
    refine ⟨?_, cs, e, fz, by rw [hh, heap_push_old hlt']; exact h2, h3⟩
    rintro ⟨b', d', ab', x1, x2⟩
    by_cases e : b' = b
    · subst e; rw [Inj.at_same] at x1; cases x1; omega
    · exact h1 ⟨b', d', ab', old b' _ e x1, x2⟩
  · by_cases e : c = b
    · subst e; rw [Inj.at_same] at hx; cases hx; rfl
    · exact h.base c cb d (old c _ e hx) hs
  · by_cases e : c = b
    · rw [e]; exact hlt
    · exact h.dom c x (old c x e hx)
  · by_cases e : c = b
    · subst e
      rw [Inj.at_same] at hx; cases hx
      rw [hg] at hg'; cases hg'
      exact hbr _ hle
    · have hbr := h.br c cb d ab' (old c _ e hx) hg'
      exact hbr.frame (by rw [hh]; exact heap_push_old hbr.lt) hle
  · by_cases e : c = b <;> by_cases e' : c' = b
    · rw [e, e']
    · subst e; rw [Inj.at_same] at h1; cases h1
      have := (h.br c' _ _ ab2 (old _ _ e' h2) g2).lt; omega
    · subst e'; rw [Inj.at_same] at h2; cases h2
      have := (h.br c _ _ ab1 (old _ _ e h1) g1).lt; omega
    · exact h.inj c c' cb d d' ab1 ab2 (old _ _ e h1) (old _ _ e' h2) g1 g2
theorem Ext.lay {ι₀ ι : Inj} {s₀ s : St} {w₀ w w' : World} (h : Ext ι₀ s₀ w₀ ι s w) {b : Nat} {o : Obj} (z : Nat) (hb : ι b = none) (hlt : s₀.nx ≤ b) (hh : w'.heap = w.heap.push o) (hkin : Kin w w') :
    Ext ι₀ s₀ w₀ (ι.at b (w.heap.size, 0, z)) s w' := by
  refine ⟨Inj.le_trans h.le (Inj.at_le hb), by rw [hh]; have := h.size; simp; omega, fun cb hcb ho => ?_, fun c hc => ?_, h.nx, h.kin.trans hkin⟩
  · obtain ⟨h1, h2⟩ := h.keep cb hcb ho
    refine ⟨by rw [hh, heap_push_old (Nat.lt_of_lt_of_le hcb h.size)]; exact h1, ?_⟩
    rintro ⟨c, d, ab, hx, hg⟩
    by_cases e : c = b
    · subst e; rw [Inj.at_same] at hx; cases hx
      have := h.size; omega
    · unfold Inj.at at hx; rw [if_neg e] at hx
      exact h2 ⟨c, d, ab, hx, hg⟩
  · rw [← h.old c hc]
    unfold Inj.at
    rw [if_neg (by omega)]
/-- A block that only the abstract state has yet. -/
theorem HR.ahead {P : Program} {ι : Inj} {s : St} {w : World} (h : HR P ι s w) (ab : AB) : HR P ι (s.new ab).2 w := by
  have hne : ∀ c x, ι c = some x → c ≠ s.nx := fun c x hx e => by
    have := h.dom c x hx; omega
  have live : ∀ c x ab', ι c = some x → (s.new ab).2.h.get c = some ab' → s.h.get c = some ab' := fun c x ab' hx hg => by
    rcases Tr.get_put hg with ⟨e, _⟩ | ⟨_, hg⟩
    · exact absurd e (hne c x hx)
    · exact hg
  exact ⟨fun g c hc => let ⟨h1, h2⟩ := h.gl g c hc; ⟨fun ⟨b', d', ab', x1, x2⟩ => h1 ⟨b', d', ab', x1, live b' _ _ x1 x2⟩, h2⟩, h.base, fun c x hx => Nat.lt_succ_of_lt (h.dom c x hx), fun c cb d ab' hx hg => h.br c cb d ab' hx (live c _ _ hx hg), fun c c' cb d d' ab1 ab2 h1 h2 g1 g2 => h.inj c c' cb d d' ab1 ab2 h1 h2 (live c _ _ h1 g1) (live c' _ _ h2 g2)⟩
theorem Ext.ahead {P : Program} {ι₀ ι : Inj} {s₀ s : St} {w₀ w : World} (h : Ext ι₀ s₀ w₀ ι s w) (hH : HR P ι s w) (ab : AB) : Ext ι₀ s₀ w₀ ι (s.new ab).2 w := by
  refine ⟨h.le, h.size, fun cb hcb ho => ⟨(h.keep cb hcb ho).1, ?_⟩, h.old, Nat.le_succ_of_le h.nx, h.kin⟩
  rintro ⟨c, d, ab', hx, hg⟩
  have hne : c ≠ s.nx := fun e => by have := hH.dom c _ hx; omega
  rcases Tr.get_put hg with ⟨e, _⟩ | ⟨_, hg⟩
  · exact hne e
  · exact (h.keep cb hcb ho).2 ⟨c, d, ab', hx, hg⟩

end Go.Am
