/-
  THE ABSTRACT HEAP AGAINST THE MODEL's: what is kept when a block is laid, written, forgotten.
-/
import Derived.Test.YtiahoioaklpnlaaGreatDoorAmRel
namespace Go.Am
variable {P : Program}

/-- Two keys' entry against the model's. -/
def ER (ι : Inj) (p : AV × AV) (e : MapEntry) : Prop := VR ι p.1 e.key ∧ VR ι p.2 e.val
inductive ERs (ι : Inj) : List (AV × AV) → List MapEntry → Prop
  | nil : ERs ι [] []
  | cons {p : AV × AV} {e : MapEntry} {es : List (AV × AV)} {l : List MapEntry} : ER ι p e → ERs ι es l → ERs ι (p :: es) (e :: l)
theorem ERs.mono {ι κ : Inj} (h : ι.le κ) {es : List (AV × AV)} {l : List MapEntry} (hr : ERs ι es l) : ERs κ es l := by
  induction hr with
  | nil => exact .nil
  | cons h1 _ ih => exact .cons ⟨h1.1.mono h, h1.2.mono h⟩ ih
/-- No two keys are one, and of each two it can be told. -/
def KD (es : List (AV × AV)) : Prop := es.Pairwise fun p q => keyEq p.1 q.1 = some false

/-- How far a range over a function is, here and there. -/
def LR : LSt → Loop → Prop
  | .ready, r => r.state = .ready ∧ r.pending = none
  | .busy, r => r.state = .busy
  | .done c, r => r.state = .done ∧ r.pending = some c
/-- What an abstract block says of the model's block number 'cb', from 'd' on. -/
def BR (P : Program) (ι : Inj) (w : World) (cb : Nat) (d : Nat × Nat) : AB → Prop
  | .cells c n => ∃ cs e fz, w.heap[cb]? = some (.cells cs e fz) ∧ (∀ j, j < d.2 → j < cs.size ∧ ¬ (fz.1 ≤ j ∧ j < fz.2)) ∧ ∀ i v, c.get i = some v → i < n ∧ d.1 + i < d.2 ∧ ∃ cv, cs[d.1 + i]? = some cv ∧ VR ι v cv
  | .map es => d = (0, 0) ∧ KD es ∧ ∃ l clock, w.heap[cb]? = some (.map l clock) ∧ (∃ l', l'.Perm l.toList ∧ ERs ι es l') ∧ (l.toList.map (·.born)).Nodup ∧ ∀ e ∈ l.toList, e.born < clock
  | .loop t ps as bd st => d = (0, 0) ∧ ∃ r N, w.heap[cb]? = some (.loop r) ∧ (∃ f, P.funcs[r.fn]? = some f) ∧ r.params.toList = ps ∧ r.assign = as ∧ r.body = bd ∧ LR st r ∧ N ≤ r.tmps.size ∧ N ≤ 1000000000 ∧ codeOK N as = true ∧ codeOK N bd = true ∧ quiet as = true ∧ quiet bd = true ∧ (∀ p ∈ ps, p < N) ∧ ∀ k v, t.get k = some v → ∃ cv, r.tmps[k]? = some cv ∧ VR ι v cv
  | .dfr => d = (0, 0) ∧ w.heap[cb]? = some (.deferred (some []))

theorem BR.some {ι : Inj} {w : World} {cb : Nat} {d : Nat × Nat} {ab : AB} (h : BR P ι w cb d ab) : ∃ o, w.heap[cb]? = some o := by
  cases ab with
  | cells c n => obtain ⟨cs, e, fz, h1, _⟩ := h; exact ⟨_, h1⟩
  | map es => obtain ⟨_, _, l, k, h1, _⟩ := h; exact ⟨_, h1⟩
  | loop t ps as bd st => obtain ⟨_, r, N, h1, _⟩ := h; exact ⟨_, h1⟩
  | dfr => exact ⟨_, h.2⟩
theorem BR.lt {ι : Inj} {w : World} {cb : Nat} {d : Nat × Nat} {ab : AB} (h : BR P ι w cb d ab) : cb < w.heap.size := by
  obtain ⟨o, ho⟩ := h.some
  rcases Nat.lt_or_ge cb w.heap.size with h | h
  · exact h
  · rw [Array.getElem?_eq_none h] at ho; cases ho
theorem BR.frame {ι κ : Inj} {w w' : World} {cb : Nat} {d : Nat × Nat} {ab : AB} (h : BR P ι w cb d ab) (hk : w'.heap[cb]? = w.heap[cb]?) (hl : ι.le κ) : BR P κ w' cb d ab := by
  cases ab with
  | cells c n =>
    obtain ⟨cs, e, fz, h1, h0, h2⟩ := h
    refine ⟨cs, e, fz, hk.trans h1, h0, fun i v hv => ?_⟩
    obtain ⟨a, b, cv, c, d⟩ := h2 i v hv
    exact ⟨a, b, cv, c, d.mono hl⟩
  | map es =>
    obtain ⟨h0, hd, l, k, h1, ⟨l', hp, hr⟩, h3⟩ := h
    exact ⟨h0, hd, l, k, hk.trans h1, ⟨l', hp, hr.mono hl⟩, h3⟩
  | loop t ps as bd st =>
    obtain ⟨h0, r, N, h1, hx, h2, h3, h4, h5, h6, h7, h8, h9, h10, h11, h13, h12⟩ := h
    exact ⟨h0, r, N, hk.trans h1, hx, h2, h3, h4, h5, h6, h7, h8, h9, h10, h11, h13, fun k v hv => let ⟨cv, a, b⟩ := h12 k v hv; ⟨cv, a, b.mono hl⟩⟩
  | dfr => exact ⟨h.1, hk.trans h.2⟩

def Own (ι : Inj) (s : St) (cb : Nat) : Prop := ∃ b d ab, ι b = some (cb, d) ∧ s.h.get b = some ab
def Inj.nil : Inj := fun _ => none
theorem Inj.nil_le (ι : Inj) : Inj.nil.le ι := fun _ _ h => by cases h
/-- The package-level variables that are known: nobody's own; their cells. -/
def GL (ι : Inj) (s : St) (w : World) : Prop := ∀ g c, s.gl.get g = some c → ¬ Own ι s g ∧ ∃ cs e fz, w.heap[g]? = some (.cells cs e fz) ∧ ∀ i v, c.get i = some v → ∃ cv, cs[i]? = some cv ∧ VR Inj.nil v cv
theorem GL.lt {ι : Inj} {s : St} {w : World} (h : GL ι s w) {g : Nat} {c : Tr AV} (hg : s.gl.get g = some c) : g < w.heap.size := by
  obtain ⟨_, cs, e, fz, h1, _⟩ := h g c hg
  exact (Array.getElem?_eq_some_iff.mp h1).1

structure HR (P : Program) (ι : Inj) (s : St) (w : World) : Prop where
  gl : GL ι s w
  base : ∀ b cb d, ι b = some (cb, d) → hasN b s.sh = false → d.1 = 0
  dom : ∀ b x, ι b = some x → b < s.nx
  br : ∀ b cb d ab, ι b = some (cb, d) → s.h.get b = some ab → BR P ι w cb d ab
  inj : ∀ b b' cb d d' ab ab', ι b = some (cb, d) → ι b' = some (cb, d') → s.h.get b = some ab → s.h.get b' = some ab' → b = b'


/-- What is no memory stays. -/
def Kin (w v : World) : Prop := v.os = w.os ∧ v.output = w.output
theorem Kin.refl (w : World) : Kin w w := ⟨rfl, rfl⟩
theorem Kin.trans {w v u : World} (h : Kin w v) (h' : Kin v u) : Kin w u := ⟨h'.1.trans h.1, h'.2.trans h.2⟩

/-- What lies there and is not the state's own stays as it was. -/
structure Ext (ι : Inj) (s : St) (w : World) (κ : Inj) (t : St) (v : World) : Prop where
  le : ι.le κ
  size : w.heap.size ≤ v.heap.size
  keep : ∀ cb, cb < w.heap.size → ¬ Own ι s cb → v.heap[cb]? = w.heap[cb]? ∧ ¬ Own κ t cb
  old : ∀ b, b < s.nx → κ b = ι b
  nx : s.nx ≤ t.nx
  kin : Kin w v

theorem GL.ext {ι κ : Inj} {s t : St} {w v : World} (h : GL ι s w) (he : Ext ι s w κ t v) (hg : t.gl = s.gl) : GL κ t v := fun g c hc => by
  rw [hg] at hc
  obtain ⟨h1, cs, e, fz, h2, h3⟩ := h g c hc
  obtain ⟨k1, k2⟩ := he.keep g (h.lt hc) h1
  exact ⟨k2, cs, e, fz, k1.trans h2, h3⟩
theorem Ext.refl (ι : Inj) (s : St) (w : World) : Ext ι s w ι s w := ⟨ι.le_refl, Nat.le_refl _, fun _ _ h => ⟨rfl, h⟩, fun _ _ => rfl, Nat.le_refl _, Kin.refl _⟩
theorem Ext.trans {ι κ μ : Inj} {s t u : St} {w v x : World} (h : Ext ι s w κ t v) (h' : Ext κ t v μ u x) : Ext ι s w μ u x :=
  ⟨Inj.le_trans h.le h'.le, Nat.le_trans h.size h'.size, fun cb hcb ho =>
    let ⟨a, b⟩ := h.keep cb hcb ho
    let ⟨c, d⟩ := h'.keep cb (Nat.lt_of_lt_of_le hcb h.size) b
    ⟨c.trans a, d⟩, fun b hb => (h'.old b (Nat.lt_of_lt_of_le hb h.nx)).trans (h.old b hb), Nat.le_trans h.nx h'.nx, h.kin.trans h'.kin⟩
theorem Ext.heap {ι : Inj} {s : St} {w v : World} (h : v.heap = w.heap) (hk : Kin w v) : Ext ι s w ι s v := ⟨ι.le_refl, by rw [h]; exact Nat.le_refl _, fun _ _ ho => ⟨by rw [h], ho⟩, fun _ _ => rfl, Nat.le_refl _, hk⟩

section
variable {ι : Inj} {s : St} {w w' : World}
theorem HR.heap (h : HR P ι s w) (he : w'.heap = w.heap) : HR P ι s w' :=
  ⟨fun g c hc => let ⟨h1, cs, e, fz, h2, h3⟩ := h.gl g c hc; ⟨h1, cs, e, fz, by rw [he]; exact h2, h3⟩, h.base, h.dom, fun b cb d ab h1 h2 => (h.br b cb d ab h1 h2).frame (by rw [he]) ι.le_refl, h.inj⟩

/-- A new block. -/
def Inj.at (ι : Inj) (b : Nat) (x : Nat × Nat × Nat) : Inj := fun c => if c = b then some x else ι c
theorem Inj.at_same (ι : Inj) (b : Nat) (x : Nat × Nat × Nat) : ι.at b x b = some x := by simp [Inj.at]
theorem Inj.at_le {b : Nat} {x : Nat × Nat × Nat} (h : ι b = none) : ι.le (ι.at b x) := fun c y hc => by
  unfold Inj.at
  by_cases e : c = b
  · subst e; rw [h] at hc; cases hc
  · rw [if_neg e]; exact hc
theorem HR.fresh (h : HR P ι s w) : ι s.nx = none := by
  cases hx : ι s.nx with
  | none => rfl
  | some x => exact absurd (h.dom _ _ hx) (Nat.lt_irrefl _)

theorem heap_push_old {w : World} {o : Obj} {cb : Nat} (h : cb < w.heap.size) : (w.heap.push o)[cb]? = w.heap[cb]? := by
  rw [Array.getElem?_push]; split
  · omega
  · rfl
theorem heap_push_new {w : World} {o : Obj} : (w.heap.push o)[w.heap.size]? = some o := by simp

/-- A block is laid: by the state at its next number, by the model at its heap's end. -/
theorem HR.new (h : HR P ι s w) {ab : AB} {o : Obj} (z : Nat) (hh : w'.heap = w.heap.push o) (hkin : Kin w w') (hb : ∀ κ, ι.le κ → BR P κ w' w.heap.size (0, z) ab) :
    HR P (ι.at s.nx (w.heap.size, 0, z)) (s.new ab).2 w' ∧ Ext ι s w (ι.at s.nx (w.heap.size, 0, z)) (s.new ab).2 w' := by
  have hle : ι.le (ι.at s.nx (w.heap.size, 0, z)) := Inj.at_le h.fresh
  have old : ∀ b x, b ≠ s.nx → (ι.at s.nx (w.heap.size, 0, z)) b = some x → ι b = some x := fun b x hb hx => by
    unfold Inj.at at hx; rwa [if_neg hb] at hx
  have live : ∀ b ab', (s.new ab).2.h.get b = some ab' → (b = s.nx ∧ ab = ab') ∨ (b ≠ s.nx ∧ s.h.get b = some ab') := fun b ab' hg => Tr.get_put hg
  suffices hE : Ext ι s w (ι.at s.nx (w.heap.size, 0, z)) (s.new ab).2 w' by
    refine ⟨⟨h.gl.ext hE rfl, fun b cb d hx hs => ?_, fun b x hx => ?_, fun b cb d ab' hx hg => ?_, fun b b' cb d d' ab1 ab2 h1 h2 g1 g2 => ?_⟩, hE⟩
    · by_cases e : b = s.nx
      · subst e; rw [Inj.at_same] at hx; cases hx; rfl
      · exact h.base b cb d (old b _ e hx) hs
    · show b < s.nx + 1
      by_cases e : b = s.nx
      · omega
      · have := h.dom b x (old b x e hx); omega
    · rcases live b ab' hg with ⟨e, e'⟩ | ⟨e, hg⟩
      · subst e; subst e'
        rw [Inj.at_same] at hx; cases hx
        exact hb _ hle
      · have hx := old b _ e hx
        have hbr := h.br b cb d ab' hx hg
        exact hbr.frame (by rw [hh]; exact heap_push_old hbr.lt) hle
    · rcases live b ab1 g1 with ⟨e, _⟩ | ⟨e, g1⟩ <;> rcases live b' ab2 g2 with ⟨e', _⟩ | ⟨e', g2⟩
      · rw [e, e']
      · subst e; rw [Inj.at_same] at h1; cases h1
        have := (h.br b' _ _ ab2 (old _ _ e' h2) g2).lt; omega
      · subst e'; rw [Inj.at_same] at h2; cases h2
        have := (h.br b _ _ ab1 (old _ _ e h1) g1).lt; omega
      · exact h.inj b b' cb d d' ab1 ab2 (old _ _ e h1) (old _ _ e' h2) g1 g2
  refine ⟨hle, by rw [hh]; simp, fun cb hcb ho => ⟨by rw [hh]; exact heap_push_old hcb, ?_⟩, fun b hb => by unfold Inj.at; rw [if_neg (by omega)], Nat.le_succ _, hkin⟩
  · rintro ⟨b, d, ab', hx, hg⟩
    rcases live b ab' hg with ⟨e, _⟩ | ⟨e, hg⟩
    · subst e; rw [Inj.at_same] at hx; cases hx; omega
    · exact ho ⟨b, d, ab', old _ _ e hx, hg⟩

/-- A live block is written: nothing else turns. -/
theorem HR.put (h : HR P ι s w) {b cb : Nat} {d : Nat × Nat} {ab ab' : AB} (hb : ι b = some (cb, d)) (hg : s.h.get b = some ab) (hkin : Kin w w') (hsz : w'.heap.size = w.heap.size)
    (hk : ∀ c, c ≠ cb → w'.heap[c]? = w.heap[c]?) (hn : BR P ι w' cb d ab') :
    HR P ι { s with h := s.h.put b ab' } w' ∧ Ext ι s w ι { s with h := s.h.put b ab' } w' := by
  suffices hE : Ext ι s w ι { s with h := s.h.put b ab' } w' by
    refine ⟨⟨h.gl.ext hE rfl, h.base, h.dom, fun c cc dd ab1 hx hg1 => ?_, fun c c' cc dd dd' ab1 ab2 h1 h2 g1 g2 => ?_⟩, hE⟩
    · rcases Tr.get_put hg1 with ⟨e, e'⟩ | ⟨e, hg1⟩
      · subst e; subst e'; rw [hb] at hx; cases hx; exact hn
      · have : cc ≠ cb := fun e' => e (h.inj c b cc dd d ab1 ab hx (e' ▸ hb) hg1 hg)
        exact (h.br c cc dd ab1 hx hg1).frame (hk cc this) ι.le_refl
    · have l1 : ∃ ab, s.h.get c = some ab := by
        rcases Tr.get_put g1 with ⟨e, _⟩ | ⟨_, g⟩
        · exact ⟨ab, e ▸ hg⟩
        · exact ⟨_, g⟩
      have l2 : ∃ ab, s.h.get c' = some ab := by
        rcases Tr.get_put g2 with ⟨e, _⟩ | ⟨_, g⟩
        · exact ⟨ab, e ▸ hg⟩
        · exact ⟨_, g⟩
      obtain ⟨a1, l1⟩ := l1; obtain ⟨a2, l2⟩ := l2
      exact h.inj c c' cc dd dd' a1 a2 h1 h2 l1 l2
  refine ⟨ι.le_refl, by rw [hsz]; exact Nat.le_refl _, fun c hc ho => ⟨hk c ?_, ?_⟩, fun _ _ => rfl, Nat.le_refl _, hkin⟩
  · intro e; subst e; exact ho ⟨b, d, ab, hb, hg⟩
  · rintro ⟨c', dd, ab1, hx, hg1⟩
    rcases Tr.get_put hg1 with ⟨e, _⟩ | ⟨_, hg1⟩
    · subst e; exact ho ⟨c', dd, ab, hx, hg⟩
    · exact ho ⟨c', dd, ab1, hx, hg1⟩

theorem hasN_tail {b a : Nat} {l : List Nat} (h : hasN b (a :: l) = false) : b ≠ a ∧ hasN b l = false := by
  unfold hasN at h
  split at h
  · cases h
  · rename_i hne; exact ⟨fun e => by rw [e] at hne; simp at hne, h⟩
theorem HR.shift (h : HR P ι s w) (b : Nat) : HR P ι { s with sh := b :: s.sh } w :=
  ⟨h.gl, fun c cb d hx hs => h.base c cb d hx (hasN_tail hs).2, h.dom, h.br, h.inj⟩
/-- A block is forgotten. -/
theorem HR.del (h : HR P ι s w) (b : Nat) : HR P ι { s with h := s.h.del b } w :=
  ⟨fun g c hc => let ⟨h1, h2⟩ := h.gl g c hc; ⟨fun ⟨b', d', ab', x1, x2⟩ => h1 ⟨b', d', ab', x1, (Tr.get_del x2).2⟩, h2⟩, h.base, h.dom, fun c cc dd ab1 hx hg1 => h.br c cc dd ab1 hx (Tr.get_del hg1).2, fun c c' cc dd dd' ab1 ab2 h1 h2 g1 g2 => h.inj c c' cc dd dd' ab1 ab2 h1 h2 (Tr.get_del g1).2 (Tr.get_del g2).2⟩
end

theorem St.cells_spec {s : St} {b : Nat} {c : Tr AV} {n : Nat} (h : s.cells b = some (c, n)) : s.h.get b = some (.cells c n) := by
  unfold St.cells at h
  split at h
  · rename_i c' n' hg; cases h; exact hg
  · cases h
theorem HR.cells {ι : Inj} {s : St} {w : World} (h : HR P ι s w) {b cb : Nat} {d : Nat × Nat} {c : Tr AV} {n : Nat} (hb : ι b = some (cb, d)) (hg : s.cells b = some (c, n)) :
    ∃ cs e fz, w.heap[cb]? = some (.cells cs e fz) ∧ (∀ j, j < d.2 → j < cs.size ∧ ¬ (fz.1 ≤ j ∧ j < fz.2)) ∧ ∀ i v, c.get i = some v → i < n ∧ d.1 + i < d.2 ∧ ∃ cv, cs[d.1 + i]? = some cv ∧ VR ι v cv :=
  h.br b cb d _ hb (St.cells_spec hg)

end Go.Am
