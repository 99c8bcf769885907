/-
  TABLES, LOADS, STORES, NEW BLOCKS of the abstract machine against the model's.
-/
import Derived.Test.YtiahoioaklpnlaaGreatDoorAmHeap
import Derived.Laws.Cells
import Derived.Laws.Entries
import Derived.Laws.World
namespace Go.Am

/-- The tables are the program's. -/
structure CtxOK (P : Program) (X : Ctx) : Prop where
  fns : ∀ f fn, X.fns.get f = some fn → P.funcs[f]? = some fn
  tys : ∀ t i, X.tys.get t = some i → P.info? t = some i
  eqs : ∀ t, hasN t X.eqs = true → P.stoodInHeld t = false ∧ P.eqGuardType P.depth t = false
  mixed : P.follows .mixedOrders = true

section
variable {P : Program}
theorem tys_of {eqs : List TypeId} {t : TypeId} {i : TypeInfo} (h : (Ctx.of P eqs).tys.get t = some i) : P.info? t = some i := by
  have := Tr.get_of (l := P.types.toList) h
  have h1 : P.types[t]? = some i := by simpa using this
  have h2 : t < P.types.size := by
    rcases Nat.lt_or_ge t P.types.size with h' | h'
    · exact h'
    · rw [Array.getElem?_eq_none h'] at h1; cases h1
  rw [Tables.info?, if_pos h2]; exact h1
theorem fns_of {eqs : List TypeId} {f : FuncId} {fn : Func} (h : (Ctx.of P eqs).fns.get f = some fn) : P.funcs[f]? = some fn := by
  have := Tr.get_of (l := P.funcs.toList) h
  simpa using this
theorem CtxOK.of {eqs : List TypeId} (he : ∀ t, hasN t eqs = true → P.stoodInHeld t = false ∧ P.eqGuardType P.depth t = false) (hm : P.follows .mixedOrders = true) : CtxOK P (Ctx.of P eqs) :=
  ⟨fun _ _ h => fns_of h, fun _ _ h => tys_of h, he, hm⟩
variable {X : Ctx} (hX : CtxOK P X)
include hX
theorem tys_spec {t : TypeId} {i : TypeInfo} (h : X.tys.get t = some i) : P.info? t = some i := hX.tys t i h
theorem und_spec {t : TypeId} {d : TypeDesc} (h : X.und t = some d) : P.underlying t = some d := by
  unfold Ctx.und at h
  unfold Program.underlying
  split at h
  · rename_i i hi
    have hi := tys_spec hX hi
    split at h
    · rename_i u hd
      split at h
      · rename_i j hj
        have hj := tys_spec hX hj
        cases h
        obtain ⟨desc, a1, a2, a3, a4, a5, a6, a7, a8, a9⟩ := i
        simp only at hd
        subst hd
        simp [hi, hj]
      · cases h
    · rename_i hne
      cases h
      obtain ⟨desc, a1, a2, a3, a4, a5, a6, a7, a8, a9⟩ := i
      rw [hi]
      split
      · rename_i heq; simp only [Option.some.injEq, TypeInfo.mk.injEq] at heq
        exact absurd heq.1 (hne _ _)
      · rename_i heq; cases heq; rfl
      · rename_i heq; cases heq
  · cases h
theorem run_und {t : TypeId} {d : TypeDesc} (h : X.und t = some d) (w : World) : (underlying t).run P w = .ok d w := run_underlying (und_spec hX h) w
theorem run_typeInfo {t : TypeId} {i : TypeInfo} (h : X.tys.get t = some i) (w : World) : (typeInfo t).run P w = .ok i w := by
  simp [typeInfo, tys_spec hX h]
omit hX in
theorem size_spec {t : TypeId} {n : Nat} (h : X.size t = some n) : ∃ i, X.tys.get t = some i ∧ i.size = n := by
  unfold Ctx.size at h
  split at h
  · rename_i i hi; cases h; exact ⟨i, hi, rfl⟩
  · cases h
omit hX in
theorem elem_spec {t : TypeId} {n : Nat} (h : X.elem t = some n) : ∃ i, X.tys.get t = some i ∧ i.size = n ∧ i.bytes ≤ 1048576 ∧ 1 ≤ n ∧ ∃ z, i.zero = some z ∧ z.cells.size = n := by
  unfold Ctx.elem at h
  split at h
  · rename_i i hi
    split at h
    · rename_i z hz
      split at h
      · rename_i hc
        simp only [Bool.and_eq_true] at hc
        cases h; exact ⟨i, hi, rfl, Nat.ble_eq.mp hc.1.1, Nat.ble_eq.mp hc.1.2, z, hz, Nat.beq_eq.mp hc.2⟩
      · cases h
    · cases h
  · cases h
omit hX in
theorem elem_size {t : TypeId} {n : Nat} (h : X.elem t = some n) : X.size t = some n := by
  obtain ⟨i, hi, rfl, _⟩ := elem_spec h
  simp [Ctx.size, hi]
theorem run_size {t : TypeId} {n : Nat} (h : X.size t = some n) (w : World) : (sizeOf t).run P w = .ok n w := by
  obtain ⟨i, hi, rfl⟩ := size_spec h
  simp [sizeOf, run_typeInfo hX hi]
theorem run_isAgg {t : TypeId} {d : TypeDesc} (h : X.und t = some d) (w : World) : (isAgg t).run P w = .ok (isAggD d) w := by
  simp only [isAgg, Sem.run_bind, run_und hX h, Result.andThen_ok]
  cases d <;> rfl
theorem run_zero {t : TypeId} {z : AV} (h : X.zero t = some z) (w : World) : ∃ cz, (zeroValue t).run P w = .ok cz w ∧ z = ofV cz := by
  unfold Ctx.zero at h
  split at h
  · rename_i i hi
    split at h
    · rename_i cz hz; cases h
      exact ⟨cz, by simp [zeroValue, run_typeInfo hX hi, hz], rfl⟩
    · cases h
  · cases h
end

theorem VR.form {ι : Inj} {v : AV} {cv : Value} (h : VR ι v cv) (ht : v ≠ .top) (ha : ∀ cs, v ≠ .agg cs) : cv.cells = #[cv] ∧ ((∀ cs, v ≠ .tup cs) → cv.oneCell' = true) := by
  cases v with
  | top => exact absurd rfl ht
  | agg cs => exact absurd rfl (ha cs)
  | bool b => simp only [VR] at h; subst h; exact ⟨rfl, fun _ => rfl⟩
  | int k n => simp only [VR] at h; subst h; exact ⟨rfl, fun _ => rfl⟩
  | flt k n => simp only [VR] at h; subst h; exact ⟨rfl, fun _ => rfl⟩
  | str s => simp only [VR] at h; obtain ⟨_, rfl, _⟩ := h; exact ⟨rfl, fun _ => rfl⟩
  | ptr a =>
    cases a with
    | none => simp only [VR] at h; subst h; exact ⟨rfl, fun _ => rfl⟩
    | some p => simp only [VR] at h; obtain ⟨_, _, _, rfl⟩ := h; exact ⟨rfl, fun _ => rfl⟩
  | slc a n c x =>
    cases a with
    | none => simp only [VR] at h; obtain ⟨_, _, _, rfl⟩ := h; exact ⟨rfl, fun _ => rfl⟩
    | some p => simp only [VR] at h; obtain ⟨_, _, _, _, _, rfl, _⟩ := h; exact ⟨rfl, fun _ => rfl⟩
  | map r =>
    cases r with
    | none => simp only [VR] at h; subst h; exact ⟨rfl, fun _ => rfl⟩
    | some p => simp only [VR] at h; obtain ⟨_, _, _, rfl⟩ := h; exact ⟨rfl, fun _ => rfl⟩
  | func f a b => simp only [VR] at h; obtain ⟨_, _, e, _⟩ := h; rw [e]; exact ⟨rfl, fun _ => rfl⟩
  | gp g o => simp only [VR] at h; subst h; exact ⟨rfl, fun _ => rfl⟩
  | cls k b m r => simp only [VR] at h; obtain ⟨_, rfl, _⟩ := h; exact ⟨rfl, fun _ => rfl⟩
  | ne k n => simp only [VR] at h; obtain ⟨_, rfl, _⟩ := h; exact ⟨rfl, fun _ => rfl⟩
  | nilFunc => simp only [VR] at h; subst h; exact ⟨rfl, fun _ => rfl⟩
  | any =>
    simp only [VR] at h
    cases cv <;> first
      | exact ⟨rfl, fun _ => rfl⟩
      | exact absurd rfl (h.1 _)
      | exact absurd rfl (h.2 _)
  | yld b => simp only [VR] at h; obtain ⟨c, d, _, rfl⟩ := h; exact ⟨rfl, fun _ => rfl⟩
  | iface t u => simp only [VR] at h; obtain ⟨_, rfl, _⟩ := h; exact ⟨rfl, fun _ => rfl⟩
  | nilIface => simp only [VR] at h; subst h; exact ⟨rfl, fun _ => rfl⟩
  | tup cs => simp only [VR] at h; obtain ⟨_, rfl, _⟩ := h; exact ⟨rfl, fun h => absurd rfl (h cs)⟩
theorem VR.cells {ι : Inj} {v : AV} {cv : Value} (h : VR ι v cv) (ht : v ≠ .top) : VRs ι v.cells cv.cells.toList := by
  by_cases ha : ∃ cs, v = .agg cs
  · obtain ⟨cs, rfl⟩ := ha
    simp only [VR] at h; obtain ⟨x, rfl, hx⟩ := h; exact hx
  · have hf := (h.form ht fun cs e => ha ⟨cs, e⟩).1
    rw [hf]
    have : v.cells = [v] := by
      cases v <;> first | rfl | exact absurd ⟨_, rfl⟩ ha
    rw [this]; exact VRs.one h
theorem VR.one {ι : Inj} {v : AV} {cv : Value} (h : VR ι v cv) (ho : v.one = true) : cv.oneCell' = true :=
  (h.form (by rintro rfl; simp [AV.one] at ho) (by rintro cs rfl; simp [AV.one] at ho)).2 (by rintro cs rfl; simp [AV.one] at ho)
theorem allOne_spec : ∀ {l : List AV}, allOne l = true → ∀ v ∈ l, v.one = true
  | [], _, _, h => by simp at h
  | v :: vs, h, x, hx => by
    simp [allOne] at h
    rcases List.mem_cons.1 hx with rfl | hx
    · exact h.1
    · exact allOne_spec h.2 x hx
theorem VRs.one_all {ι : Inj} : ∀ {l : List AV} {m : List Value}, VRs ι l m → allOne l = true → ∀ v ∈ m, v.oneCell' = true
  | [], [], _, _, _, h => by simp at h
  | [], _ :: _, h, _, _, _ => by simp [VRs] at h
  | _ :: _, [], h, _, _, _ => by simp [VRs] at h
  | a :: l, v :: m, h, ho, x, hx => by
    simp only [VRs] at h
    simp [allOne] at ho
    rcases List.mem_cons.1 hx with rfl | hx
    · exact h.1.one ho.1
    · exact VRs.one_all h.2 ho.2 x hx
theorem allOne_ne_top {v : AV} (h : allOne v.cells = true) : v ≠ .top := by
  rintro rfl; simp [AV.cells, allOne, AV.one] at h

theorem ldL_spec {c : Tr AV} : ∀ {n i : Nat} {l : List AV}, ldL c i n = some l → l.length = n ∧ ∀ j v, l[j]? = some v → c.get (i + j) = some v
  | 0, i, l, h => by simp [ldL] at h; subst h; simp
  | n + 1, i, l, h => by
    simp only [ldL] at h
    split at h
    · rename_i v hv
      split at h
      · rename_i l' hl
        cases h
        obtain ⟨h1, h2⟩ := ldL_spec hl
        refine ⟨by simp [h1], fun j x hx => ?_⟩
        cases j with
        | zero => simp at hx; subst hx; exact hv
        | succ j => have := h2 j x (by simpa using hx); rw [← this]; congr 1; omega
      · cases h
    · cases h
theorem stL_spec : ∀ {vs : List AV} {i : Nat} {c c' : Tr AV}, stL vs i c = some c' →
    (∀ j, j < vs.length → ∃ v, c.get (i + j) = some v) ∧ ∀ j x, c'.get j = some x → (i ≤ j ∧ vs[j - i]? = some x) ∨ ((j < i ∨ i + vs.length ≤ j) ∧ c.get j = some x)
  | [], i, c, c', h => by
    simp [stL] at h; subst h
    exact ⟨fun j hj => by simp at hj, fun j x hx => .inr ⟨by simp; omega, hx⟩⟩
  | v :: vs, i, c, c', h => by
    simp only [stL] at h
    split at h
    · rename_i u hu
      simp only [kV0_eq, kT_eq] at h
      obtain ⟨h1, h2⟩ := stL_spec h
      refine ⟨fun j hj => ?_, fun j x hx => ?_⟩
      · cases j with
        | zero => exact ⟨u, hu⟩
        | succ j =>
          obtain ⟨y, hy⟩ := h1 j (by simpa using hj)
          rcases Tr.get_put hy with ⟨e, _⟩ | ⟨_, hy⟩
          · omega
          · exact ⟨y, by rw [← hy]; congr 1; omega⟩
      · rcases h2 j x hx with ⟨a, b⟩ | ⟨a, b⟩
        · refine .inl ⟨by omega, ?_⟩
          have : j - i = (j - (i + 1)) + 1 := by omega
          rw [this]; simpa using b
        · rcases Tr.get_put b with ⟨e, e'⟩ | ⟨e, b⟩
          · subst e; subst e'; exact .inl ⟨Nat.le_refl _, by simp⟩
          · exact .inr ⟨by simp; omega, b⟩
    · cases h

section
variable {P : Program} {ι : Inj} {s : St} {w : World}
theorem add_eq (b o n : Nat) : (⟨b, o, none⟩ : Addr).add n = ⟨b, o + n, none⟩ := by
  unfold Addr.add; split <;> simp_all
theorem cell_of {cb o : Nat} {cs : Array Value} {e : TypeId} {fz : Nat × Nat} {v : Value} (h : w.heap[cb]? = some (.cells cs e fz)) (hv : cs[o]? = some v) :
    w.cell? ⟨cb, o, none⟩ = some v := by simp [World.cell?, h, hv]
theorem frozen_of {cb o : Nat} {cs : Array Value} {e : TypeId} {fz : Nat × Nat} (h : w.heap[cb]? = some (.cells cs e fz)) (hv : ¬ (fz.1 ≤ o ∧ o < fz.2)) :
    w.frozen? ⟨cb, o, none⟩ = false := by
  simp [World.frozen?, h]; omega

/-- Cells one behind the other are read. -/
theorem run_ld {cb : Nat} {d : Nat × Nat} {c : Tr AV} {n k : Nat} {o : Nat} {l : List AV} (h : HR P ι s w) (hb : ∃ b, ι b = some (cb, d) ∧ s.cells b = some (c, n)) (hl : ldL c o k = some l) :
    ∃ vs : List Value, (loadCells ⟨cb, d.1 + o, none⟩ k).run P w = .ok vs.toArray w ∧ VRs ι l vs := by
  obtain ⟨b, hb, hc⟩ := hb
  obtain ⟨cs, e, fz, h1, h0, h2⟩ := h.cells hb hc
  obtain ⟨hlen, hget⟩ := ldL_spec hl
  have hex : ∀ j, j < k → ∃ v cv, l[j]? = some v ∧ cs[d.1 + (o + j)]? = some cv ∧ VR ι v cv := fun j hj => by
    have hj' : j < l.length := by omega
    have e1 : l[j]? = some l[j] := by simp [hj']
    obtain ⟨_, _, cv, h3, h4⟩ := h2 _ _ (hget j _ e1)
    exact ⟨_, cv, e1, h3, h4⟩
  refine ⟨(List.range k).map fun j => cs[d.1 + (o + j)]?.getD undef, ?_, ?_⟩
  · have hr := run_loadCells_list (P := P) (w := w) ⟨cb, d.1 + o, none⟩ ((List.range k).map fun j => cs[d.1 + (o + j)]?.getD undef) (fun j v hv => by
      rw [add_eq]
      simp only [List.getElem?_map] at hv
      have hj : j < k := by
        rcases Nat.lt_or_ge j k with h | h
        · exact h
        · rw [List.getElem?_eq_none (by simpa using h)] at hv; simp at hv
      rw [List.getElem?_range hj] at hv
      simp only [Option.map_some, Option.some.injEq] at hv
      obtain ⟨_, cv, _, h3, _⟩ := hex j hj
      rw [h3] at hv; simp at hv; subst hv
      exact cell_of h1 (by rw [← h3]; congr 1; omega))
    simpa using hr
  · refine VRs.ext (by simp [hlen]) fun i a v ha hv => ?_
    have hi : i < k := by
      rcases Nat.lt_or_ge i k with h | h
      · exact h
      · rw [List.getElem?_eq_none (by omega)] at ha; cases ha
    simp only [List.getElem?_map] at hv
    rw [List.getElem?_range hi] at hv
    simp only [Option.map_some, Option.some.injEq] at hv
    obtain ⟨a', cv, h3, h4, h5⟩ := hex i hi
    rw [h3] at ha; cases ha
    rw [h4] at hv; simp at hv; subst hv; exact h5

/-- Cells one behind the other are written. -/
theorem run_st (cb off : Nat) (e : TypeId) (fz : Nat × Nat) : ∀ (vs : List Value) (i : Nat) (cs : Array Value) (w : World), w.heap[cb]? = some (.cells cs e fz) → (∀ v ∈ vs, v.oneCell' = true) →
    (∀ j, j < vs.length → off + i + j < cs.size ∧ ¬ (fz.1 ≤ off + i + j ∧ off + i + j < fz.2)) →
    ∃ w' cs', (storeCells ⟨cb, off, none⟩ vs i).run P w = .ok () w' ∧ w'.heap[cb]? = some (.cells cs' e fz) ∧ w'.heap.size = w.heap.size ∧ (∀ c, c ≠ cb → w'.heap[c]? = w.heap[c]?) ∧
      Kin w w' ∧ cs'.size = cs.size ∧ ∀ j, cs'[j]? = if off + i ≤ j ∧ j < off + i + vs.length then vs[j - (off + i)]? else cs[j]?
  | [], i, cs, w, h, _, _ => ⟨w, cs, by simp [storeCells], h, rfl, fun _ _ => rfl, Kin.refl _, rfl, fun j => by rw [if_neg (by simp only [List.length_nil]; omega)]⟩
  | v :: vs, i, cs, w, h, hone, hin => by
    obtain ⟨hlt, hfr⟩ := hin 0 (by simp)
    rw [Nat.add_zero] at hlt hfr
    have hc : w.cell? ⟨cb, off + i, none⟩ = some cs[off + i] := cell_of h (by simp)
    have hf : w.frozen? ⟨cb, off + i, none⟩ = false := frozen_of h hfr
    have hcb : cb < w.heap.size := by
      rcases Nat.lt_or_ge cb w.heap.size with h' | h'
      · exact h'
      · rw [Array.getElem?_eq_none h'] at h; cases h
    have hw1 : (w.setCell ⟨cb, off + i, none⟩ v).heap[cb]? = some (.cells (cs.setIfInBounds (off + i) v) e fz) := by
      simp only [World.setCell, Array.getElem?_modify]
      simp [h]
    have hoth : ∀ c, c ≠ cb → (w.setCell ⟨cb, off + i, none⟩ v).heap[c]? = w.heap[c]? := fun c hcc => by
      simp only [World.setCell, Array.getElem?_modify]
      rw [if_neg (Ne.symm hcc)]
    obtain ⟨w', cs', h1, h2, h3, h4, h0, h5, h6⟩ := run_st cb off e fz vs (i + 1) _ _ hw1 (fun x hx => hone x (List.mem_cons_of_mem _ hx)) (fun j hj => by
      have := hin (j + 1) (by simpa using hj)
      simp only [Array.size_setIfInBounds]
      have e1 : off + (i + 1) + j = off + i + (j + 1) := by omega
      rw [e1]; exact this)
    refine ⟨w', cs', ?_, h2, by rw [h3]; simp [World.setCell], fun c hcc => (h4 c hcc).trans (hoth c hcc), Kin.trans ⟨rfl, rfl⟩ h0, by rw [h5]; simp, fun j => ?_⟩
    · simp only [storeCells, Sem.run_bind, add_eq]
      rw [run_store P w _ v _ (hone v (List.mem_cons_self ..))]
      simp only [hc, hf, Bool.false_eq_true, if_false, Result.andThen_ok]
      exact h1
    · rw [h6 j]
      simp only [List.length_cons]
      by_cases a : off + (i + 1) ≤ j ∧ j < off + (i + 1) + vs.length
      · rw [if_pos a, if_pos (by omega)]
        have e1 : j - (off + i) = (j - (off + (i + 1))) + 1 := by omega
        rw [e1]; simp
      · rw [if_neg a]
        by_cases b : j = off + i
        · subst b
          rw [if_pos (by omega)]
          have e2 : off + i - (off + i) = 0 := by omega
          rw [e2, Array.getElem?_setIfInBounds_self_of_lt hlt]; rfl
        · rw [if_neg (by omega)]
          rw [Array.getElem?_setIfInBounds_ne (by omega)]

/-- A stretch of a live block is written, here and there. -/
theorem HR.store {b cb n : Nat} {d : Nat × Nat} {c c' : Tr AV} {vs : List AV} {cvs : List Value} {o : Nat} (h : HR P ι s w) (hb : ι b = some (cb, d)) (hc : s.cells b = some (c, n)) (hst : stL vs o c = some c')
    (hv : VRs ι vs cvs) (hone : allOne vs = true) :
    ∃ w', (storeCells ⟨cb, d.1 + o, none⟩ cvs).run P w = .ok () w' ∧ HR P ι (s.setC b c' n) w' ∧ Ext ι s w ι (s.setC b c' n) w' := by
  obtain ⟨cs, e, fz, h1, h0, h2⟩ := h.cells hb hc
  obtain ⟨h3, h4⟩ := stL_spec hst
  have hlen := hv.length
  have hin : ∀ j, j < cvs.length → d.1 + o + 0 + j < cs.size ∧ ¬ (fz.1 ≤ d.1 + o + 0 + j ∧ d.1 + o + 0 + j < fz.2) := fun j hj => by
    obtain ⟨u, hu⟩ := h3 j (by omega)
    obtain ⟨_, hz, _⟩ := h2 _ _ hu
    exact h0 _ (by omega)
  obtain ⟨w', cs', g1, g2, g3, g4, g0, g5, g6⟩ := run_st (P := P) cb (d.1 + o) e fz cvs 0 cs w h1 (hv.one_all hone) hin
  have hn : BR P ι w' cb d (.cells c' n) := by
    refine ⟨cs', e, fz, g2, fun j hj => by rw [g5]; exact h0 j hj, fun i x hx => ?_⟩
    rcases h4 i x hx with ⟨a, b⟩ | ⟨a, b⟩
    · obtain ⟨cv, hcv, hr⟩ := hv.get b
      have hi : i - o < vs.length := by
        rcases Nat.lt_or_ge (i - o) vs.length with h' | h'
        · exact h'
        · rw [List.getElem?_eq_none h'] at b; cases b
      obtain ⟨u, hu⟩ := h3 (i - o) hi
      have e0 : o + (i - o) = i := by omega
      rw [e0] at hu
      obtain ⟨k1, k2, _⟩ := h2 _ _ hu
      refine ⟨k1, k2, cv, ?_, hr⟩
      rw [g6, if_pos (by omega)]
      rw [← hcv]; congr 1; omega
    · obtain ⟨k1, k2, cv, k3, k4⟩ := h2 _ _ b
      refine ⟨k1, k2, cv, ?_, k4⟩
      rw [g6, if_neg (by omega)]; exact k3
  have hp := h.put hb (St.cells_spec hc) g0 g3 g4 hn
  have e1 : s.setC b c' n = { s with h := s.h.put b (.cells c' n) } := by simp [St.setC]
  rw [e1]
  exact ⟨w', g1, hp.1, hp.2⟩

theorem loadT_sound {X : Ctx} (hX : CtxOK P X) {t : TypeId} {a v : AV} {ca : Value} (h : HR P ι s w) (hl : loadT X t a s = some v) (ha : VR ι a ca) :
    ∃ cv, (Instr.loadAt t ca).run P w = .ok cv w ∧ VR ι v cv := by
  unfold loadT at hl
  split at hl
  · rename_i b off
    split at hl
    · rename_i c n hc
      split at hl
      · rename_i d k hd hk
        simp only [VR] at ha
        obtain ⟨cb, dd, hb, rfl⟩ := ha
        split at hl
        · rename_i hagg
          split at hl
          · rename_i l hl'
            cases hl
            obtain ⟨vs, h1, h2⟩ := run_ld (P := P) h ⟨b, hb, hc⟩ hl'
            refine ⟨.agg vs.toArray, ?_, ?_⟩
            · simp [Instr.loadAt, Instr.sureAddr, loadVar, run_isAgg hX hd, hagg, run_size hX hk, h1]
            · simp only [VR]; exact ⟨_, rfl, by simpa using h2⟩
          · cases hl
        · rename_i hagg
          obtain ⟨cs, e, fz, h1, _, h2⟩ := h.cells hb hc
          obtain ⟨_, _, cv, h3, h4⟩ := h2 _ _ hl
          refine ⟨cv, ?_, h4⟩
          simp [Instr.loadAt, Instr.sureAddr, loadVar, run_isAgg hX hd, hagg, cell_of h1 h3]
      · cases hl
    · cases hl
  · rename_i g off
    split at hl
    · rename_i c hc
      split at hl
      · rename_i d hd
        simp only [VR] at ha
        subst ha
        split at hl
        · cases hl
        · rename_i hagg
          obtain ⟨_, cs, e, fz, h1, h2⟩ := h.gl g c hc
          obtain ⟨cv, h3, h4⟩ := h2 _ _ hl
          refine ⟨cv, ?_, h4.mono (Inj.nil_le ι)⟩
          simp [Instr.loadAt, Instr.sureAddr, loadVar, run_isAgg hX hd, hagg, cell_of h1 h3]
      · cases hl
    · cases hl
  · cases hl

theorem storeT_sound {X : Ctx} (hX : CtxOK P X) {t : TypeId} {a v : AV} {ca cv : Value} {s' : St} (h : HR P ι s w) (hs : storeT X t a v s = some s') (ha : VR ι a ca) (hv : VR ι v cv) :
    ∃ w', (Instr.storeAt t ca cv).run P w = .ok () w' ∧ HR P ι s' w' ∧ Ext ι s w ι s' w' := by
  unfold storeT at hs
  split at hs
  · rename_i b off
    split at hs
    · rename_i c n hc
      split at hs
      · rename_i k hk hone
        split at hs
        · rename_i hlen
          split at hs
          · rename_i c' hst
            cases hs
            simp only [VR] at ha
            obtain ⟨cb, dd, hb, rfl⟩ := ha
            have hcs := hv.cells (allOne_ne_top hone)
            obtain ⟨w', h1, h2, h3⟩ := h.store (P := P) hb hc hst hcs hone
            refine ⟨w', ?_, h2, h3⟩
            have e1 : cv.cells.size = k := by
              have := hcs.length
              have := Nat.beq_eq.mp hlen
              simp at *; omega
            simp [Instr.storeAt, Instr.sureAddr, storeVar, run_size hX hk, e1, h1]
          · cases hs
        · cases hs
      · cases hs
    · cases hs
  · cases hs

/-- A row of cells is laid: what is known of it, its first cells. -/
theorem HR.newCells {cs : List AV} {cvs : Array Value} {w' : World} {elem : TypeId} (h : HR P ι s w) (hv : VRs ι cs (cvs.toList.take cs.length))
    {fz : Nat × Nat} (hfz : fz = (0, 0) ∨ cvs.size ≤ fz.1) (hw : w'.heap = w.heap.push (.cells cvs elem fz)) (hkin : Kin w w') :
    HR P (ι.at s.nx (w.heap.size, 0, cvs.size)) (s.newC (Tr.of cs) cs.length).2 w' ∧ Ext ι s w (ι.at s.nx (w.heap.size, 0, cvs.size)) (s.newC (Tr.of cs) cs.length).2 w' ∧ (s.newC (Tr.of cs) cs.length).1 = s.nx := by
  have e1 : s.newC (Tr.of cs) cs.length = s.new (.cells (Tr.of cs) cs.length) := by simp [St.newC]
  rw [e1]
  have := h.new (z := cvs.size) hw hkin (ab := .cells (Tr.of cs) cs.length) (fun κ hκ => by
    refine ⟨cvs, elem, fz, by rw [hw]; exact heap_push_new, fun j hj => ⟨hj, ?_⟩, fun i v hi => ?_⟩
    · simp only at hj
      rcases hfz with rfl | h'
      · simp
      · omega
    · have hi := Tr.get_of hi
      have hlt : i < cs.length := by
        rcases Nat.lt_or_ge i cs.length with h' | h'
        · exact h'
        · rw [List.getElem?_eq_none h'] at hi; cases hi
      obtain ⟨cv, h1, h2⟩ := hv.get hi
      rw [List.getElem?_take] at h1
      split at h1
      · have h1 : cvs[i]? = some cv := by simpa using h1
        have hsz : i < cvs.size := by
          rcases Nat.lt_or_ge i cvs.size with h' | h'
          · exact h'
          · rw [Array.getElem?_eq_none h'] at h1; cases h1
        exact ⟨hlt, by simpa using hsz, cv, by simpa using h1, h2.mono hκ⟩
      · exact absurd hlt (by assumption))
  exact ⟨this.1, this.2, rfl⟩
end
end Go.Am
