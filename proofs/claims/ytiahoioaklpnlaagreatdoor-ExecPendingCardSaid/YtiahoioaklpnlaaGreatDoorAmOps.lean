/-
  ONE OPERATION of the abstract machine against the model's: all but slices that grow, and maps.
-/
import Derived.Test.YtiahoioaklpnlaaGreatDoorAmArith
import Derived.Laws.BytesString
import Derived.Laws.Slices
namespace Go.Am

inductive DRs (ι : Inj) : List DE → List Deferred → Prop
  | nil : DRs ι [] []
  | cons {d : ADef} {c : Deferred} {l : List DE} {m : List Deferred} {cap : Array Value} : c.target = .fn (.func d.fn) cap → VRs ι d.args (c.args ++ cap).toList → DRs ι l m → DRs ι (.fn d :: l) (c :: m)
  | mark {b cb : Nat} {c : Deferred} {l : List DE} {m : List Deferred} {x : Nat × Nat} : c.target = .collected cb → ι b = some (cb, x) → DRs ι l m → DRs ι (.mark b :: l) (c :: m)
theorem DRs.mono {ι κ : Inj} (h : ι.le κ) {l : List DE} {m : List Deferred} (hd : DRs ι l m) : DRs κ l m := by
  induction hd with
  | nil => exact .nil
  | cons h1 h2 _ ih => exact .cons h1 (h2.mono h) ih
  | mark h1 h2 _ ih => exact .mark h1 (h _ _ h2) ih

inductive PRs (ι : Inj) : List (Nat × AV) → List (Nat × Value) → Prop
  | nil : PRs ι [] []
  | cons {i : Nat} {v : AV} {c : Value} {l : List (Nat × AV)} {m : List (Nat × Value)} : VR ι v c → PRs ι l m → PRs ι ((i, v) :: l) ((i, c) :: m)

structure FR (ι : Inj) (fr : Fr) (a : Act) : Prop where
  t : ∀ k v, fr.t.get k = some v → ∃ cv, a.tmps[k]? = some cv ∧ VR ι v cv
  d : DRs ι fr.d a.defers
theorem FR.mono {ι κ : Inj} (h : ι.le κ) {fr : Fr} {a : Act} (hf : FR ι fr a) : FR κ fr a :=
  ⟨fun k v hv => let ⟨cv, h1, h2⟩ := hf.t k v hv; ⟨cv, h1, h2.mono h⟩, hf.d.mono h⟩
/-- An operand says the same. -/
theorem FR.opd {ι : Inj} {fr : Fr} {a : Act} (hf : ∀ k v, fr.t.get k = some v → ∃ cv, a.tmps[k]? = some cv ∧ VR ι v cv) (x : Operand) : VR ι (fr.opd x) (a.eval x) := by
  cases x with
  | tmp t =>
    simp only [Fr.opd]
    split
    · rename_i v hv
      obtain ⟨cv, h1, h2⟩ := hf t v hv
      simpa [Act.eval, h1] using h2
    · simp [VR]
  | const v => exact VR_ofV ι v
  | global g => simp [Fr.opd, VR, Act.eval]
  | func f => simp only [Fr.opd, Act.eval, VR]; exact ⟨#[], #[], rfl, by simp [VRs], by simp [VRs]⟩

/-- What an operation comes to, here and there. -/
def OpOK (P : Program) (ι : Inj) (s : St) (w : World) (r : OR) (res : Result Next) : Prop :=
  match r with
  | .old v => ∃ cv, res = .ok (.value cv) w ∧ VR ι v cv
  | .pure v => ∃ cv, res = .ok (.value cv) w ∧ VR ι v cv
  | .val v s' => ∃ κ w' cv, (res = .ok (.value cv) w' ∨ (res = .ok .skip w' ∧ cv = undef)) ∧ VR κ v cv ∧ HR P κ s' w' ∧ Ext ι s w κ s' w'
  | .call f args => ∃ cargs, res = (callFunc f cargs).run P w ∧ VRs ι args cargs.toList
  | .round b args => ∃ cb d cargs, ι b = some (cb, d) ∧ res = (Instr.yield cb cargs).run P w ∧ VRs ι args cargs.toList
  | .dfr d => ∃ cd cap, res = .ok (.defer cd) w ∧ cd.target = .fn (.func d.fn) cap ∧ VRs ι d.args (cd.args ++ cap).toList
  | .pan v => ∃ cv, res = .halt (.panic cv) w ∧ VR ι v cv

section
variable {P : Program} {X : Ctx} (hX : CtxOK P X) {ι : Inj} {s : St} {w : World}

theorem value_run {x : Sem Value} {cv : Value} {w' : World} (h : x.run P w = .ok cv w') : (do pure (.value (← x)) : Sem Next).run P w = .ok (.value cv) w' := by
  simp [h]
theorem skip_run {x : Sem Unit} {w' : World} (h : x.run P w = .ok () w') : (do x; pure .skip : Sem Next).run P w = .ok .skip w' := by
  simp [h]

theorem newCells_sound {cs : List AV} {ccs : Array Value} {elem : TypeId} {r : OR} (h : newCells cs s = some r) (hH : HR P ι s w) (hv : VRs ι cs ccs.toList) :
    ∃ κ w' cv, (newRow elem ccs).run P w = .ok ⟨w.heap.size, 0, none⟩ w' ∧ cv = .pointer (some ⟨w.heap.size, 0, none⟩) ∧ ∃ v s', r = .val v s' ∧ VR κ v cv ∧ HR P κ s' w' ∧ Ext ι s w κ s' w' := by
  unfold newCells at h
  split at h
  · cases h
    obtain ⟨h1, h2, h3⟩ := hH.newCells (cvs := ccs) (cs := cs) (w' := { w with heap := w.heap.push (.cells ccs elem) }) (elem := elem) (fz := (0, 0))
      (by rw [hv.length, List.take_length]; exact hv) (.inl rfl) rfl ⟨rfl, rfl⟩
    refine ⟨_, _, _, by simp [newRow], rfl, _, _, rfl, ?_, h1, h2⟩
    rw [h3]
    simp only [VR]
    exact ⟨_, _, Inj.at_same _ _ _, rfl⟩
  · cases h

include hX in
theorem opAlloc_sound {t : TypeId} {r : OR} (h : opAlloc X t s = some r) (hH : HR P ι s w) :
    OpOK P ι s w r ((do pure (.value (← Instr.alloc t true (.tuple #[]))) : Sem Next).run P w) := by
  unfold opAlloc at h
  split at h
  · rename_i z hz
    obtain ⟨cz, h1, rfl⟩ := run_zero hX hz w
    have hv := (VR_ofV ι cz).cells (by
      intro e
      rw [e] at h
      simp [newCells, AV.cells, allOne, AV.one] at h)
    obtain ⟨κ, w', cv, h2, rfl, v, s', rfl, h3, h4, h5⟩ := newCells_sound (P := P) (elem := t) h hH hv
    exact ⟨κ, w', _, .inl (by simp [Instr.alloc, h1, newVar, h2]), h3, h4, h5⟩
  · cases h

theorem opBox_sound {t : TypeId} {x : AV} {cx : Value} {r : OR} (h : opBox x s = some r) (hH : HR P ι s w) (hx : VR ι x cx) :
    OpOK P ι s w r ((do pure (.value (← Instr.box t cx)) : Sem Next).run P w) := by
  unfold opBox at h
  split at h
  · cases h
  · rename_i hne
    have hv := hx.cells (fun e => hne (by rw [e]))
    obtain ⟨κ, w', cv, h2, rfl, v, s', rfl, h3, h4, h5⟩ := newCells_sound (P := P) (elem := t) h hH hv
    exact ⟨κ, w', _, .inl (by simp [Instr.box, newVar, h2]), h3, h4, h5⟩

/- Aggregates out of parts. -/
theorem sets_spec : ∀ (vs : List AV) (cvs : List Value) (off i : Nat) (cs : List AV) (ccs : Array Value), VRs ι vs cvs → VRs ι cs ccs.toList →
    VRs ι (setsL cs (off + i) vs) ((cvs.zipIdx i).foldl (fun a (c, j) => a.setIfInBounds (off + j) c) ccs).toList
  | [], [], _, _, _, _, _, h => by simpa [setsL] using h
  | [], _ :: _, _, _, _, _, h, _ => by simp [VRs] at h
  | _ :: _, [], _, _, _, _, h, _ => by simp [VRs] at h
  | v :: vs, c :: cvs, off, i, cs, ccs, h, hc => by
    simp only [VRs] at h
    simp only [setsL, List.zipIdx_cons, List.foldl_cons]
    have := sets_spec vs cvs off (i + 1) (cs.set (off + i) v) (ccs.setIfInBounds (off + i) c) h.2 (by
      rw [Array.toList_setIfInBounds]; exact hc.set _ h.1)
    exact this
theorem setsL_length : ∀ (vs : List AV) (off : Nat) (cs : List AV), (setsL cs off vs).length = cs.length
  | [], _, _ => rfl
  | v :: vs, off, cs => by simp [setsL, setsL_length vs]
theorem fillL_length {place : Nat → Option (Nat × Nat)} : ∀ (ps : List (Nat × AV)) (cs cs' : List AV), fillL place ps cs = some cs' → cs'.length = cs.length
  | [], cs, cs', h => by simp [fillL] at h; subst h; rfl
  | (i, v) :: rest, cs, cs', h => by
    simp only [fillL] at h
    split at h
    · split at h
      · cases h
      · split at h
        · rw [fillL_length rest _ _ h, setsL_length]
        · cases h
    · cases h
theorem fill_spec {place cplace : Nat → Option (Nat × Nat)} (hp : ∀ i x, place i = some x → cplace i = some x) : ∀ (ps : List (Nat × AV)) (cps : List (Nat × Value)) (cs cs' : List AV) (ccs : Array Value),
    fillL place ps cs = some cs' → PRs ι ps cps → VRs ι cs ccs.toList → ∃ ccs', Instr.fill cplace ccs cps = some ccs' ∧ VRs ι cs' ccs'.toList
  | [], _, cs, cs', ccs, h, hf, hc => by
    cases hf; simp [fillL] at h; subst h; exact ⟨ccs, by simp [Instr.fill], hc⟩
  | (i, v) :: rest, _, cs, cs', ccs, h, hf, hc => by
    cases hf with
    | @cons _ _ cv _ cps hv hf =>
      simp only [fillL] at h
      split at h
      · rename_i off size hpl
        split at h
        · cases h
        · rename_i hne
          split at h
          · rename_i hcond
            rw [Bool.and_eq_true] at hcond
            have h1 := Nat.beq_eq.mp hcond.1
            have h2 := Nat.ble_eq.mp hcond.2
            have hvc := hv.cells (fun e => hne (by rw [e]))
            have hl1 := hvc.length
            have hl2 := hc.length
            have e1 : cv.cells.size = size := by simp at hl1; omega
            have e2 : off + cv.cells.size ≤ ccs.size := by simp at hl2; omega
            have hs := sets_spec (v.cells) cv.cells.toList off 0 cs ccs hvc hc
            obtain ⟨ccs', h3, h4⟩ := fill_spec hp rest cps _ cs' _ h hf hs
            refine ⟨ccs', ?_, h4⟩
            simp only [Instr.fill, hp _ _ hpl]
            rw [if_neg (by simp [e1]; omega)]
            rw [← h3]
            congr 1
            rw [← Array.foldl_toList]
            simp
          · cases h
      · cases h
theorem parts_spec {fr : Fr} {a : Act} (ps : Array (Nat × Operand)) (hf : ∀ p ∈ ps.toList, VR ι (fr.opd p.2) (a.eval p.2)) :
    PRs ι (parts fr ps) (ps.map fun (i, x) => (i, a.eval x)).toList := by
  unfold parts
  rw [Array.toList_map]
  revert hf
  induction ps.toList with
  | nil => exact fun _ => .nil
  | cons p l ih => exact fun hf => .cons (hf p (by simp)) (ih fun q hq => hf q (by simp [hq]))
include hX in
theorem places_spec : ∀ (fs : List Field) (pl : List (Nat × Nat)), placesL X fs = some pl → ∀ w, (fs.mapM fun f => do pure (f.offset, ← sizeOf f.type) : Sem (List (Nat × Nat))).run P w = .ok pl w
  | [], pl, h, w => by simp [placesL] at h; subst h; simp
  | f :: fs, pl, h, w => by
    simp only [placesL] at h
    split at h
    · rename_i n hn
      split at h
      · rename_i l hl; cases h
        have ih := places_spec fs l hl w
        rw [List.mapM_cons]
        simp only [Sem.run_bind, run_size hX hn, Result.andThen_ok, Sem.run_pure]
        rw [ih]; rfl
      · cases h
    · cases h
theorem mapM_run {α β : Type} (xs : Array α) (f : α → Sem β) (l : List β) (h : (xs.toList.mapM f).run P w = .ok l w) : (xs.mapM f).run P w = .ok l.toArray w := by
  rw [Array.mapM_eq_mapM_toList]
  simp [h]
include hX in
theorem opBuild_sound {t : TypeId} {ps : Array (Nat × Operand)} {fr : Fr} {a : Act} {r : OR} (h : opBuild X t (parts fr ps) = some r) (hf : ∀ p ∈ ps.toList, VR ι (fr.opd p.2) (a.eval p.2)) :
    OpOK P ι s w r ((do pure (.value (← Instr.build t (ps.map fun (i, x) => (i, a.eval x)))) : Sem Next).run P w) := by
  unfold opBuild at h
  have hps := parts_spec (ι := ι) ps hf
  have ok : ∀ {z : AV} {cz : Value} {cs' : List AV} {place cplace : Nat → Option (Nat × Nat)}, z = ofV cz → okAgg (fillL place (parts fr ps) z.cells) = some r → (∀ i x, place i = some x → cplace i = some x) →
      ∃ ccs', Instr.fill cplace cz.cells (ps.map fun (i, x) => (i, a.eval x)).toList = some ccs' ∧ ∃ v, r = .pure v ∧ VR ι v (.agg ccs') := fun {z cz cs' place cplace} hz h hp => by
    subst hz
    unfold okAgg at h
    split at h
    · rename_i cs hcs
      cases h
      have hzc : VRs ι (ofV cz).cells cz.cells.toList := by
        by_cases e : ofV cz = .top
        · -- a zero of which nothing is known: then one part at the most, and of the same length: it is laid whole
          rw [e]
          cases cz <;> first
            | (simp [ofV, ofV1] at e; done)
            | exact VRs.one (by simp [VR])
            | skip
          all_goals exact VRs.one (by simp [VR])
        · exact (VR_ofV ι cz).cells e
      obtain ⟨ccs', h1, h2⟩ := fill_spec hp _ _ _ _ _ hcs hps hzc
      exact ⟨ccs', h1, _, rfl, by simp only [VR]; exact ⟨_, rfl, h2⟩⟩
    · cases h
  split at h
  · rename_i z fs hz hu
    obtain ⟨cz, h1, hzz⟩ := run_zero hX hz w
    unfold opBuildF at h
    split at h
    · rename_i pl hpl
      have hpl' := mapM_run (P := P) (w := w) fs (fun f => do pure (f.offset, ← sizeOf f.type)) pl (places_spec hX _ _ hpl w)
      obtain ⟨ccs', h2, v, rfl, h3⟩ := ok (cs' := []) (cplace := fun i => pl.toArray[i]?) hzz h (fun i x hx => by simpa using hx)
      refine ⟨.agg ccs', ?_, h3⟩
      simp only [Instr.build, Sem.run_bind, h1, Result.andThen_ok, run_und hX hu, hpl', h2, Sem.run_pure]
    · cases h
  · rename_i z n elem hz hu
    obtain ⟨cz, h1, hzz⟩ := run_zero hX hz w
    unfold opBuildA at h
    split at h
    · rename_i k hk
      obtain ⟨ccs', h2, v, rfl, h3⟩ := ok (cs' := []) (cplace := fun i => some (i * k, k)) hzz h (fun i x hx => hx)
      refine ⟨.agg ccs', ?_, h3⟩
      simp only [Instr.build, Sem.run_bind, h1, Result.andThen_ok, run_und hX hu, run_size hX hk, h2, Sem.run_pure]
    · cases h
  · cases h

theorem range0 (f : Nat → Value) : (Array.range 0).map f = #[] := by
  have : Array.range 0 = #[] := rfl
  rw [this]; simp
theorem repL_get {z : List AV} : ∀ (n i : Nat), i < n * z.length → (repL z n)[i]? = z[i % z.length]?
  | 0, i, h => by simp at h
  | n + 1, i, h => by
    simp only [repL]
    by_cases hi : i < z.length
    · rw [List.getElem?_append_left hi, Nat.mod_eq_of_lt hi]
    · rw [List.getElem?_append_right (by omega), repL_get n (i - z.length) (by rw [Nat.add_mul, Nat.one_mul] at h; omega)]
      congr 1
      rw [← Nat.mod_eq_sub_mod (by omega)]
theorem repL_length (z : List AV) : ∀ n, (repL z n).length = n * z.length
  | 0 => by simp [repL]
  | n + 1 => by simp [repL, repL_length z n, Nat.add_mul]; omega
theorem rep_spec {z : List AV} {cz : Array Value} (hz : VRs ι z cz.toList) (n : Nat) : VRs ι (repL z n) ((Array.range (n * cz.size)).map (fun i => cz[i % cz.size]!)).toList := by
  have hl : z.length = cz.size := by simpa using hz.length
  refine VRs.ext (by simp [repL_length, hl]) fun i a v ha hv => ?_
  have hi : i < n * z.length := by
    rcases Nat.lt_or_ge i (n * z.length) with h | h
    · exact h
    · rw [List.getElem?_eq_none (by rw [repL_length]; exact h)] at ha; cases ha
  rw [repL_get n i hi] at ha
  obtain ⟨cv, h1, h2⟩ := hz.get ha
  rw [hl] at hi h1
  have h0 : 0 < cz.size := by
    rcases Nat.eq_zero_or_pos cz.size with h | h
    · rw [h] at hi; simp at hi
    · exact h
  have hm : i % cz.size < cz.size := Nat.mod_lt _ h0
  simp only [Array.toList_map, List.getElem?_map] at hv
  rw [Array.toList_range, List.getElem?_range hi] at hv
  simp only [Option.map_some, Option.some.injEq] at hv
  subst hv
  have : cz[i % cz.size]! = cv := by
    rw [getElem!_pos cz _ hm]
    have h1 : cz[i % cz.size]? = some cv := by simpa using h1
    rw [Array.getElem?_eq_getElem hm] at h1
    exact Option.some.inj h1
  rw [this]; exact h2
include hX in
theorem opBuildS_sound {t : TypeId} {len : Nat} {ps : Array (Nat × Operand)} {fr : Fr} {a : Act} {r : OR} (h : opBuildS X t len (parts fr ps) s = some r) (hH : HR P ι s w) (hf : ∀ p ∈ ps.toList, VR ι (fr.opd p.2) (a.eval p.2)) :
    OpOK P ι s w r ((do pure (.value (← Instr.buildSlice t len (ps.map fun (i, x) => (i, a.eval x)))) : Sem Next).run P w) := by
  unfold opBuildS at h
  have hps := parts_spec (ι := ι) ps hf
  split at h
  · rename_i elem hu
    split at h
    · rename_i n z hn hz
      split at h
      · rename_i hc
        simp only [Bool.and_eq_true] at hc
        have c1 := Nat.ble_eq.mp hc.1.1
        have c2 := Nat.beq_eq.mp hc.1.2
        have c3 := Nat.blt_eq.mp hc.2
        obtain ⟨cz, h1, rfl⟩ := run_zero hX hz w
        have hzc : VRs ι (ofV cz).cells cz.cells.toList := by
          by_cases e : ofV cz = .top
          · rw [e]
            cases cz <;> first
              | (simp [ofV, ofV1] at e; done)
              | exact VRs.one (by simp [VR])
              | skip
            all_goals exact VRs.one (by simp [VR])
          · exact (VR_ofV ι cz).cells e
        have hsz : cz.cells.size = n := by have := hzc.length; simp at this; omega
        unfold opBuildS1 at h
        split at h
        · rename_i cs hcs
          unfold newSlice at h
          split at h
          · cases h
            have hrep := rep_spec hzc len
            obtain ⟨ccs', h2, h3⟩ := fill_spec (cplace := fun i => some (i * n, n)) (fun i x hx => hx) _ _ _ _ _ hcs hps hrep
            have hcl := h3.length
            have hlen : cs.length = ccs'.size := by simpa using hcl
            have hfl : cs.length = len * n := by rw [fillL_length _ _ _ hcs, repL_length, c2]
            obtain ⟨g1, g2, g3⟩ := hH.newCells (cvs := ccs') (cs := cs) (w' := { w with heap := w.heap.push (.cells ccs' elem) }) (elem := elem) (fz := (0, 0))
              (by rw [hlen, List.take_of_length_le (by simp)]; exact h3) (.inl rfl) rfl ⟨rfl, rfl⟩
            refine ⟨_, _, .slice (some ⟨w.heap.size, 0, none⟩) len len, .inl ?_, ?_, g1, g2⟩
            · refine value_run ?_
              have e1 : ¬ (2 ^ 24 < len * n) := by omega
              have e2 : Instr.fill (fun i => some (i * n, n)) ((Array.range (len * n)).map (fun i => (if len * n = 0 then (#[] : Array Value) else cz.cells)[i % (if len * n = 0 then (#[] : Array Value) else cz.cells).size]!)) (ps.map fun (i, x) => (i, a.eval x)).toList = some ccs' := by
                by_cases h0 : len * n = 0
                · rw [← h2, hsz]; simp only [h0, range0]
                · simp only [h0, if_false]; rw [← h2, hsz]
              simp only [Instr.buildSlice, Sem.run_bind, run_und hX hu, Result.andThen_ok, run_size hX hn, gt_iff_lt, e1, if_false, Sem.run_ite, Sem.run_pure, h1]
              by_cases h0 : len * n = 0
              · simp only [h0, if_true] at e2 ⊢
                simp only [Result.andThen_ok, e2, Sem.run_bind, newRow, run_newObj, Result.andThen_ok, Sem.run_pure]
              · simp only [h0, if_false] at e2 ⊢
                simp only [Result.andThen_ok, e2, Sem.run_bind, newRow, run_newObj, Result.andThen_ok, Sem.run_pure]
            · rw [g3]
              simp only [VR]
              exact ⟨_, _, _, _, Inj.at_same _ _ _, rfl, fun _ => rfl, Nat.le_refl _, Nat.le_refl _, fun _ => rfl, by simp [← hlen, ← hfl]⟩
          · cases h
        · cases h
      · cases h
    · cases h
  · cases h

theorem old1_sound {o : Option AV} {r : OR} {x : Sem Value} (h : old1 o = some r) (hv : ∀ v, o = some v → ∃ cv, x.run P w = .ok cv w ∧ VR ι v cv) : OpOK P ι s w r ((do pure (.value (← x)) : Sem Next).run P w) := by
  unfold old1 at h
  split at h
  · rename_i v
    cases h
    obtain ⟨cv, h1, h2⟩ := hv v rfl
    exact ⟨cv, value_run h1, h2⟩
  · cases h
theorem pure1_sound {o : Option AV} {r : OR} {x : Sem Value} (h : pure1 o = some r) (hv : ∀ v, o = some v → ∃ cv, x.run P w = .ok cv w ∧ VR ι v cv) : OpOK P ι s w r ((do pure (.value (← x)) : Sem Next).run P w) := by
  unfold pure1 at h
  split at h
  · rename_i v
    cases h
    obtain ⟨cv, h1, h2⟩ := hv v rfl
    exact ⟨cv, value_run h1, h2⟩
  · cases h

theorem VR.bool {b : Bool} {cv : Value} (h : VR ι (.bool b) cv) : cv = .bool b := by simpa [VR] using h
theorem VR.int {k : IntKind} {n : Int} {cv : Value} (h : VR ι (.int k n) cv) : cv = .int k n := by simpa [VR] using h
theorem VR.str {x : Str} {cv : Value} (h : VR ι (.str x) cv) : ∃ bs, cv = .string bs ∧ x = Str.of bs := by simpa [VR] using h
theorem VR.ptr {b o : Nat} {cv : Value} (h : VR ι (.ptr (some (b, o))) cv) : ∃ c d, ι b = some (c, d) ∧ cv = .pointer (some ⟨c, d.1 + o, none⟩) := by simpa [VR] using h
theorem VR.agg {l : List AV} {cv : Value} (h : VR ι (.agg l) cv) : ∃ x, cv = .agg x ∧ VRs ι l x.toList := by simpa [VR] using h
theorem VR.tup {l : List AV} {cv : Value} (h : VR ι (.tup l) cv) : ∃ x, cv = .tuple x ∧ VRs ι l x.toList := by simpa [VR] using h

theorem opPick_sound {c x y : AV} {cc cx cy : Value} {r : OR} (h : opPick c x y = some r) (hc : VR ι c cc) (hx : VR ι x cx) (hy : VR ι y cy) :
    OpOK P ι s w r ((do pure (.value (if ← asBool cc then cx else cy)) : Sem Next).run P w) := by
  unfold opPick at h
  split at h
  · cases h; rw [hc.bool]; exact ⟨cx, by simp [asBool], hx⟩
  · cases h; rw [hc.bool]; exact ⟨cy, by simp [asBool], hy⟩
  · cases h

theorem opNil_sound {x : AV} {cx : Value} {r : OR} {o : Oper} {ρ : Operand → Value} {y : Operand} (h : opNil x = some r) (hx : VR ι x cx) (hy : ρ y = cx) (ho : o.op = .nilCheck y) : OpOK P ι s w r ((execOp ρ o).run P w) := by
  unfold opNil at h
  split at h
  · rename_i p
    cases h; obtain ⟨b, off⟩ := p
    obtain ⟨c, d, h1, rfl⟩ := hx.ptr
    exact ⟨_, by simp [execOp, ho, hy], hx⟩
  · rename_i f l1 l2
    cases h
    simp only [VR] at hx
    obtain ⟨p, q, rfl, h1, h2⟩ := hx
    exact ⟨.func (.func f) p q, by simp [execOp, ho, hy], by simp only [VR]; exact ⟨_, _, rfl, h1, h2⟩⟩
  · rename_i t v
    cases h
    simp only [VR] at hx
    obtain ⟨p, rfl, h1⟩ := hx
    exact ⟨.iface t p, by simp [execOp, ho, hy], by simp only [VR]; exact ⟨_, rfl, h1⟩⟩
  · rename_i b
    cases h
    simp only [VR] at hx
    obtain ⟨c, d, h1, rfl⟩ := hx
    exact ⟨.func (.yield c) #[] #[], by simp [execOp, ho, hy], by simp only [VR]; exact ⟨_, _, h1, rfl⟩⟩
  · cases h
    have hx' := hx
    simp only [VR] at hx
    subst hx
    exact ⟨_, by simp [execOp, ho, hy], hx'⟩
  · cases h

include hX in
theorem opMkIface_sound {t : TypeId} {x : AV} {cx : Value} {r : OR} (h : opMkIface X t x = some r) (hx : VR ι x cx) : OpOK P ι s w r ((do pure (.value (← Instr.makeInterface t cx)) : Sem Next).run P w) := by
  unfold opMkIface at h
  split at h
  · cases h
  · rename_i d hne hu
    cases h
    refine ⟨.iface t cx, value_run ?_, by simp only [VR]; exact ⟨_, rfl, hx⟩⟩
    simp only [Instr.makeInterface, Sem.run_bind, run_und hX hu, Result.andThen_ok]
    cases d <;> first | rfl | exact absurd rfl (hne _)
  · cases h

theorem opMkMap_sound {t : TypeId} {r : OR} (h : opMkMap s = some r) (hH : HR P ι s w) : OpOK P ι s w r ((do pure (.value (← Instr.makeMap t none)) : Sem Next).run P w) := by
  unfold opMkMap at h
  cases h
  obtain ⟨h1, h2⟩ := hH.new (z := 0) (w' := { w with heap := w.heap.push (.map #[] 0) }) (ab := .map []) rfl ⟨rfl, rfl⟩ (fun κ _ => by
    refine ⟨rfl, .nil, #[], 0, heap_push_new, ⟨[], .nil, .nil⟩, by simp, by simp⟩)
  refine ⟨_, _, .map (some w.heap.size), .inl (value_run (by simp [Instr.makeMap])), ?_, h1, h2⟩
  simp only [VR, St.new]
  exact ⟨_, _, Inj.at_same _ _ _, rfl⟩

include hX in
theorem opMkSlice_sound {t : TypeId} {l c : AV} {cl cc : Value} {r : OR} (h : opMkSlice X t l c s = some r) (hH : HR P ι s w) (hl : VR ι l cl) (hc : VR ι c cc) :
    OpOK P ι s w r ((do pure (.value (← Instr.makeSlice t cl cc)) : Sem Next).run P w) := by
  unfold opMkSlice at h
  split at h
  · rename_i elem kl n kc m hu
    have el := hl.int; have ec := hc.int
    subst el; subst ec
    split at h
    · rename_i k z hk hz
      unfold mkSlice1 at h
      split at h
      · rename_i hcond
        simp only [Bool.and_eq_true] at hcond
        obtain ⟨⟨c1, c2⟩, c4, c5⟩ := hcond
        have c1 := Nat.ble_eq.mp c1
        have c2 := Nat.ble_eq.mp c2
        have c5 := Nat.beq_eq.mp c5
        cases h
        obtain ⟨cz, h1, rfl⟩ := run_zero hX hz w
        have hzc := (VR_ofV ι cz).cells (allOne_ne_top c4)
        obtain ⟨i, hi, hik, hbytes, hk1⟩ := elem_spec hk
        have hk := elem_size hk
        have hsz : cz.cells.size = k := by have := hzc.length; simp at this; omega
        have hrep := rep_spec hzc m
        have hrl : (repL (ofV cz).cells m).length = m * k := by rw [repL_length, c5]
        have hb : (i.bytes : Int) * (m : Int) ≤ 2 ^ 48 := by
          have h1 : i.bytes * m ≤ 1048576 * 100000 := Nat.mul_le_mul hbytes c2
          have h2 : ((i.bytes * m : Nat) : Int) ≤ ((1048576 * 100000 : Nat) : Int) := by exact_mod_cast h1
          rw [Int.natCast_mul] at h2
          omega
        have hwn : IntKind.i64.wrap (Int.ofNat n) = n := by
          have : fits .i64 (.ofNat n) = true := by simp [fits, Nat.blt_eq]; omega
          exact fits_wrap this
        have hwm : IntKind.i64.wrap (Int.ofNat m) = m := by
          have : fits .i64 (.ofNat m) = true := by simp [fits, Nat.blt_eq]; omega
          exact fits_wrap this
        · obtain ⟨g1, g2, g3⟩ := hH.newCells (cvs := (Array.range (m * cz.cells.size)).map (fun i => cz.cells[i % cz.cells.size]!)) (cs := repL (ofV cz).cells m)
            (w' := { w with heap := w.heap.push (.cells ((Array.range (m * cz.cells.size)).map (fun i => cz.cells[i % cz.cells.size]!)) elem) }) (elem := elem) (fz := (0, 0))
            (by rw [List.take_of_length_le (by rw [hrep.length]; exact Nat.le_refl _)]; exact hrep) (.inl rfl) rfl ⟨rfl, rfl⟩
          rw [hrl] at g1 g2 g3
          refine ⟨_, _, .slice (some ⟨w.heap.size, 0, none⟩) n m, .inl (value_run ?_), ?_, g1, g2⟩
          · have e1 : (Int.ofNat m < 0) = False := by simp
            have e2 : ¬ ((i.bytes : Int) * (m : Int) > 2 ^ 48) := by omega
            have e3 : ¬ ((n : Int) > (m : Int)) := by omega
            simp only [Instr.makeSlice, Sem.run_bind, run_und hX hu, Result.andThen_ok, asInt, asIntOf, Sem.run_pure, run_typeInfo hX hi, hwn, hwm]
            have e4 : (decide ((m : Int) < 0) || decide ((i.bytes : Int) * (m : Int) > 2 ^ 48) || decide ((n : Int) < 0) || decide ((n : Int) > (m : Int))) = false := by
              simp only [Bool.or_eq_false_iff, decide_eq_false_iff_not]
              exact ⟨⟨⟨by omega, e2⟩, by omega⟩, e3⟩
            simp only [e4, Bool.false_eq_true, if_false, Sem.run_bind, Sem.run_pure, Result.andThen_ok, run_askRoom, run_size hX hk, Int.toNat_natCast, Sem.run_ite, h1, ← hsz]
            by_cases h0 : m * cz.cells.size = 0
            · simp only [h0, if_true, Result.andThen_ok, newRow, Sem.run_bind, run_newObj, Sem.run_pure, range0]
            · simp only [h0, if_false, Result.andThen_ok, newRow, Sem.run_bind, run_newObj, Sem.run_pure]
          · rw [g3]
            simp only [VR]
            exact ⟨_, _, _, _, Inj.at_same _ _ _, rfl, fun _ => rfl, c1, Nat.le_refl _, fun _ => rfl, by simp [hsz]⟩
      · cases h
    · cases h
  · cases h
end
end Go.Am
