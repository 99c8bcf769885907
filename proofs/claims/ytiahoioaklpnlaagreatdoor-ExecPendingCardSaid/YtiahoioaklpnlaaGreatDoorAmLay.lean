/-
  WHAT LAYS A NEW BLOCK, whatever the state is: the block, and the value that leads to it.
-/
import Derived.Test.YtiahoioaklpnlaaGreatDoorAmBi
namespace Go.Am

def LayOK (P : Program) (ι : Inj) (w : World) (res : Result Next) (ab : AB) (f : Nat → AV) : Prop :=
  ∃ o z cv w', res = .ok (.value cv) w' ∧ w'.heap = w.heap.push o ∧ Kin w w' ∧ (∀ κ, ι.le κ → BR P κ w' w.heap.size (0, z) ab) ∧ ∀ κ b, κ b = some (w.heap.size, 0, z) → VR κ (f b) cv

section
variable {P : Program} {X : Ctx} (hX : CtxOK P X) {ι : Inj} {s : St} {w : World}

theorem cells_BR {P : Program} {cs : List AV} {cvs : Array Value} {w' : World} {elem : TypeId} (hv : VRs ι cs (cvs.toList.take cs.length))
    {fz : Nat × Nat} (hfz : fz = (0, 0) ∨ cvs.size ≤ fz.1) (hw : w'.heap = w.heap.push (.cells cvs elem fz)) (κ : Inj) (hκ : ι.le κ) : BR P κ w' w.heap.size (0, cvs.size) (.cells (Tr.of cs) cs.length) := by
  refine ⟨cvs, elem, fz, by rw [hw]; exact heap_push_new, fun j hj => ⟨hj, ?_⟩, fun i v hi => ?_⟩
  · simp only at hj
    rcases hfz with rfl | h'
    · simp
    · omega
  · have hi := Tr.get_of hi
    have hlt : i < cs.length := by
      rcases Nat.lt_or_ge i cs.length with h' | h'
      · exact h'
      · rw [List.getElem?_eq_none h'] at hi; cases hi
    obtain ⟨cv, h1, h2⟩ := hv.get hi
    rw [List.getElem?_take] at h1
    split at h1
    · have h1 : cvs[i]? = some cv := by simpa using h1
      have hsz : i < cvs.size := by
        rcases Nat.lt_or_ge i cvs.size with h' | h'
        · exact h'
        · rw [Array.getElem?_eq_none h'] at h1; cases h1
      exact ⟨hlt, by simpa using hsz, cv, by simpa using h1, h2.mono hκ⟩
    · exact absurd hlt (by assumption)
theorem VRs.all_take {cs : List AV} {cvs : Array Value} (hv : VRs ι cs cvs.toList) : VRs ι cs (cvs.toList.take cs.length) := by
  rw [hv.length, List.take_length]; exact hv

theorem newC_eq (s : St) (c : Tr AV) (n : Nat) : s.newC c n = s.new (.cells c n) := by simp [St.newC]

theorem newCells_lay {cs : List AV} {r : OR} (h : newCells cs s = some r) : allOne cs = true ∧ ∀ s', newCells cs s' = some (.val (.ptr (some (s'.nx, 0))) (s'.new (.cells (Tr.of cs) cs.length)).2) := by
  unfold newCells at h ⊢
  split at h
  · rename_i ho
    exact ⟨ho, fun s' => by simp only [newC_eq]; rfl⟩
  · cases h
theorem newCells_ok {cs : List AV} {ccs : Array Value} {elem : TypeId} (hv : VRs ι cs ccs.toList) {res : Result Next} (hr : res = .ok (.value (.pointer (some ⟨w.heap.size, 0, none⟩))) { w with heap := w.heap.push (.cells ccs elem) }) :
    LayOK P ι w res (.cells (Tr.of cs) cs.length) fun b => .ptr (some (b, 0)) :=
  ⟨_, ccs.size, _, _, hr, rfl, ⟨rfl, rfl⟩, cells_BR (elem := elem) hv.all_take (.inl rfl) rfl, fun κ b hb => by simp only [VR]; exact ⟨_, _, hb, rfl⟩⟩

include hX in
theorem opAlloc_lay {t : TypeId} {r : OR} (h : opAlloc X t s = some r) : ∃ ab f, (∀ s', opAlloc X t s' = some (.val (f s'.nx) (s'.new ab).2)) ∧ ∀ ι w, LayOK P ι w ((do pure (.value (← Instr.alloc t true (.tuple #[]))) : Sem Next).run P w) ab f := by
  unfold opAlloc at h
  split at h
  · rename_i z hz
    obtain ⟨h1, h2⟩ := newCells_lay h
    refine ⟨_, fun b => .ptr (some (b, 0)), fun s' => by unfold opAlloc; rw [hz]; exact h2 s', fun ι w => ?_⟩
    obtain ⟨cz, h3, rfl⟩ := run_zero hX hz w
    have hv := (VR_ofV ι cz).cells (allOne_ne_top h1)
    exact newCells_ok (elem := t) hv (by simp [Instr.alloc, h3, newVar, newRow])
  · cases h

theorem opBox_lay {t : TypeId} {x : AV} {r : OR} (h : opBox x s = some r) : ∃ ab f, (∀ s', opBox x s' = some (.val (f s'.nx) (s'.new ab).2)) ∧ ∀ ι w cx, VR ι x cx → LayOK P ι w ((do pure (.value (← Instr.box t cx)) : Sem Next).run P w) ab f := by
  unfold opBox at h
  split at h
  · cases h
  · rename_i hne
    obtain ⟨h1, h2⟩ := newCells_lay h
    refine ⟨.cells (Tr.of x.cells) x.cells.length, fun b => .ptr (some (b, 0)), fun s' => ?_, fun ι w cx hx => ?_⟩
    · unfold opBox
      split
      · exact absurd rfl hne
      · exact h2 s'
    have hv := hx.cells (allOne_ne_top h1)
    exact newCells_ok (elem := t) hv (by simp [Instr.box, newVar, newRow])

include hX in
theorem opBuildS_lay {t : TypeId} {len : Nat} {ps : Array (Nat × Operand)} {fr : Fr} {r : OR} (h : opBuildS X t len (parts fr ps) s = some r) :
    ∃ ab f, (∀ s', opBuildS X t len (parts fr ps) s' = some (.val (f s'.nx) (s'.new ab).2)) ∧ ∀ ι w (a : Act), (∀ p ∈ ps.toList, VR ι (fr.opd p.2) (a.eval p.2)) → LayOK P ι w ((do pure (.value (← Instr.buildSlice t len (ps.map fun (i, x) => (i, a.eval x)))) : Sem Next).run P w) ab f := by
  have h0 := h
  unfold opBuildS at h
  split at h
  · rename_i elem hu
    split at h
    · rename_i n z hn hz
      split at h
      · rename_i hc
        have hcc := hc
        simp only [Bool.and_eq_true] at hc
        have c1 := Nat.ble_eq.mp hc.1.1
        have c2 := Nat.beq_eq.mp hc.1.2
        have c3 := Nat.blt_eq.mp hc.2
        unfold opBuildS1 at h
        split at h
        · rename_i cs hcs
          unfold newSlice at h
          split at h
          · rename_i hone
            refine ⟨.cells (Tr.of cs) cs.length, fun b => .slc (some (b, 0, n)) len len true, fun s' => ?_, fun ι w a hf => ?_⟩
            · unfold opBuildS opBuildS1 newSlice
              simp only [hu, hn, hz, hcc, hcs, hone, newC_eq]
              rfl
            · have hps := parts_spec (ι := ι) ps hf
              obtain ⟨cz, h1, rfl⟩ := run_zero hX hz w
              have hzc : VRs ι (ofV cz).cells cz.cells.toList := by
                by_cases e : ofV cz = .top
                · rw [e]
                  cases cz <;> first
                    | (simp [ofV, ofV1] at e; done)
                    | exact VRs.one (by simp [VR])
                    | skip
                  all_goals exact VRs.one (by simp [VR])
                · exact (VR_ofV ι cz).cells e
              have hsz : cz.cells.size = n := by have := hzc.length; simp at this; omega
              have hrep := rep_spec hzc len
              obtain ⟨ccs', h2, h3⟩ := fill_spec (cplace := fun i => some (i * n, n)) (fun i x hx => hx) _ _ _ _ _ hcs hps hrep
              have hcl := h3.length
              have hlen : cs.length = ccs'.size := by simpa using hcl
              have hfl : cs.length = len * n := by rw [fillL_length _ _ _ hcs, repL_length, c2]
              refine ⟨_, ccs'.size, .slice (some ⟨w.heap.size, 0, none⟩) len len, { w with heap := w.heap.push (.cells ccs' elem) }, ?_, rfl, ⟨rfl, rfl⟩, cells_BR (elem := elem) h3.all_take (.inl rfl) rfl, fun κ b hb => ?_⟩
              · refine value_run ?_
                have e1 : ¬ (2 ^ 24 < len * n) := by omega
                have e2 : Instr.fill (fun i => some (i * n, n)) ((Array.range (len * n)).map (fun i => (if len * n = 0 then (#[] : Array Value) else cz.cells)[i % (if len * n = 0 then (#[] : Array Value) else cz.cells).size]!)) (ps.map fun (i, x) => (i, a.eval x)).toList = some ccs' := by
                  by_cases h0 : len * n = 0
                  · rw [← h2, hsz]; simp only [h0, range0]
                  · simp only [h0, if_false]; rw [← h2, hsz]
                simp only [Instr.buildSlice, Sem.run_bind, run_und hX hu, Result.andThen_ok, run_size hX hn, gt_iff_lt, e1, if_false, Sem.run_ite, Sem.run_pure, h1]
                by_cases h0 : len * n = 0
                · simp only [h0, if_true] at e2 ⊢
                  simp only [Result.andThen_ok, e2, Sem.run_bind, newRow, run_newObj, Result.andThen_ok, Sem.run_pure]
                · simp only [h0, if_false] at e2 ⊢
                  simp only [Result.andThen_ok, e2, Sem.run_bind, newRow, run_newObj, Result.andThen_ok, Sem.run_pure]
              · simp only [VR]
                exact ⟨_, _, _, _, hb, rfl, fun _ => rfl, Nat.le_refl _, Nat.le_refl _, fun _ => rfl, by simp [← hlen, ← hfl]⟩
          · cases h
        · cases h
      · cases h
    · cases h
  · cases h

theorem opMkMap_lay {t : TypeId} : ∀ ι w, LayOK P ι w ((do pure (.value (← Instr.makeMap t none)) : Sem Next).run P w) (.map []) fun b => .map (some b) := fun ι w =>
  ⟨.map #[] 0, 0, .map (some w.heap.size), { w with heap := w.heap.push (.map #[] 0) }, value_run (by simp [Instr.makeMap]), rfl, ⟨rfl, rfl⟩, fun κ _ => ⟨rfl, .nil, #[], 0, heap_push_new, ⟨[], .nil, .nil⟩, by simp, by simp⟩, fun κ b hb => by simp only [VR]; exact ⟨_, _, hb, rfl⟩⟩

include hX in
theorem opMkSlice_lay {t : TypeId} {l c : AV} {r : OR} (h : opMkSlice X t l c s = some r) :
    ∃ ab f, (∀ s', opMkSlice X t l c s' = some (.val (f s'.nx) (s'.new ab).2)) ∧ ∀ ι w cl cc, VR ι l cl → VR ι c cc → LayOK P ι w ((do pure (.value (← Instr.makeSlice t cl cc)) : Sem Next).run P w) ab f := by
  unfold opMkSlice at h
  split at h
  · rename_i elem kl n kc m hu
    split at h
    · rename_i k z hk hz
      unfold mkSlice1 at h
      split at h
      · rename_i hcond
        have hcc := hcond
        simp only [Bool.and_eq_true] at hcond
        obtain ⟨⟨c1, c2⟩, c4, c5⟩ := hcond
        have c1 := Nat.ble_eq.mp c1
        have c2 := Nat.ble_eq.mp c2
        have c5 := Nat.beq_eq.mp c5
        refine ⟨.cells (Tr.of (repL z.cells m)) (m * k), fun b => .slc (some (b, 0, k)) n m true, fun s' => ?_, fun ι w cl cc hl hc => ?_⟩
        · unfold opMkSlice mkSlice1
          simp only [hu, hk, hz, hcc, newC_eq]
          rfl
        · have el := hl.int; have ec := hc.int
          subst el; subst ec
          obtain ⟨cz, h1, rfl⟩ := run_zero hX hz w
          have hzc := (VR_ofV ι cz).cells (allOne_ne_top c4)
          obtain ⟨i, hi, hik, hbytes, hk1⟩ := elem_spec hk
          have hk := elem_size hk
          have hsz : cz.cells.size = k := by have := hzc.length; simp at this; omega
          have hrep := rep_spec hzc m
          have hrl : (repL (ofV cz).cells m).length = m * k := by rw [repL_length, c5]
          have hb : (i.bytes : Int) * (m : Int) ≤ 2 ^ 48 := by
            have h1 : i.bytes * m ≤ 1048576 * 100000 := Nat.mul_le_mul hbytes c2
            have h2 : ((i.bytes * m : Nat) : Int) ≤ ((1048576 * 100000 : Nat) : Int) := by exact_mod_cast h1
            rw [Int.natCast_mul] at h2
            omega
          have hwn : IntKind.i64.wrap (Int.ofNat n) = n := by
            have : fits .i64 (.ofNat n) = true := by simp [fits, Nat.blt_eq]; omega
            exact fits_wrap this
          have hwm : IntKind.i64.wrap (Int.ofNat m) = m := by
            have : fits .i64 (.ofNat m) = true := by simp [fits, Nat.blt_eq]; omega
            exact fits_wrap this
          have hbr := cells_BR (P := P) (w := w) (w' := { w with heap := w.heap.push (.cells ((Array.range (m * cz.cells.size)).map (fun i => cz.cells[i % cz.cells.size]!)) elem) }) (elem := elem) (fz := (0, 0)) hrep.all_take (.inl rfl) rfl
          rw [hrl] at hbr
          refine ⟨.cells ((Array.range (m * cz.cells.size)).map (fun i => cz.cells[i % cz.cells.size]!)) elem, _, .slice (some ⟨w.heap.size, 0, none⟩) n m, { w with heap := w.heap.push (.cells ((Array.range (m * cz.cells.size)).map (fun i => cz.cells[i % cz.cells.size]!)) elem) }, value_run ?_, rfl, ⟨rfl, rfl⟩, hbr, fun κ b hb => ?_⟩
          · have e1 : (Int.ofNat m < 0) = False := by simp
            have e2 : ¬ ((i.bytes : Int) * (m : Int) > 2 ^ 48) := by omega
            have e3 : ¬ ((n : Int) > (m : Int)) := by omega
            simp only [Instr.makeSlice, Sem.run_bind, run_und hX hu, Result.andThen_ok, asInt, asIntOf, Sem.run_pure, run_typeInfo hX hi, hwn, hwm]
            have e4 : (decide ((m : Int) < 0) || decide ((i.bytes : Int) * (m : Int) > 2 ^ 48) || decide ((n : Int) < 0) || decide ((n : Int) > (m : Int))) = false := by
              simp only [Bool.or_eq_false_iff, decide_eq_false_iff_not]
              exact ⟨⟨⟨by omega, e2⟩, by omega⟩, e3⟩
            simp only [e4, Bool.false_eq_true, if_false, Sem.run_bind, Sem.run_pure, Result.andThen_ok, run_askRoom, run_size hX hk, Int.toNat_natCast, Sem.run_ite, h1, ← hsz]
            by_cases h0 : m * cz.cells.size = 0
            · simp only [h0, if_true, Result.andThen_ok, newRow, Sem.run_bind, run_newObj, Sem.run_pure, range0]
            · simp only [h0, if_false, Result.andThen_ok, newRow, Sem.run_bind, run_newObj, Sem.run_pure]
          · simp only [VR]
            exact ⟨_, _, _, _, hb, rfl, fun _ => rfl, c1, Nat.le_refl _, fun _ => rfl, by simp [hsz]⟩
      · cases h
    · cases h
  · cases h

include hX in
theorem convBytes_lay {a b e : TypeId} {v : Str} {r : OR} (ha : X.und a = some .string) (hb : X.und b = some (.slice e)) (h : convBytes X e v s = some r) :
    ∃ ab f, (∀ s', convBytes X e v s' = some (.val (f s'.nx) (s'.new ab).2)) ∧ ∀ ι w cx, VR ι (.str v) cx → LayOK P ι w ((do pure (.value (← convert a b cx)) : Sem Next).run P w) ab f := by
  unfold convBytes at h
  split at h
  · rename_i he
    split at h
    · rename_i hlen
      refine ⟨.cells (Tr.of (toBytes v v.len)) v.len, fun b => .slc (some (b, 0, 1)) v.len v.len false, fun s' => ?_, fun ι w cx hx => ?_⟩
      · unfold convBytes
        simp only [he, hlen, newC_eq]
        rfl
      · obtain ⟨bs, rfl, rfl⟩ := hx.str
        have hrun := run_bytes_of_string (P := P) w a b e bs (und_spec hX ha) (und_spec hX hb) (und_spec hX he)
        have hge := grownCap_ge w bs.size 0 e
        have hsz : bs.size = (Str.of bs).len := by simp [Str.of]
        have hl : bs.data.toList.length = bs.size := by simp only [ByteArray.size, Array.length_toList]
        generalize grownCap w bs.size 0 e = G at hrun hge
        have hrow : (bytesRow bs G).size = G := by simp [bytesRow]; omega
        refine ⟨_, G, _, w.drew.alloc (.cells (bytesRow bs G) e ((bytesRow bs G).size, (bytesRow bs G).size + 1)), value_run hrun, rfl, ⟨rfl, rfl⟩, fun κ hκ => ?_, fun κ b hb => ?_⟩
        · refine ⟨_, e, _, heap_push_new, fun j hj => ⟨by rw [hrow]; exact hj, by rw [hrow]; simp only at hj ⊢; omega⟩, fun i v hiv => ?_⟩
          have hiv := Tr.get_of hiv
          rw [toBytes_all] at hiv
          have hi : i < bs.size := by
            have := (List.getElem?_eq_some_iff.1 hiv).1
            simpa using this
          refine ⟨by omega, by simp only; omega, .int .u8 (bs.data[i].toNat : Int), ?_, ?_⟩
          · simp only [Nat.zero_add, bytesRow]
            rw [Array.getElem?_append_left (by simpa using hi)]
            simp [Array.getElem?_eq_getElem (show i < bs.data.size from hi)]
          · have h1 : (bs.data.toList.map fun b => AV.int .u8 (b.toNat : Int))[i]? = some (.int .u8 (bs.data[i].toNat : Int)) := by
              simp [Array.getElem?_eq_getElem (show i < bs.data.size from hi)]
            rw [h1] at hiv
            cases hiv
            simp [VR]
        · simp only [VR]
          exact ⟨_, _, _, _, hb, by rw [hsz], fun _ => rfl, Nat.le_refl _, by omega, (fun e => by cases e), by simp⟩
    · cases h
  · cases h

omit hX in
theorem pure1_ne (o : Option AV) {v : AV} {s : St} : pure1 o ≠ some (.val v s) := by cases o <;> simp [pure1]
omit hX in
theorem old1_ne (o : Option AV) {v : AV} {s : St} : old1 o ≠ some (.val v s) := by cases o <;> simp [old1]
omit hX in
theorem ansOk_ne {ok : Bool} {u : AV} {b : Bool} {v : AV} {s : St} : ansOk ok u b ≠ some (.val v s) := by cases ok <;> simp [ansOk]
include hX in
/-- ONE THAT DOES NOT ACT AND YIELDS A NEW STATE lays one block, the same whatever the state. -/
theorem lay_sound {o : Oper} {fr : Fr} {v : AV} {s1 : St} (h : opAt X o fr s = some (.val v s1)) (hn : acts o = false) : mayLay o = true ∧
    ∃ ab f, (∀ s', opAt X o fr s' = some (.val (f s'.nx) (s'.new ab).2)) ∧ ∀ ι w (a : Act), (∀ x ∈ o.op.operands, VR ι (fr.opd x) (a.eval x)) → LayOK P ι w ((execOp a.eval o).run P w) ab f := by
  unfold opAt at h
  split at h <;> rename_i ho
  case h_4 => 
    obtain ⟨ab, f, h1, h2⟩ := opAlloc_lay hX h
    exact ⟨by simp [mayLay, ho], ab, f, fun s' => by simp only [opAt, ho]; exact h1 s', fun ι w a _ => by simp only [execOp, ho]; exact h2 ι w⟩
  case h_5 t x => 
    obtain ⟨ab, f, h1, h2⟩ := opBox_lay (P := P) (t := t) h
    exact ⟨by simp [mayLay, ho], ab, f, fun s' => by simp only [opAt, ho]; exact h1 s', fun ι w a he => by simp only [execOp, ho]; exact h2 ι w _ (he _ (by simp [Op.operands, ho]))⟩
  case h_7 t n ps => 
    obtain ⟨ab, f, h1, h2⟩ := opBuildS_lay hX h
    exact ⟨by simp [mayLay, ho], ab, f, fun s' => by simp only [opAt, ho]; exact h1 s', fun ι w a he => by simp only [execOp, ho]; exact h2 ι w a fun p hp => he p.2 (by simp only [ho, Op.operands, List.mem_toArray, List.mem_map]; exact ⟨p, hp, rfl⟩)⟩
  case h_13 t u x =>
    unfold opConvert at h
    split at h
    · cases h
    · split at h <;> cases h
    · cases h
    · rename_i e v ha hb hv
      obtain ⟨ab, f, h1, h2⟩ := convBytes_lay (P := P) hX ha hb h
      refine ⟨by simp [mayLay, ho], ab, f, fun s' => ?_, fun ι w a he => by simp only [execOp, ho]; exact h2 ι w _ (by rw [← hv]; exact he _ (by simp [Op.operands, ho]))⟩
      simp only [opAt, ho, opConvert, ha, hb, hv]
      exact h1 s'
    · unfold convStr at h
      split at h
      · split at h
        · split at h <;> cases h
        · cases h
      · cases h
    · cases h
  case h_16 t =>
    exact ⟨by simp [mayLay, ho], .map [], fun b => .map (some b), fun s' => by simp only [opAt, ho, opMkMap]; rfl, fun ι w a _ => by simp only [execOp, ho]; exact opMkMap_lay ι w⟩
  case h_17 t l c =>
    obtain ⟨ab, f, h1, h2⟩ := opMkSlice_lay (P := P) hX h
    exact ⟨by simp [mayLay, ho], ab, f, fun s' => by simp only [opAt, ho]; exact h1 s', fun ι w a he => by simp only [execOp, ho]; exact h2 ι w _ _ (he _ (by simp [Op.operands, ho])) (he _ (by simp [Op.operands, ho]))⟩
  case h_28 c =>
    unfold opCall at h
    split at h
    · rename_i f hc
      simp [acts, ho, hc] at hn
    · rename_i b hc
      unfold builtinAt at h
      split at h
      · split at h
        · unfold args1 at h
          split at h
          · exact absurd h (pure1_ne _)
          · cases h
        · cases h
      · split at h
        · unfold args1 at h
          split at h
          · exact absurd h (pure1_ne _)
          · cases h
        · cases h
      · simp [acts, ho, hc] at hn
      · simp [acts, ho, hc] at hn
      · exact absurd h (pure1_ne _)
      · exact absurd h (pure1_ne _)
      · simp [acts, ho, hc] at hn
      · cases h
    · rename_i rv name hc
      simp [acts, ho, hc] at hn
  all_goals first
    | (cases h; done)
    | (simp [acts, ho] at hn; done)
    | exact absurd h (pure1_ne _)
    | exact absurd h (old1_ne _)
    | (exfalso; first
        | unfold opPick at h
        | unfold opBuild opBuildF opBuildA okAgg at h
        | unfold opNil at h
        | unfold opMkIface at h
        | unfold opFieldAddr fieldGo fieldGoG at h
        | unfold opField at h
        | unfold opIndexAddr elemGo elemGoG at h
        | unfold opIndex opIndexA at h
        | unfold opLookup lookGo at h
        | unfold opExtract at h
       repeat' split at h
       all_goals first
        | (cases h; done)
        | exact ansOk_ne h
        | exact old1_ne _ h)
end
end Go.Am
