/-
  MAPS of the abstract machine against the model's: whatever order the model holds the entries in.
-/
import Derived.Test.YtiahoioaklpnlaaGreatDoorAmOps2
namespace Go.Am
section
variable {P : Program} {X : Ctx} (hX : CtxOK P X) {ι : Inj} {s : St} {w : World}

theorem keyEq_true {k a : AV} (h : keyEq k a = some true) : a = k := by
  unfold keyEq at h
  split at h
  · split at h
    · rename_i hj; simp at h; rw [hj, h]
    · cases h
  · simp only [Option.some.injEq] at h
    rename_i x y
    unfold Str.beq at h
    rw [Bool.and_eq_true] at h
    have h1 := Nat.beq_eq.mp h.1
    have h2 := Nat.beq_eq.mp h.2
    cases x; cases y; simp only at h1 h2; rw [h1, h2]
  · simp at h; rw [h]
  · cases h
theorem Str.beq_comm (x y : Str) : x.beq y = y.beq x := by
  rw [Bool.eq_iff_iff]
  simp only [Str.beq, Bool.and_eq_true, Nat.beq_eq]
  exact ⟨fun h => ⟨h.1.symm, h.2.symm⟩, fun h => ⟨h.1.symm, h.2.symm⟩⟩
theorem keyEq_comm (a b : AV) : keyEq a b = keyEq b a := by
  cases a <;> cases b <;> try rfl
  · rename_i x y; cases x <;> cases y <;> rfl
  · rename_i j x k y
    simp only [keyEq]
    by_cases h : j = k
    · subst h; simp only [if_true, Option.some.injEq]; exact decide_eq_decide.mpr ⟨Eq.symm, Eq.symm⟩
    · rw [if_neg h, if_neg (Ne.symm h)]
  · rename_i x y; simp only [keyEq, Str.beq_comm]
theorem keyEq_spec {d : TypeDesc} {k a : AV} {ck ca : Value} {b : Bool} (hd : plainKey d k = true) (h : keyEq k a = some b) (hk : VR ι k ck) (ha : VR ι a ca) : Instr.sameNow d ck ca = some b := by
  unfold keyEq at h
  split at h
  · split at h
    · rename_i hj
      have e1 := hk.int; have e2 := ha.int; subst e1; subst e2; subst hj
      cases d <;> simp [plainKey] at hd
      cases h
      simp only [Instr.sameNow, if_true]; congr 1
    · cases h
  · obtain ⟨ba, rfl, rfl⟩ := hk.str; obtain ⟨bc, rfl, rfl⟩ := ha.str
    cases d <;> simp [plainKey] at hd
    cases h
    simp only [Instr.sameNow, Str.beq_of]
    congr 1
    rw [beq_toListBytes, toList_data, toList_data]
    rw [Bool.eq_iff_iff]; simp
  · have e1 := hk.bool; have e2 := ha.bool; subst e1; subst e2
    cases d <;> simp [plainKey] at hd
    cases h
    simp only [Instr.sameNow]
  · cases h
/-- The model's two keys are one, to the bit. -/
theorem same_bits {d : TypeDesc} {x y : Value} (h : Instr.sameNow d x y = some true) (n : Nat) : Instr.sameBits n y x = true := by
  unfold Instr.sameNow at h
  split at h
  · split at h
    · rename_i hk; simp at h; subst hk; subst h; cases n <;> simp [Instr.sameBits]
    · cases h
  · simp only [Option.some.injEq] at h
    rename_i a b
    have hb : (b == a) = true := by
      rw [beq_toListBytes] at h ⊢
      rw [beq_iff_eq] at h ⊢; exact h.symm
    cases n <;> simpa [Instr.sameBits] using hb
  · simp only [Option.some.injEq, beq_iff_eq] at h
    subst h; cases n <;> simp [Instr.sameBits]
  · cases h

theorem ERs.length {es : List (AV × AV)} {l : List MapEntry} (h : ERs ι es l) : es.length = l.length := by
  induction h with
  | nil => rfl
  | cons _ _ ih => simp [ih]
theorem ERs.get {es : List (AV × AV)} {l : List MapEntry} (h : ERs ι es l) : ∀ (i : Nat) (e : MapEntry), l[i]? = some e → ∃ p, es[i]? = some p ∧ ER ι p e := by
  induction h with
  | nil => intro i e he; simp at he
  | cons h1 _ ih =>
    intro i e he
    cases i with
    | zero => simp at he; subst he; exact ⟨_, rfl, h1⟩
    | succ i => simp at he; simpa using ih i e he
theorem ERs.get' {es : List (AV × AV)} {l : List MapEntry} (h : ERs ι es l) : ∀ (i : Nat) (p : AV × AV), es[i]? = some p → ∃ e, l[i]? = some e ∧ ER ι p e := by
  induction h with
  | nil => intro i e he; simp at he
  | cons h1 _ ih =>
    intro i e he
    cases i with
    | zero => simp at he; subst he; exact ⟨_, rfl, h1⟩
    | succ i => simp at he; simpa using ih i e he
theorem ERs.set {es : List (AV × AV)} {l : List MapEntry} (h : ERs ι es l) : ∀ (i : Nat) {p : AV × AV} {e : MapEntry}, ER ι p e → ERs ι (es.set i p) (l.set i e) := by
  induction h with
  | nil => intro i p e _; simp; exact .nil
  | cons h1 h2 ih =>
    intro i p e he
    cases i with
    | zero => exact .cons he h2
    | succ i => exact .cons h1 (ih i he)
theorem ERs.erase {es : List (AV × AV)} {l : List MapEntry} (h : ERs ι es l) : ∀ (i : Nat), ERs ι (es.eraseIdx i) (l.eraseIdx i) := by
  induction h with
  | nil => intro i; simp; exact .nil
  | cons h1 h2 ih =>
    intro i
    cases i with
    | zero => exact h2
    | succ i => exact .cons h1 (ih i)
theorem ERs.snoc {es : List (AV × AV)} {l : List MapEntry} (h : ERs ι es l) {p : AV × AV} {e : MapEntry} (he : ER ι p e) : ERs ι (es ++ [p]) (l ++ [e]) := by
  induction h with
  | nil => exact .cons he .nil
  | cons h1 _ ih => exact .cons h1 ih

/-- Where a key stands: there it is one with it, elsewhere it is told from it. -/
def At (k : AV) (es : List (AV × AV)) (i : Nat) : Prop := ∀ j p, es[j]? = some p → keyEq k p.1 = some (decide (j = i))
theorem At.of_kd {k : AV} {es : List (AV × AV)} {i : Nat} {p : AV × AV} (hd : KD es) (hp : es[i]? = some p) (ht : keyEq k p.1 = some true) : At k es i := by
  intro j q hq
  have e := keyEq_true ht
  by_cases hij : j = i
  · subst hij; rw [hp] at hq; cases hq; simpa using ht
  · rw [decide_eq_false hij, ← e]
    have hlj : j < es.length := by
      rcases Nat.lt_or_ge j es.length with h | h
      · exact h
      · rw [List.getElem?_eq_none h] at hq; cases hq
    have hli : i < es.length := by
      rcases Nat.lt_or_ge i es.length with h | h
      · exact h
      · rw [List.getElem?_eq_none h] at hp; cases hp
    have hqe : es[j] = q := by rw [List.getElem?_eq_getElem hlj] at hq; exact Option.some.inj hq
    have hpe : es[i] = p := by rw [List.getElem?_eq_getElem hli] at hp; exact Option.some.inj hp
    have hpw := List.pairwise_iff_getElem.mp hd
    rcases Nat.lt_or_gt_of_ne hij with h | h
    · have := hpw j i hlj hli h
      rw [hqe, hpe] at this
      rw [keyEq_comm]; exact this
    · have := hpw i j hli hlj h
      rw [hqe, hpe] at this
      exact this
theorem findK_some {k v : AV} : ∀ {es : List (AV × AV)}, findK k es = some (some v) → ∃ (i : Nat) (a : AV), es[i]? = some (a, v) ∧ keyEq k a = some true
  | [], h => by simp [findK] at h
  | (a, x) :: es, h => by
    simp only [findK] at h
    split at h
    · rename_i ht; cases h; exact ⟨0, a, rfl, ht⟩
    · obtain ⟨i, b, h1, h2⟩ := findK_some h; exact ⟨i + 1, b, by simpa using h1, h2⟩
    · cases h
theorem findK_none {k : AV} : ∀ {es : List (AV × AV)}, findK k es = some none → ∀ p ∈ es, keyEq k p.1 = some false
  | [], _, _, hp => by simp at hp
  | (a, x) :: es, h, p, hp => by
    simp only [findK] at h
    split at h
    · cases h
    · rename_i hf
      rcases List.mem_cons.1 hp with rfl | hp
      · exact hf
      · exact findK_none h p hp
    · cases h
theorem putK_spec {k x : AV} : ∀ {es es' : List (AV × AV)}, putK k x es = some es' →
    (∃ (i : Nat) (a v : AV), es[i]? = some (a, v) ∧ keyEq k a = some true ∧ es' = es.set i (a, x)) ∨ ((∀ p ∈ es, keyEq k p.1 = some false) ∧ es' = es ++ [(k, x)])
  | [], es', h => by simp [putK] at h; subst h; exact .inr ⟨by simp, rfl⟩
  | (a, v) :: es, es', h => by
    simp only [putK] at h
    split at h
    · rename_i ht; cases h; exact .inl ⟨0, a, v, rfl, ht, rfl⟩
    · rename_i hf
      split at h
      · rename_i l hl; cases h
        rcases putK_spec hl with ⟨i, b, u, h1, h2, rfl⟩ | ⟨h1, rfl⟩
        · exact .inl ⟨i + 1, b, u, by simpa using h1, h2, rfl⟩
        · refine .inr ⟨fun p hp => ?_, rfl⟩
          rcases List.mem_cons.1 hp with rfl | hp
          · exact hf
          · exact h1 p hp
      · cases h
    · cases h
theorem delK_spec {k : AV} : ∀ {es es' : List (AV × AV)}, delK k es = some es' →
    (∃ (i : Nat) (a v : AV), es[i]? = some (a, v) ∧ keyEq k a = some true ∧ es' = es.eraseIdx i) ∨ ((∀ p ∈ es, keyEq k p.1 = some false) ∧ es' = es)
  | [], es', h => by simp [delK] at h; subst h; exact .inr ⟨by simp, rfl⟩
  | (a, v) :: es, es', h => by
    simp only [delK] at h
    split at h
    · rename_i ht; cases h; exact .inl ⟨0, a, v, rfl, ht, rfl⟩
    · rename_i hf
      split at h
      · rename_i l hl; cases h
        rcases delK_spec hl with ⟨i, b, u, h1, h2, rfl⟩ | ⟨h1, rfl⟩
        · exact .inl ⟨i + 1, b, u, by simpa using h1, h2, rfl⟩
        · refine .inr ⟨fun p hp => ?_, rfl⟩
          rcases List.mem_cons.1 hp with rfl | hp
          · exact hf
          · exact h1 p hp
      · cases h
    · cases h

theorem findNow_none {d : TypeDesc} {ck : Value} : ∀ (l : List MapEntry) (i : Nat), (∀ e ∈ l, Instr.sameNow d ck e.key = some false) → Instr.findNow d ck l i = some none
  | [], _, _ => rfl
  | e :: l, i, h => by
    simp only [Instr.findNow, h e (List.mem_cons_self ..)]
    exact findNow_none l (i + 1) fun x hx => h x (List.mem_cons_of_mem _ hx)
theorem findNow_some {d : TypeDesc} {ck : Value} {e0 : MapEntry} : ∀ (l : List MapEntry) (i : Nat), e0 ∈ l → (∀ e ∈ l, Instr.sameNow d ck e.key = some true ∧ e = e0 ∨ Instr.sameNow d ck e.key = some false) → Instr.sameNow d ck e0.key = some true →
    ∃ j, Instr.findNow d ck l i = some (some (i + j, e0.val)) ∧ l[j]? = some e0
  | [], _, h, _, _ => by simp at h
  | e :: l, i, h, hall, h0 => by
    rcases hall e (List.mem_cons_self ..) with ⟨ht, rfl⟩ | hf
    · exact ⟨0, by simp [Instr.findNow, ht], rfl⟩
    · have hne : e0 ∈ l := by
        rcases List.mem_cons.1 h with rfl | h
        · rw [h0] at hf; cases hf
        · exact h
      obtain ⟨j, h1, h2⟩ := findNow_some l (i + 1) hne (fun x hx => hall x (List.mem_cons_of_mem _ hx)) h0
      refine ⟨j + 1, ?_, by simpa using h2⟩
      simp only [Instr.findNow, hf, h1]
      congr 3; omega

include hX in
theorem checkKey_run {t : TypeId} {d : TypeDesc} {k : AV} (hu : X.und t = some d) (hd : plainKey d k = true) (b : Bool) (cv : Value) : (Instr.checkKey b 10000 t cv).run P w = .ok () w := by
  show (Instr.checkKey b (9999 + 1) t cv).run P w = _
  have : ∀ n, (Instr.checkKey b (n + 1) t cv).run P w = .ok () w := fun n => by
    simp only [Instr.checkKey, Sem.run_bind, run_und hX hu, Result.andThen_ok]
    cases d <;> first | (simp [plainKey] at hd; done) | (cases cv <;> rfl)
  exact this 9999

/-- A key that is there: where the model has it. -/
theorem find_some {es : List (AV × AV)} {l l' : List MapEntry} {d : TypeDesc} {k : AV} {ck : Value} {i : Nat} {p : AV × AV} (hp : l'.Perm l) (hr : ERs ι es l') (hd : plainKey d k = true) (hk : VR ι k ck)
    (hat : At k es i) (hi : es[i]? = some p) : ∃ (e0 : MapEntry) (j : Nat), l'[i]? = some e0 ∧ ER ι p e0 ∧ Instr.findNow d ck l 0 = some (some (j, e0.val)) ∧ l[j]? = some e0 ∧ Instr.sameNow d ck e0.key = some true := by
  obtain ⟨e0, h1, h2⟩ := hr.get' i p hi
  have h0 : Instr.sameNow d ck e0.key = some true := keyEq_spec hd (by have := hat i p hi; simpa using this) hk h2.1
  have hmem : e0 ∈ l := hp.mem_iff.mp (List.mem_of_getElem? h1)
  obtain ⟨j, h3, h4⟩ := findNow_some (d := d) (ck := ck) l 0 hmem (fun e he => by
    have he' := hp.mem_iff.mpr he
    obtain ⟨n, hn⟩ := List.getElem?_of_mem he'
    obtain ⟨q, hq, hqe⟩ := hr.get n e hn
    have := keyEq_spec hd (hat n q hq) hk hqe.1
    by_cases hni : n = i
    · subst hni
      rw [h1] at hn; cases hn
      exact .inl ⟨h0, rfl⟩
    · rw [decide_eq_false hni] at this; exact .inr this) h0
  exact ⟨e0, j, h1, h2, by simpa using h3, h4, h0⟩
theorem find_none {es : List (AV × AV)} {l l' : List MapEntry} {d : TypeDesc} {k : AV} {ck : Value} (hp : l'.Perm l) (hr : ERs ι es l') (hd : plainKey d k = true) (hk : VR ι k ck)
    (hno : ∀ p ∈ es, keyEq k p.1 = some false) : Instr.findNow d ck l 0 = some none := by
  refine findNow_none l 0 fun e he => ?_
  have he' := hp.mem_iff.mpr he
  obtain ⟨n, hn⟩ := List.getElem?_of_mem he'
  obtain ⟨q, hq, hqe⟩ := hr.get n e hn
  exact keyEq_spec hd (hno q (List.mem_of_getElem? hq)) hk hqe.1
include hX in
theorem findKey_run {t : TypeId} {d : TypeDesc} {ck : Value} {l : List MapEntry} {r : Option (Nat × Value)} (hu : X.und t = some d) (h : Instr.findNow d ck l 0 = some r) : (Instr.findKey t ck l).run P w = .ok r w := by
  simp [Instr.findKey, run_und hX hu, h]

theorem map_cases {x : AV} {cx : Value} {es : List (AV × AV)} (h : mapOf x s = some es) (hH : HR P ι s w) (hx : VR ι x cx) :
    (cx = .map none ∧ es = []) ∨ ∃ r cb, x = .map (some r) ∧ cx = .map (some cb) ∧ ι r = some (cb, 0, 0) ∧ s.h.get r = some (.map es) ∧ KD es ∧ ∃ l clock, w.heap[cb]? = some (.map l clock) ∧ (∃ l', l'.Perm l.toList ∧ ERs ι es l') ∧ (l.toList.map (·.born)).Nodup ∧ ∀ e ∈ l.toList, e.born < clock := by
  unfold mapOf at h
  split at h
  · simp only [VR] at hx; cases h; exact .inl ⟨hx, rfl⟩
  · rename_i r
    split at h
    · rename_i es' hg
      cases h
      simp only [VR] at hx
      obtain ⟨cb, d, hb, rfl⟩ := hx
      obtain ⟨h0, hkd, l, clock, h1, h2⟩ := hH.br r cb d _ hb hg
      subst h0
      exact .inr ⟨r, cb, rfl, rfl, hb, hg, hkd, l, clock, h1, h2⟩
    · cases h
  · cases h
include hX in
theorem opLookup_sound {t : TypeId} {x k : AV} {ok : Bool} {cx ck : Value} {r : OR} (h : opLookup X t x k ok s = some r) (hH : HR P ι s w) (hx : VR ι x cx) (hk : VR ι k ck) :
    OpOK P ι s w r ((do pure (.value (← Instr.lookup t cx ck ok)) : Sem Next).run P w) := by
  unfold opLookup at h
  split at h
  · rename_i kt vt hu
    split at h
    · rename_i d es hd hm
      split at h
      · rename_i hpl
        have main : ∀ (l : Array MapEntry), KD es → (∃ l', l'.Perm l.toList ∧ ERs ι es l') →
            ∃ (fk : Option (Nat × Value)) (v : AV) (b : Bool) (cv : Value), (Instr.findKey kt ck l.toList).run P w = .ok fk w ∧ ansOk ok v b = some r ∧ VR ι v cv ∧ ((∃ j, fk = some (j, cv) ∧ b = true) ∨ (fk = none ∧ b = false ∧ (zeroValue vt).run P w = .ok cv w)) := fun l hkd ⟨l', hp, hr⟩ => by
          unfold lookGo at h
          split at h
          · rename_i v hf
            obtain ⟨i, a, hi, ht⟩ := findK_some hf
            obtain ⟨e0, j, _, her, hfn, _, _⟩ := find_some hp hr hpl hk (At.of_kd hkd hi ht) hi
            exact ⟨_, v, true, e0.val, findKey_run hX hd hfn, h, her.2, .inl ⟨j, rfl, rfl⟩⟩
          · rename_i hf
            split at h
            · rename_i z hz
              obtain ⟨cz, h1, rfl⟩ := run_zero hX hz w
              exact ⟨_, _, false, cz, findKey_run hX hd (find_none hp hr hpl hk (findK_none hf)), h, VR_ofV ι cz, .inr ⟨rfl, rfl, h1⟩⟩
            · cases h
          · cases h
        rcases map_cases hm hH hx with ⟨rfl, rfl⟩ | ⟨r', cb, rfl, rfl, _, _, hkd, l, clock, h1, h2, _⟩
        · obtain ⟨fk, v, b, cv, h3, h4, h5, ⟨j, rfl, rfl⟩ | ⟨rfl, rfl, h6⟩⟩ := main #[] .nil ⟨[], .nil, .nil⟩
          · refine ansOk_sound h4 h5 ?_
            simp only [Instr.lookup, Sem.run_bind, run_und hX hu, Result.andThen_ok, Sem.run_pure, checkKey_run hX hd hpl, h3]
          · refine ansOk_sound h4 h5 ?_
            simp only [Instr.lookup, Sem.run_bind, run_und hX hu, Result.andThen_ok, Sem.run_pure, checkKey_run hX hd hpl, h3, h6]
        · have hg : (getObj cb).run P w = .ok (.map l clock) w := by simp [getObj, Sem.run, h1]
          obtain ⟨fk, v, b, cv, h3, h4, h5, ⟨j, rfl, rfl⟩ | ⟨rfl, rfl, h6⟩⟩ := main l hkd h2
          · refine ansOk_sound h4 h5 ?_
            simp only [Instr.lookup, Sem.run_bind, run_und hX hu, Result.andThen_ok, Sem.run_pure, hg, checkKey_run hX hd hpl, h3]
          · refine ansOk_sound h4 h5 ?_
            simp only [Instr.lookup, Sem.run_bind, run_und hX hu, Result.andThen_ok, Sem.run_pure, hg, checkKey_run hX hd hpl, h3, h6]
      · cases h
    · cases h
  · cases h

theorem perm_set {α : Type} {l : List α} : ∀ {j : Nat} {e x : α}, l[j]? = some e → ∃ r, l.Perm (e :: r) ∧ (l.set j x).Perm (x :: r) ∧ (l.eraseIdx j).Perm r := by
  induction l with
  | nil => intro j e x h; simp at h
  | cons a l ih =>
    intro j e x h
    cases j with
    | zero => simp at h; subst h; exact ⟨l, .refl _, .refl _, .refl _⟩
    | succ j =>
      simp at h
      obtain ⟨r, h1, h2, h3⟩ := ih (x := x) h
      refine ⟨a :: r, ?_, ?_, ?_⟩
      · exact (h1.cons a).trans (.swap _ _ _)
      · exact (h2.cons a).trans (.swap _ _ _)
      · simpa using h3.cons a
theorem perm_both {α : Type} {l l' : List α} (hp : l'.Perm l) {i j : Nat} {e x : α} (hi : l'[i]? = some e) (hj : l[j]? = some e) : (l'.set i x).Perm (l.set j x) ∧ (l'.eraseIdx i).Perm (l.eraseIdx j) := by
  obtain ⟨r, a1, a2, a3⟩ := perm_set (x := x) hi
  obtain ⟨q, b1, b2, b3⟩ := perm_set (x := x) hj
  have : r.Perm q := (List.perm_cons e).mp ((a1.symm.trans hp).trans b1)
  exact ⟨(a2.trans (this.cons x)).trans b2.symm, (a3.trans this).trans b3.symm⟩

theorem KD.set {es : List (AV × AV)} {i : Nat} {a v x : AV} (h : KD es) (hi : es[i]? = some (a, v)) : KD (es.set i (a, x)) := by
  unfold KD at *
  rw [List.pairwise_iff_getElem] at *
  intro m n hm hn hmn
  have key : ∀ q (hq : q < (es.set i (a, x)).length), ((es.set i (a, x))[q]).1 = (es[q]'(by simpa using hq)).1 := fun q hq => by
    rw [List.getElem_set]
    split
    · rename_i e; subst e
      have : es[i]'(by simpa using hq) = (a, v) := by
        rw [List.getElem?_eq_getElem (by simpa using hq)] at hi; exact Option.some.inj hi
      rw [this]
    · rfl
  rw [key m hm, key n hn]
  exact h m n _ _ hmn
theorem KD.erase {es : List (AV × AV)} (h : KD es) (i : Nat) : KD (es.eraseIdx i) := List.Pairwise.sublist (List.eraseIdx_sublist _ _) h
theorem KD.snoc {es : List (AV × AV)} {k x : AV} (h : KD es) (hno : ∀ p ∈ es, keyEq k p.1 = some false) : KD (es ++ [(k, x)]) := by
  unfold KD at *
  rw [List.pairwise_append]
  refine ⟨h, by simp, fun p hp q hq => ?_⟩
  simp at hq; subst hq
  rw [keyEq_comm]; exact hno p hp

include hX in
theorem opMapSet_sound {t : TypeId} {m k v : AV} {cm ck cv : Value} {r : OR} (h : opMapSet X t m k v s = some r) (hH : HR P ι s w) (hm : VR ι m cm) (hk : VR ι k ck) (hv : VR ι v cv) :
    OpOK P ι s w r ((do Instr.mapUpdate t cm ck cv; pure .skip : Sem Next).run P w) := by
  unfold opMapSet at h
  split at h
  · cases h
  · split at h
    · rename_i kt vt mr hu
      split at h
      · rename_i d es hd hg
        split at h
        · rename_i es' hpl hput
          cases h
          simp only [VR] at hm
          obtain ⟨cb, dd, hb, rfl⟩ := hm
          obtain ⟨h0, hkd, l, clock, h1, ⟨l', hp, hr⟩, hnd, hbc⟩ := hH.br mr cb dd _ hb hg
          subst h0
          have hg' : (getObj cb).run P w = .ok (.map l clock) w := by simp [getObj, Sem.run, h1]
          have hset : ∀ o, (setObj cb o).run P w = .ok () { w with heap := w.heap.setIfInBounds cb o } := fun o => by simp [setObj, Sem.run, h1]
          have hcb : cb < w.heap.size := (hH.br mr cb (0, 0) _ hb hg).lt
          have fin : ∀ (l2 : Array MapEntry) (k2 : Nat), (Instr.mapUpdate t (.map (some cb)) ck cv).run P w = .ok () { w with heap := w.heap.setIfInBounds cb (.map l2 k2) } → KD es' → (∃ l', l'.Perm l2.toList ∧ ERs ι es' l') → (l2.toList.map (·.born)).Nodup → (∀ e ∈ l2.toList, e.born < k2) →
              OpOK P ι s w (.val (.tup []) (s.setM mr es')) ((do Instr.mapUpdate t (.map (some cb)) ck cv; pure .skip : Sem Next).run P w) := fun l2 k2 hrun hkd' hp' hnd' hbc' => by
            have hs : s.setM mr es' = { s with h := s.h.put mr (.map es') } := by simp [St.setM]
            rw [hs]
            obtain ⟨g1, g2⟩ := hH.put (w' := { w with heap := w.heap.setIfInBounds cb (.map l2 k2) }) hb hg ⟨rfl, rfl⟩ (by simp) (fun c hc => by simp [Array.getElem?_setIfInBounds_ne (Ne.symm hc)])
              (ab' := .map es') ⟨rfl, hkd', l2, k2, by simp [hcb], hp', hnd', hbc'⟩
            exact ⟨_, _, undef, .inr ⟨skip_run hrun, rfl⟩, by simp only [VR, undef]; exact ⟨_, rfl, by simp [VRs]⟩, g1, g2⟩
          rcases putK_spec hput with ⟨i, a, u, hi, ht, rfl⟩ | ⟨hno, rfl⟩
          · obtain ⟨e0, j, h2, her, hfn, hj, hsame⟩ := find_some hp hr hpl hk (At.of_kd hkd hi ht) hi
            have hjl : l[j]? = some e0 := by simpa using hj
            have hkts : (Instr.keyThatStays e0.key ck).run P w = .ok ck w := by
              simp only [Instr.keyThatStays, same_bits hsame, if_true, Sem.run_pure]
            refine fin (l.modify j fun e => { e with key := ck, val := cv }) clock ?_ (hkd.set hi) ?_ ?_ ?_
            · simp only [Instr.mapUpdate, Sem.run_bind, run_und hX hu, Result.andThen_ok, hg', checkKey_run hX hd hpl, findKey_run hX hd hfn, hjl, Option.map_some, Option.getD_some, hkts, hset]
            · have hl2 : (l.modify j fun e => { e with key := ck, val := cv }).toList = l.toList.set j { e0 with key := ck, val := cv } := by
                rw [Array.toList_modify]
                apply List.ext_getElem?
                intro n
                rw [List.getElem?_modify, List.getElem?_set]
                by_cases hn : j = n
                · subst hn
                  have hlt : j < l.toList.length := by
                    rcases Nat.lt_or_ge j l.toList.length with h' | h'
                    · exact h'
                    · rw [List.getElem?_eq_none h'] at hj; cases hj
                  have hlt' : j < l.size := by simpa using hlt
                  have hje : l[j] = e0 := by
                    rw [Array.getElem?_eq_getElem hlt'] at hjl; exact Option.some.inj hjl
                  simp [hlt', hje]
                · simp [hn]
              rw [hl2]
              refine ⟨l'.set i { e0 with key := ck, val := cv }, (perm_both hp h2 hj).1, hr.set i ⟨?_, hv⟩⟩
              have := keyEq_true ht; subst this; exact hk
            · have : (l.modify j fun e => { e with key := ck, val := cv }).toList.map (·.born) = l.toList.map (·.born) := by
                rw [Array.toList_modify]
                apply List.ext_getElem?
                intro n
                simp only [List.getElem?_map, List.getElem?_modify]
                by_cases hn : j = n
                · subst hn; simp [hj]
                · simp [hn]
              rw [this]; exact hnd
            · intro e he
              obtain ⟨n, hn⟩ := List.getElem?_of_mem he
              rw [Array.toList_modify, List.getElem?_modify] at hn
              by_cases hjn : j = n
              · subst hjn
                simp [hjl] at hn; subst hn
                exact hbc e0 (List.mem_of_getElem? hj)
              · simp [hjn] at hn
                exact hbc e (List.mem_of_getElem? (l := l.toList) (i := n) (by simpa using hn))
          · have hfn := find_none hp hr hpl hk hno
            refine fin (l.push { key := ck, val := cv, born := clock }) (clock + 1) ?_ (hkd.snoc hno) ?_ ?_ ?_
            · simp only [Instr.mapUpdate, Sem.run_bind, run_und hX hu, Result.andThen_ok, hg', checkKey_run hX hd hpl, findKey_run hX hd hfn, hset]
            · refine ⟨l' ++ [{ key := ck, val := cv, born := clock }], ?_, hr.snoc ⟨hk, hv⟩⟩
              rw [Array.toList_push]
              exact hp.append_right _
            · rw [Array.toList_push, List.map_append, List.nodup_append]
              refine ⟨hnd, by simp, fun x hx y hy => ?_⟩
              simp at hy; subst hy
              obtain ⟨e, he, rfl⟩ := List.mem_map.mp hx
              have := hbc e he; omega
            · intro e he
              rw [Array.toList_push] at he
              rcases List.mem_append.mp he with he | he
              · have := hbc e he; omega
              · simp at he; subst he; simp
        · cases h
      · cases h
    · cases h

include hX in
theorem delAt_sound {t ty : TypeId} {ts : Array TypeId} {m k : AV} {cm ck : Value} {r : OR} (h : delAt X t m k s = some r) (hts : ts[0]? = some t) (hH : HR P ι s w) (hm : VR ι m cm) (hk : VR ι k ck) :
    OpOK P ι s w r ((do pure (.value (← Builtin.delete_ ts ty #[cm, ck])) : Sem Next).run P w) := by
  unfold delAt at h
  split at h
  · rename_i mr kt vt hu
    split at h
    · rename_i d es hd hg
      split at h
      · rename_i es' hpl hdel
        cases h
        simp only [VR] at hm
        obtain ⟨cb, dd, hb, rfl⟩ := hm
        obtain ⟨h0, hkd, l, clock, h1, ⟨l', hp, hr⟩, hnd, hbc⟩ := hH.br mr cb dd _ hb hg
        subst h0
        have hg' : (getObj cb).run P w = .ok (.map l clock) w := by simp [getObj, Sem.run, h1]
        have hset : ∀ o, (setObj cb o).run P w = .ok () { w with heap := w.heap.setIfInBounds cb o } := fun o => by simp [setObj, Sem.run, h1]
        have hcb : cb < w.heap.size := (hH.br mr cb (0, 0) _ hb hg).lt
        have fin : ∀ (l2 : Array MapEntry), (Builtin.delete_ ts ty #[.map (some cb), ck]).run P w = .ok (.tuple #[]) { w with heap := w.heap.setIfInBounds cb (.map l2 clock) } → KD es' → (∃ l', l'.Perm l2.toList ∧ ERs ι es' l') → (l2.toList.map (·.born)).Nodup → (∀ e ∈ l2.toList, e.born < clock) →
            OpOK P ι s w (.val (.tup []) (s.setM mr es')) ((do pure (.value (← Builtin.delete_ ts ty #[.map (some cb), ck])) : Sem Next).run P w) := fun l2 hrun hkd' hp' hnd' hbc' => by
          have hs : s.setM mr es' = { s with h := s.h.put mr (.map es') } := by simp [St.setM]
          rw [hs]
          obtain ⟨g1, g2⟩ := hH.put (w' := { w with heap := w.heap.setIfInBounds cb (.map l2 clock) }) hb hg ⟨rfl, rfl⟩ (by simp) (fun c hc => by simp [Array.getElem?_setIfInBounds_ne (Ne.symm hc)])
            (ab' := .map es') ⟨rfl, hkd', l2, clock, by simp [hcb], hp', hnd', hbc'⟩
          exact ⟨_, _, .tuple #[], .inl (value_run hrun), by simp only [VR]; exact ⟨_, rfl, by simp [VRs]⟩, g1, g2⟩
        rcases delK_spec hdel with ⟨i, a, u, hi, ht, rfl⟩ | ⟨hno, rfl⟩
        · obtain ⟨e0, j, h2, her, hfn, hj, hsame⟩ := find_some hp hr hpl hk (At.of_kd hkd hi ht) hi
          have hsub : (l.toList.eraseIdx j).Sublist l.toList := List.eraseIdx_sublist _ _
          refine fin (l.eraseIdxIfInBounds j) ?_ (hkd.erase i) ?_ ?_ ?_
          · simp only [Builtin.delete_, hts, List.getElem?_toArray, List.getElem?_cons_zero, List.getElem?_cons_succ, Sem.run_bind, run_und hX hu, Result.andThen_ok, hg', checkKey_run hX hd hpl, findKey_run hX hd hfn, hset, Sem.run_pure]
          · rw [Array.toList_eraseIdxIfInBounds]
            exact ⟨_, (perm_both (x := e0) hp h2 hj).2, hr.erase i⟩
          · rw [Array.toList_eraseIdxIfInBounds]
            exact hnd.sublist (hsub.map _)
          · intro e he
            rw [Array.toList_eraseIdxIfInBounds] at he
            exact hbc e (hsub.mem he)
        · have hfn := find_none hp hr hpl hk hno
          refine fin l ?_ hkd ⟨l', hp, hr⟩ hnd hbc
          simp only [Builtin.delete_, hts, List.getElem?_toArray, List.getElem?_cons_zero, List.getElem?_cons_succ, Sem.run_bind, run_und hX hu, Result.andThen_ok, hg', checkKey_run hX hd hpl, findKey_run hX hd hfn, hset, Sem.run_pure]
      · cases h
    · cases h
  · cases h
end
end Go.Am
