/-
  SLICES THAT GROW, COPIES, TEXTS AND BYTES of the abstract machine against the model's.
-/
import Derived.Test.YtiahoioaklpnlaaGreatDoorAmMaps
import Derived.Laws.IdiomStrings
namespace Go.Am
section
variable {P : Program} {X : Ctx} (hX : CtxOK P X) {ι : Inj} {s : St} {w : World}

theorem toBytes_spec (bs : ByteArray) : ∀ n, n ≤ bs.data.toList.length → toBytes (Str.of bs) n = (bs.data.toList.drop (bs.data.toList.length - n)).map fun b => AV.int .u8 (b.toNat : Int)
  | 0, _ => by simp [toBytes]
  | n + 1, h => by
    simp only [toBytes]
    have hlt : bs.data.toList.length - (n + 1) < bs.data.toList.length := by omega
    have hl : (Str.of bs).len = bs.data.toList.length := rfl
    rw [toBytes_spec bs n (by omega), hl, str_at hlt, List.drop_eq_getElem_cons hlt]
    have e : bs.data.toList.length - (n + 1) + 1 = bs.data.toList.length - n := by omega
    rw [e]; simp
theorem toBytes_all (bs : ByteArray) : toBytes (Str.of bs) (Str.of bs).len = bs.data.toList.map fun b => AV.int .u8 (b.toNat : Int) := by
  have := toBytes_spec bs (Str.of bs).len (Nat.le_refl _)
  simpa [Str.of] using this
theorem VRs_bytes (l : List UInt8) : VRs ι (l.map fun b => AV.int .u8 (b.toNat : Int)) (l.map fun b => Value.int .u8 (b.toNat : Int)) := by
  induction l with
  | nil => simp [VRs]
  | cons b l ih => simp only [List.map_cons, VRs]; exact ⟨by simp [VR], ih⟩

/-- What is appended, or copied. -/
theorem src_spec {size n : Nat} {y : AV} {cy : Value} {new : List AV} (h : srcCells s size y = some (n, new)) (hH : HR P ι s w) (hy : VR ι y cy) :
    ∃ news : List Value, (Builtin.firstCells size n cy).run P w = .ok news.toArray w ∧ VRs ι new news ∧ (Builtin.lenOf cy).run P w = .ok n w ∧ new.length = n * size := by
  unfold srcCells at h
  split at h
  · rename_i m c x
    simp only [VR] at hy; obtain ⟨rfl, rfl, rfl, rfl⟩ := hy
    simp at h; obtain ⟨rfl, rfl⟩ := h
    exact ⟨[], by simp [Builtin.firstCells], by simp [VRs], by simp [Builtin.lenOf], by simp⟩
  · rename_i b off es m c x
    simp only [VR] at hy
    obtain ⟨cb, d, o, cm, hb, rfl, ho, hn, hc, hx, hr⟩ := hy
    split at h
    · rename_i h0
      have h0 := Nat.beq_eq.mp h0
      subst h0
      cases h
      exact ⟨[], by simp [Builtin.firstCells, loadCells, loadCellsFrom], by simp [VRs], by simp [Builtin.lenOf], by simp⟩
    · rename_i h0
      have h0 : m ≠ 0 := fun e => by rw [e] at h0; simp at h0
      split at h
      · rename_i c' k hcells
        split at h
        · rename_i l hl
          cases h
          have ho := ho (.inl (by omega))
          subst ho
          obtain ⟨vs, h1, h2⟩ := run_ld (P := P) hH ⟨b, hb, hcells⟩ hl
          exact ⟨vs, by simpa [Builtin.firstCells] using h1, h2, by simp [Builtin.lenOf], (ldL_spec hl).1⟩
        · cases h
      · cases h
  · obtain ⟨bs, rfl, rfl⟩ := hy.str
    split at h
    · rename_i h1
      have h1 := Nat.beq_eq.mp h1
      subst h1
      cases h
      refine ⟨bs.data.toList.map fun b => Value.int .u8 (b.toNat : Int), ?_, ?_, by simp [Builtin.lenOf, Str.of], ?_⟩
      · simp only [Builtin.firstCells, Sem.run_pure]
        congr 1
        have : bs.extract 0 (Str.of bs).len = bs := by
          have : (Str.of bs).len = bs.size := by simp [Str.of]
          rw [this]; exact ByteArray.extract_zero_size
        rw [this]
        apply Array.ext'
        simp
      · rw [toBytes_all]; exact VRs_bytes _
      · rw [toBytes_all]; simp [Str.of]
    · cases h
  · cases h

theorem HR.drew (h : HR P ι s w) : HR P ι s w.drew := h.heap rfl
theorem grownCap_ge (w : World) (need old : Nat) (e : TypeId) : need ≤ grownCap w need old e := by
  simp only [grownCap, Question.cut]; omega

include hX in
/-- 'append' where it must grow. -/
theorem run_append_new {t u ty e : TypeId} {rest : List TypeId} {size n len ccap : Nat} {base : Option Addr} {cy : Value} {olds news : List Value} (hu : X.und t = some (.slice e)) (hi : ∀ d, X.und u = some d → ∀ k, d ≠ .int k) (hu2 : ∃ d, X.und u = some d)
    (he : X.elem e = some size) (hl : (Builtin.lenOf cy).run P w = .ok n w) (ho : (Builtin.firstCells size len (.slice base len ccap)).run P w.drew = .ok olds.toArray w.drew) (hn : (Builtin.firstCells size n cy).run P w.drew = .ok news.toArray w.drew)
    (hno : ¬ len + n ≤ ccap) (hsmall : len + n ≤ 1000000) :
    ∃ zc : Array Value, zc.size = size ∧ (Builtin.append_ (t :: u :: rest).toArray ty #[.slice base len ccap, cy]).run P w =
      .ok (.slice (some ⟨w.heap.size, 0, none⟩) (len + n) (grownCap w (len + n) ccap e)) (w.drew.alloc (.cells (olds.toArray ++ news.toArray ++ Builtin.zeroCells zc (grownCap w (len + n) ccap e - (len + n))) e)) := by
  obtain ⟨i, hti, hsz, hby, hpos, z, hz, hzs⟩ := elem_spec he
  refine ⟨z.cells, hzs, ?_⟩
  obtain ⟨d, hd⟩ := hu2
  have hni := hi d hd
  have hcap := nextslicecap_le (need := len + n) (old := ccap) (by omega)
  have hb : ¬ (2 ^ 48 < Builtin.nextslicecap (len + n) ccap * i.bytes) := by
    have h1 : Builtin.nextslicecap (len + n) ccap * i.bytes ≤ (2 * 1000000) * 1048576 := Nat.mul_le_mul (by omega) hby
    omega
  have hmax : ¬ (IntKind.i64.max < ((len + n : Nat) : Int)) := by
    simp only [IntKind.max, IntKind.signed, IntKind.bits, if_true]; omega
  have hzv : (zeroValue e).run P w.drew = .ok z w.drew := by simp [zeroValue, run_typeInfo hX hti, hz]
  simp only [Builtin.append_, List.getElem?_toArray, List.getElem?_cons_zero, List.getElem?_cons_succ, Sem.run_bind, run_und hX hu, run_und hX hd, Result.andThen_ok, run_size hX (elem_size he), Sem.run_pure]
  have hq : ({ w with drawn := w.drawn + 1 } : World) = w.drew := rfl
  simp only [Bool.false_eq_true, if_false, hl, Result.andThen_ok, hno, false_or, Sem.run_ite, Sem.run_bind, gt_iff_lt, hmax, false_and, run_typeInfo hX hti, hb, run_choose, Question.forced, run_askRoom, hq, Sem.run_pure, Bool.not_false, if_true]
  simp only [ho, hn, hzv, Result.andThen_ok, newRow, Sem.run_bind, run_newObj, Sem.run_pure]
  rfl

include hX in
/-- 'append' where there is room. -/
theorem run_append_room {t u ty e : TypeId} {rest : List TypeId} {size n len ccap : Nat} {base : Option Addr} {cy : Value} {news : List Value} {w' : World} (hu : X.und t = some (.slice e)) (hi : ∀ d, X.und u = some d → ∀ k, d ≠ .int k) (hu2 : ∃ d, X.und u = some d)
    (he : X.elem e = some size) (hl : (Builtin.lenOf cy).run P w = .ok n w) (hn : (Builtin.firstCells size n cy).run P w = .ok news.toArray w) (hno : len + n ≤ ccap)
    (hst : (match base with | some a => storeCells (a.add (len * size)) news | none => pure () : Sem Unit).run P w = .ok () w') :
    (Builtin.append_ (t :: u :: rest).toArray ty #[.slice base len ccap, cy]).run P w = .ok (.slice base (len + n) ccap) w' := by
  obtain ⟨d, hd⟩ := hu2
  have hni := hi d hd
  simp only [Builtin.append_, List.getElem?_toArray, List.getElem?_cons_zero, List.getElem?_cons_succ, Sem.run_bind, run_und hX hu, run_und hX hd, Result.andThen_ok, run_size hX (elem_size he), Sem.run_pure]
  simp only [Bool.false_eq_true, if_false, hl, Result.andThen_ok, hno, if_true, Sem.run_ite, Sem.run_bind, Bool.not_false, hn]
  cases base with
  | none => simp only [Sem.run_pure, Result.ok.injEq, true_and] at hst; subst hst; simp
  | some a => simp only at hst; simp [hst]

/-- What is known of the grown row: what stood there, and what is new behind it. -/
theorem appOld_spec {off len size m : Nat} {c c' : Tr AV} {new : List AV} (h : appOld off len size m c new = some c') (hm : ∀ i v, c.get i = some v → i < m) :
    (∃ old, ldL c off (len * size) = some old) ∧ ∀ i v, c'.get i = some v → (i < len * size ∧ c.get (off + i) = some v) ∨ (len * size ≤ i ∧ new[i - len * size]? = some v) := by
  unfold appOld at h
  split at h
  · rename_i hc
    rw [Bool.and_eq_true] at hc
    have h1 := Nat.beq_eq.mp hc.1
    have h2 := Nat.beq_eq.mp hc.2
    subst h1
    split at h
    · rename_i old hold
      cases h
      refine ⟨⟨old, hold⟩, fun i v hi => ?_⟩
      rcases Tr.get_ofFrom new _ c i v hi with ⟨a, b⟩ | ⟨a, b⟩
      · exact .inr ⟨a, b⟩
      · exact .inl ⟨by rw [← h2]; exact hm i v b, by simpa using b⟩
    · cases h
  · split at h
    · rename_i old hold
      cases h
      obtain ⟨hl, hg⟩ := ldL_spec hold
      refine ⟨⟨old, hold⟩, fun i v hi => ?_⟩
      have hi := Tr.get_of hi
      by_cases hlt : i < len * size
      · rw [List.getElem?_append_left (by omega)] at hi
        exact .inl ⟨hlt, hg i v hi⟩
      · rw [List.getElem?_append_right (by omega), hl] at hi
        exact .inr ⟨by omega, hi⟩
    · cases h

include hX in
theorem appendAt_sound {t u ty : TypeId} {rest : List TypeId} {x y : AV} {cx cy : Value} {r : OR} (h : appendAt X t x y s = some r) (hi : ∀ d, X.und u = some d → ∀ k, d ≠ .int k) (hu2 : ∃ d, X.und u = some d) (hH : HR P ι s w) (hx : VR ι x cx) (hy : VR ι y cy) :
    OpOK P ι s w r ((do pure (.value (← Builtin.append_ (t :: u :: rest).toArray ty #[cx, cy])) : Sem Next).run P w) := by
  unfold appendAt at h
  split at h
  · rename_i e hu
    split at h
    · rename_i size base len cap exact he
      split at h
      · rename_i n new hsrc
        obtain ⟨news, hf, hvn, hln, hnl⟩ := src_spec (P := P) hsrc hH hy
        obtain ⟨newsD, hfD, hvnD, _, _⟩ := src_spec (P := P) hsrc hH.drew hy
        obtain ⟨p, ccap, rfl, hcap, hlen, hex, hnil⟩ := slice_form hx
        have hnewsl : news.length = n * size := by rw [← hvn.length, hnl]
        obtain ⟨ei, hti, hsz, hby, hpos, _⟩ := elem_spec he
        unfold appGo at h
        split at h
        · -- nothing is appended
          rename_i h0
          have h0 := Nat.beq_eq.mp h0
          subst h0
          cases h
          have hnews : news = [] := by simpa using hnewsl
          subst hnews
          refine ⟨_, value_run (run_append_room hX (base := p) (w' := w) hu hi hu2 he hln hf (by omega) ?_), by simpa using hx⟩
          cases p <;> simp [storeCells]
        · rename_i h0
          have h0 : n ≠ 0 := fun e => by rw [e] at h0; simp at h0
          split at h
          · cases h
          · rename_i hone
            split at h
            · -- there is room
              rename_i hroom
              have hroom := Nat.ble_eq.mp hroom
              unfold appRoom at h
              split at h
              · rename_i b off es
                split at h
                · rename_i c m hc
                  split at h
                  · rename_i c' hst
                    cases h
                    have hx0 := hx
                    simp only [VR] at hx
                    obtain ⟨cb, d, o, m0, hb, hcv, ho, hle1, hle2, hexx, hrm⟩ := hx
                    simp only [Value.slice.injEq, true_and] at hcv
                    obtain ⟨rfl, rfl⟩ := hcv
                    have ho := ho (.inl (by omega))
                    subst ho
                    obtain ⟨w', g1, g2, g3⟩ := hH.store (P := P) hb hc hst hvn hone
                    refine ⟨_, w', _, .inl (value_run (run_append_room hX hu hi hu2 he hln hf (by omega) ?_)), ?_, g2, g3⟩
                    · simp only [add_eq]; rw [Nat.add_assoc]; exact g1
                    · simp only [VR]
                      exact ⟨cb, d, _, _, hb, rfl, fun _ => rfl, hroom, hcap, hexx, hrm⟩
                  · cases h
                · cases h
              · cases h
            · -- it may have to grow
              rename_i hroom
              have hroom : ¬ len + n ≤ cap := fun e => by rw [Nat.ble_eq.mpr e] at hroom; cases hroom
              split at h
              · rename_i hsmall
                have hsmall := Nat.ble_eq.mp hsmall
                -- a new row: what is known of it, its cells
                have fresh : ∀ (s0 : St) (c' : Tr AV) (oldn : Nat), HR P ι s0 w → Ext ι s w ι s0 w → s0.nx = s.nx → ¬ len + n ≤ ccap → (∃ olds : List Value, (Builtin.firstCells size len (.slice p len ccap)).run P w.drew = .ok olds.toArray w.drew ∧ olds.length = len * size ∧
                      ∀ i v, c'.get i = some v → (i < len * size ∧ ∃ cv, olds[i]? = some cv ∧ VR ι v cv) ∨ (len * size ≤ i ∧ new[i - len * size]? = some v)) → (s0.newC c' ((len + n) * size)).1 = s.nx ∧
                    OpOK P ι s w (.val (.slc (some ((s0.newC c' ((len + n) * size)).1, 0, size)) (len + n) (len + n) false) (s0.newC c' ((len + n) * size)).2) ((do pure (.value (← Builtin.append_ (t :: u :: rest).toArray ty #[.slice p len ccap, cy])) : Sem Next).run P w) := fun s0 c' oldn h0 hE hnx hno ⟨olds, k1, k2, k3⟩ => by
                  obtain ⟨zc, hzc, hrun⟩ := run_append_new hX (ty := ty) (rest := rest) hu hi hu2 he hln k1 hfD hno hsmall
                  have hge := grownCap_ge w (len + n) ccap e
                  generalize grownCap w (len + n) ccap e = G at hrun hge
                  have hrow : (olds.toArray ++ newsD.toArray ++ Builtin.zeroCells zc (G - (len + n))).size = G * size := by
                    have h2 : newsD.length = n * size := by rw [← hvnD.length, hnl]
                    simp only [Array.size_append, List.size_toArray, k2, h2, Builtin.zeroCells, Array.size_map, Array.size_range, hzc]
                    rw [← Nat.add_mul, ← Nat.add_mul]; congr 1; omega
                  have hw : (w.drew.alloc (.cells (olds.toArray ++ newsD.toArray ++ Builtin.zeroCells zc (G - (len + n))) e)).heap = w.heap.push (.cells (olds.toArray ++ newsD.toArray ++ Builtin.zeroCells zc (G - (len + n))) e) := rfl
                  have e1 : s0.newC c' ((len + n) * size) = s0.new (.cells c' ((len + n) * size)) := by simp [St.newC]
                  rw [e1]
                  obtain ⟨g1, g2⟩ := h0.new (z := G * size) hw ⟨rfl, rfl⟩ (ab := .cells c' ((len + n) * size)) (fun κ hκ => by
                    refine ⟨_, e, (0, 0), by rw [hw]; exact heap_push_new, fun j hj => ⟨by rw [hrow]; exact hj, by simp⟩, fun i v hiv => ?_⟩
                    have hmul : (len + n) * size = len * size + n * size := Nat.add_mul _ _ _
                    have hGm : (len + n) * size ≤ G * size := Nat.mul_le_mul_right _ hge
                    rcases k3 i v hiv with ⟨a1, cv, a2, a3⟩ | ⟨a1, a2⟩
                    · refine ⟨by omega, by simp only; omega, cv, ?_, a3.mono hκ⟩
                      simp only [Nat.zero_add]
                      rw [Array.getElem?_append_left (by simp; omega), Array.getElem?_append_left (by simp; omega)]
                      simpa using a2
                    · obtain ⟨cv, a3, a4⟩ := hvnD.get a2
                      have hlt : i - len * size < newsD.length := by
                        rcases Nat.lt_or_ge (i - len * size) newsD.length with h' | h'
                        · exact h'
                        · rw [List.getElem?_eq_none h'] at a3; cases a3
                      have h2 : newsD.length = n * size := by rw [← hvnD.length, hnl]
                      refine ⟨by omega, by simp only; omega, cv, ?_, a4.mono hκ⟩
                      simp only [Nat.zero_add]
                      rw [Array.getElem?_append_left (by simp; omega), Array.getElem?_append_right (by simp; omega)]
                      simp only [List.size_toArray, k2]
                      simpa using a3)
                  refine ⟨hnx, _, _, _, .inl (value_run hrun), ?_, g1, hE.trans g2⟩
                  simp only [VR, St.new]
                  exact ⟨_, _, _, _, Inj.at_same _ _ _, rfl, fun _ => rfl, Nat.le_refl _, hge, (fun e => by cases e), by simp⟩
                unfold appGrow at h
                split at h
                · -- nil
                  cases h
                  obtain ⟨rfl, rfl, rfl⟩ := hnil rfl
                  simp only [VR] at hx
                  obtain ⟨_, _, _, hcv⟩ := hx
                  simp only [Value.slice.injEq, true_and] at hcv
                  subst hcv
                  have e1 : (0 + n) * size = new.length := by rw [hnl]; simp
                  obtain ⟨_, fr⟩ := fresh s (Tr.of new) 0 hH (Ext.refl _ _ _) rfl (by omega) ⟨[], by simp [Builtin.firstCells], by simp, fun i v hiv => .inr ⟨by omega, by simpa using Tr.get_of hiv⟩⟩
                  rw [e1] at fr
                  simpa using fr
                · rename_i b off es
                  split at h
                  · rename_i c m hes hc
                    have hes := Nat.beq_eq.mp hes
                    subst hes
                    unfold appNew at h
                    split at h
                    · rename_i c' hold
                      cases h
                      simp only [VR] at hx
                      obtain ⟨cb, d, o, m0, hb, hcv, ho, hle1, hle2, hexx, hrm⟩ := hx
                      simp only [Value.slice.injEq, true_and] at hcv
                      obtain ⟨rfl, rfl⟩ := hcv
                      obtain ⟨cs, el, fz, k1, k0, k2⟩ := hH.cells hb hc
                      obtain ⟨⟨old, hld⟩, hc'⟩ := appOld_spec hold (fun i v hv => (k2 i v hv).1)
                      -- the old cells, read
                      have hol : 0 < len → o = d.1 + off := fun h => ho (.inl (by omega))
                      have oldsE : ∃ olds : List Value, (Builtin.firstCells es len (.slice (some ⟨cb, o, none⟩) len ccap)).run P w.drew = .ok olds.toArray w.drew ∧ olds.length = len * es ∧
                          ∀ i v, c'.get i = some v → (i < len * es ∧ ∃ cv, olds[i]? = some cv ∧ VR ι v cv) ∨ (len * es ≤ i ∧ new[i - len * es]? = some v) := by
                        rcases Nat.eq_zero_or_pos len with h0l | hpl
                        · subst h0l
                          refine ⟨[], by simp [Builtin.firstCells, loadCells, loadCellsFrom], by simp, fun i v hiv => ?_⟩
                          rcases hc' i v hiv with ⟨a1, _⟩ | a
                          · simp at a1
                          · exact .inr a
                        · have := hol hpl
                          subst this
                          obtain ⟨vs, g1, g2⟩ := run_ld (P := P) hH.drew ⟨b, hb, hc⟩ hld
                          obtain ⟨q1, q2⟩ := ldL_spec hld
                          refine ⟨vs, by simpa [Builtin.firstCells] using g1, by rw [← g2.length, q1], fun i v hiv => ?_⟩
                          rcases hc' i v hiv with ⟨a1, a2⟩ | a
                          · left
                            refine ⟨a1, ?_⟩
                            have : old[i]? = some v := by
                              have hi' : i < old.length := by omega
                              have h3 := q2 i old[i] (by simp [hi'])
                              rw [h3] at a2
                              rw [List.getElem?_eq_getElem hi']; exact a2
                            exact g2.get this
                          · exact .inr a
                      cases hexa : exact with
                      | true =>
                        obtain ⟨_, fr⟩ := fresh s c' 0 hH (Ext.refl _ _ _) rfl (by have := hexx hexa; omega) oldsE
                        exact fr
                      | false =>
                        -- the old block is given up
                        have hdel := (hH.del b).shift s.nx
                        have hEdel : Ext ι s w ι { s with h := s.h.del b, sh := s.nx :: s.sh } w := ⟨ι.le_refl, Nat.le_refl _, fun cb' _ ho' => ⟨rfl, fun ⟨b', d', ab, q1, q2⟩ => ho' ⟨b', d', ab, q1, (Tr.get_del q2).2⟩⟩, fun _ _ => rfl, Nat.le_refl _, Kin.refl _⟩
                        by_cases hno : len + n ≤ ccap
                        · -- there was room
                          have hroomZ : o + ccap * es ≤ d.2 := hrm
                          have hmul : len * es + n * es ≤ ccap * es := by rw [← Nat.add_mul]; exact Nat.mul_le_mul_right _ hno
                          obtain ⟨w', cs', g1, g2, g3, g4, g0, g5, g6⟩ := run_st (P := P) cb (o + len * es) el fz news 0 cs w k1 (hvn.one_all hone) (fun j hj => by
                            have := k0 (o + len * es + 0 + j) (by omega)
                            exact this)
                          have hrun := run_append_room hX (ty := ty) (rest := rest) (base := some ⟨cb, o, none⟩) (w' := w') hu hi hu2 he hln hf hno (by simp only [add_eq]; exact g1)
                          have e1 : ({ s with h := s.h.del b, sh := s.nx :: s.sh } : St).newC c' ((len + n) * es) = ({ s with h := s.h.del b, sh := s.nx :: s.sh } : St).new (.cells c' ((len + n) * es)) := by simp [St.newC]
                          simp only [e1]
                          -- the new block lies where the old one lay
                          let κ : Inj := ι.at s.nx (cb, o, d.2)
                          have hfresh := hH.fresh
                          have hle : ι.le κ := Inj.at_le hfresh
                          have oldι : ∀ b' x, b' ≠ s.nx → κ b' = some x → ι b' = some x := fun b' x hb' hx' => by
                            simp only [κ, Inj.at] at hx'; rwa [if_neg hb'] at hx'
                          have hbr : BR P κ w' cb (o, d.2) (.cells c' ((len + n) * es)) := by
                            refine ⟨cs', el, fz, g2, fun j hj => by rw [g5]; exact k0 j hj, fun i v hiv => ?_⟩
                            have hmul2 : (len + n) * es = len * es + n * es := Nat.add_mul _ _ _
                            rcases hc' i v hiv with ⟨a1, a2⟩ | ⟨a1, a2⟩
                            · have hpl : 0 < len := by
                                rcases Nat.eq_zero_or_pos len with h' | h'
                                · subst h'; simp at a1
                                · exact h'
                              have hoo := hol hpl
                              obtain ⟨_, q2, cv, q3, q4⟩ := k2 _ _ a2
                              refine ⟨by omega, by simp only; omega, cv, ?_, q4.mono hle⟩
                              simp only
                              rw [g6, if_neg (by omega)]
                              rw [← q3]; congr 1; omega
                            · obtain ⟨cv, q3, q4⟩ := hvn.get a2
                              have hlt : i - len * es < news.length := by
                                rcases Nat.lt_or_ge (i - len * es) news.length with h' | h'
                                · exact h'
                                · rw [List.getElem?_eq_none h'] at q3; cases q3
                              refine ⟨by omega, by simp only; omega, cv, ?_, q4.mono hle⟩
                              simp only
                              rw [g6, if_pos (by omega)]
                              rw [← q3]; congr 1; omega
                          have live : ∀ b' ab, (({ s with h := s.h.del b, sh := s.nx :: s.sh } : St).new (.cells c' ((len + n) * es))).2.h.get b' = some ab → (b' = s.nx ∧ AB.cells c' ((len + n) * es) = ab) ∨ (b' ≠ s.nx ∧ b' ≠ b ∧ s.h.get b' = some ab) := fun b' ab hg => by
                            rcases Tr.get_put hg with a | ⟨a, hg⟩
                            · exact .inl a
                            · exact .inr ⟨a, Tr.get_del hg⟩
                          have hE : Ext ι s w κ (({ s with h := s.h.del b, sh := s.nx :: s.sh } : St).new (.cells c' ((len + n) * es))).2 w' := by
                            refine ⟨hle, by rw [g3]; exact Nat.le_refl _, fun cb' hcb' ho' => ⟨g4 cb' (fun e => ?_), ?_⟩, fun b' hb' => by simp only [κ, Inj.at]; rw [if_neg (by omega)], Nat.le_succ _, g0⟩
                            · subst e; exact ho' ⟨b, d, _, hb, St.cells_spec hc⟩
                            · rintro ⟨b', d', ab, q1, q2⟩
                              rcases live b' ab q2 with ⟨e, _⟩ | ⟨e, _, q2⟩
                              · subst e
                                simp only [κ, Inj.at, if_true, Option.some.injEq, Prod.mk.injEq] at q1
                                obtain ⟨rfl, _⟩ := q1
                                exact ho' ⟨b, d, _, hb, St.cells_spec hc⟩
                              · exact ho' ⟨b', d', ab, oldι _ _ e q1, q2⟩
                          refine ⟨κ, w', _, .inl (value_run hrun), ?_, ⟨hH.gl.ext hE rfl, fun b' cb' d' hx' hs => ?_, fun b' x hx' => ?_, fun b' cb' d' ab hx' hg => ?_, fun b1 b2 cb' d1 d2 ab1 ab2 q1 q2 g1' g2' => ?_⟩, hE⟩
                          · simp only [VR, St.new]
                            exact ⟨cb, (o, d.2), o, ccap, by simp [κ, Inj.at], rfl, fun _ => rfl, Nat.le_refl _, hno, fun e => (by cases e), hrm⟩
                          · have hs : hasN b' (s.nx :: s.sh) = false := hs
                            exact hH.base b' cb' d' (oldι b' _ (hasN_tail hs).1 hx') (hasN_tail hs).2
                          · show b' < s.nx + 1
                            by_cases e : b' = s.nx
                            · omega
                            · have := hH.dom b' x (oldι b' x e hx'); omega
                          · rcases live b' ab hg with ⟨e, e'⟩ | ⟨e, e', hg⟩
                            · subst e; subst e'
                              simp only [κ, Inj.at, if_true, Option.some.injEq, Prod.mk.injEq] at hx'
                              obtain ⟨rfl, rfl⟩ := hx'
                              exact hbr
                            · have hx' := oldι b' _ e hx'
                              have hne : cb' ≠ cb := fun ee => e' (hH.inj b' b cb' d' d _ _ hx' (ee ▸ hb) hg (St.cells_spec hc))
                              exact (hH.br b' cb' d' ab hx' hg).frame (g4 cb' hne) hle
                          · rcases live b1 ab1 g1' with ⟨e, _⟩ | ⟨e, e', g1'⟩ <;> rcases live b2 ab2 g2' with ⟨f, _⟩ | ⟨f, f', g2'⟩
                            · rw [e, f]
                            · subst e
                              simp only [κ, Inj.at, if_true, Option.some.injEq, Prod.mk.injEq] at q1
                              obtain ⟨rfl, _⟩ := q1
                              exact absurd (hH.inj b2 b cb d2 d _ _ (oldι _ _ f q2) hb g2' (St.cells_spec hc)) f'
                            · subst f
                              simp only [κ, Inj.at, if_true, Option.some.injEq, Prod.mk.injEq] at q2
                              obtain ⟨rfl, _⟩ := q2
                              exact absurd (hH.inj b1 b cb d1 d _ _ (oldι _ _ e q1) hb g1' (St.cells_spec hc)) e'
                            · exact hH.inj b1 b2 cb' d1 d2 _ _ (oldι _ _ e q1) (oldι _ _ f q2) g1' g2'
                        · obtain ⟨_, fr⟩ := fresh { s with h := s.h.del b, sh := s.nx :: s.sh } c' 0 hdel hEdel rfl hno oldsE
                          exact fr
                    · cases h
                  · cases h
              · cases h
      · cases h
    · cases h
  · cases h
end
end Go.Am
