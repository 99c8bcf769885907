/-
  ONE OPERATION of the abstract machine against the model's: addresses, parts, slices, conversions, texts and bytes.
-/
import Derived.Test.YtiahoioaklpnlaaGreatDoorAmOps
namespace Go.Am
section
variable {P : Program} {X : Ctx} (hX : CtxOK P X) {ι : Inj} {s : St} {w : World}

theorem slice_form {a : Option (Nat × Nat × Nat)} {n c : Nat} {x : Bool} {cv : Value} (h : VR ι (.slc a n c x) cv) : ∃ p m, cv = .slice p n m ∧ c ≤ m ∧ n ≤ c ∧ (x = true → m = c) ∧ (a = none → p = none ∧ n = 0 ∧ c = 0) := by
  cases a with
  | none => simp only [VR] at h; obtain ⟨rfl, rfl, rfl, rfl⟩ := h; exact ⟨none, 0, rfl, Nat.le_refl _, Nat.le_refl _, fun _ => rfl, fun _ => ⟨rfl, rfl, rfl⟩⟩
  | some p => obtain ⟨b, o, es⟩ := p; simp only [VR] at h; obtain ⟨cb, d, off, m, _, rfl, _, h1, h2, h3, _⟩ := h; exact ⟨_, m, rfl, h2, h1, h3, fun e => by cases e⟩

include hX in
theorem opFieldAddr_sound {t : TypeId} {x : AV} {i : Nat} {cx : Value} {r : OR} (h : opFieldAddr X t x i = some r) (hx : VR ι x cx) : OpOK P ι s w r ((do pure (.value (← Instr.fieldAt t cx i)) : Sem Next).run P w) := by
  unfold opFieldAddr at h
  split at h
  · rename_i g off
    simp only [VR] at hx
    subst hx
    split at h
    · rename_i fs hu
      unfold fieldGoG at h
      split at h
      · rename_i f hf
        have hf' : fs[i]? = some f := by simpa using hf
        split at h
        · cases h
        · rename_i n hn
          cases h
          refine ⟨.pointer (some ⟨g, off + f.offset, none⟩), value_run ?_, by simp only [VR]⟩
          simp only [Instr.fieldAt, Sem.run_bind, run_und hX hu, Result.andThen_ok, hf', Instr.sureAddr, Sem.run_pure, fieldPlace, run_size hX hn, Nat.succ_ne_zero, if_false, add_eq]
        · cases h
      · cases h
    · cases h
  · rename_i b off
    obtain ⟨c, d, hb, rfl⟩ := hx.ptr
    split at h
    · rename_i fs hu
      unfold fieldGo at h
      split at h
      · rename_i f hf
        have hf' : fs[i]? = some f := by simpa using hf
        split at h
        · cases h
        · rename_i n hn
          cases h
          refine ⟨.pointer (some ⟨c, d.1 + (off + f.offset), none⟩), value_run ?_, by simp only [VR]; exact ⟨c, d, hb, rfl⟩⟩
          simp only [Instr.fieldAt, Sem.run_bind, run_und hX hu, Result.andThen_ok, hf', Instr.sureAddr, Sem.run_pure, fieldPlace, run_size hX hn, Nat.succ_ne_zero, if_false, add_eq, Nat.add_assoc]
        · cases h
      · cases h
    · cases h
  · cases h

include hX in
theorem opField_sound {t : TypeId} {x : AV} {i : Nat} {cx : Value} {r : OR} (h : opField X t x i = some r) (hx : VR ι x cx) : OpOK P ι s w r ((do pure (.value (← Instr.field t cx i)) : Sem Next).run P w) := by
  unfold opField at h
  split at h
  · rename_i fs cs hu
    obtain ⟨ccs, rfl, hcs⟩ := hx.agg
    split at h
    · rename_i f hf
      have hf' : fs[i]? = some f := by simpa using hf
      refine old1_sound h fun v hv => ?_
      obtain ⟨cv, h1, h2⟩ := partAt_spec hX (w := w) hv hcs
      exact ⟨cv, by simp only [Instr.field, Sem.run_bind, run_und hX hu, Result.andThen_ok, hf', asAgg, Sem.run_pure, h1], h2⟩
    · cases h
  · cases h

include hX in
theorem opIndexAddr_sound {t : TypeId} {x i : AV} {cx ci : Value} {r : OR} (h : opIndexAddr X t x i = some r) (hx : VR ι x cx) (hi : VR ι i ci) : OpOK P ι s w r ((do pure (.value (← Instr.indexAt t cx ci)) : Sem Next).run P w) := by
  unfold opIndexAddr at h
  split at h
  · rename_i n elem b off kk k hu
    obtain ⟨c, d, hb, rfl⟩ := hx.ptr
    have e := hi.int; subst e
    unfold elemGo at h
    split at h
    · rename_i m hm hlt
      have hlt := Nat.blt_eq.mp hlt
      cases h
      refine ⟨.pointer (some ⟨c, d.1 + (off + k * m), none⟩), value_run ?_, by simp only [VR]; exact ⟨c, d, hb, rfl⟩⟩
      have hin : (0 ≤ (k : Int) ∧ (k : Int) < (n : Int)) = True := by simp; omega
      simp only [Instr.indexAt, Sem.run_bind, asIntOf, Sem.run_pure, Result.andThen_ok, run_und hX hu, Instr.sureAddr, hin, if_true, run_size hX hm, add_eq, Sem.run_ite, Int.ofNat_eq_natCast, Int.toNat_natCast, Nat.add_assoc]
    · cases h
  · rename_i n elem g off kk k hu
    simp only [VR] at hx
    subst hx
    have e := hi.int; subst e
    unfold elemGoG at h
    split at h
    · rename_i m hm hlt
      have hlt := Nat.blt_eq.mp hlt
      cases h
      refine ⟨.pointer (some ⟨g, off + k * m, none⟩), value_run ?_, by simp only [VR]⟩
      have hin : (0 ≤ (k : Int) ∧ (k : Int) < (n : Int)) = True := by simp; omega
      simp only [Instr.indexAt, Sem.run_bind, asIntOf, Sem.run_pure, Result.andThen_ok, run_und hX hu, Instr.sureAddr, hin, if_true, run_size hX hm, add_eq, Sem.run_ite, Int.ofNat_eq_natCast, Int.toNat_natCast]
    · cases h
  · rename_i elem b off es n cc x kk k hu
    simp only [VR] at hx
    obtain ⟨cb, d, o, m0, hb, rfl, ho, hn, hc, hxx, _⟩ := hx
    have e := hi.int; subst e
    unfold elemGo at h
    split at h
    · rename_i m hm hlt
      have hlt := Nat.blt_eq.mp hlt
      cases h
      have ho := ho (.inl (by omega))
      subst ho
      refine ⟨.pointer (some ⟨cb, d.1 + (off + k * m), none⟩), value_run ?_, by simp only [VR]; exact ⟨cb, d, hb, rfl⟩⟩
      have hin : (0 ≤ (k : Int) ∧ (k : Int) < (n : Int)) = True := by simp; omega
      simp only [Instr.indexAt, Sem.run_bind, asIntOf, Sem.run_pure, Result.andThen_ok, run_und hX hu, hin, if_true, run_size hX hm, add_eq, Sem.run_ite, Int.ofNat_eq_natCast, Int.toNat_natCast, Nat.add_assoc]
    · cases h
  · cases h

theorem str_at {bs : ByteArray} {k : Nat} (hk : k < bs.data.toList.length) : (Str.of bs).at k = (bs.data.toList[k]).toNat := by
  simp only [Str.at, Str.of]
  exact encL_get _ k hk
include hX in
theorem opIndex_sound {t : TypeId} {x i : AV} {cx ci : Value} {r : OR} (h : opIndex X t x i = some r) (hx : VR ι x cx) (hi : VR ι i ci) : OpOK P ι s w r ((do pure (.value (← Instr.index t cx ci)) : Sem Next).run P w) := by
  unfold opIndex at h
  split at h
  · rename_i v kk k hu
    obtain ⟨bs, rfl, rfl⟩ := hx.str
    have e := hi.int; subst e
    split at h
    · rename_i hlt
      have hlt : k < bs.data.toList.length := Nat.blt_eq.mp hlt
      cases h
      refine ⟨.int .u8 ((bs.data.toList[k]).toNat : Int), value_run ?_, by simp only [VR, str_at hlt]⟩
      have hk' : k < bs.size := by simpa using hlt
      have hg : bs[k]? = some (bs.data.toList[k]) := by
        rw [getElem?_pos bs k hk']
        simp [ByteArray.getElem_eq_getElem_data]
      simp only [Instr.index, Sem.run_bind, asIntOf, Sem.run_pure, Result.andThen_ok, run_und hX hu, Int.ofNat_eq_natCast, Int.natCast_nonneg, if_true, Int.toNat_natCast, hg]
    · cases h
  · rename_i n elem cs kk k hu
    obtain ⟨ccs, rfl, hcs⟩ := hx.agg
    have e := hi.int; subst e
    unfold opIndexA at h
    split at h
    · rename_i m hm hlt
      have hlt := Nat.blt_eq.mp hlt
      refine old1_sound h fun v hv => ?_
      obtain ⟨cv, h1, h2⟩ := partAt_spec hX (w := w) hv hcs
      have hin : (0 ≤ (k : Int) ∧ (k : Int) < (n : Int)) = True := by simp; omega
      exact ⟨cv, by simp only [Instr.index, Sem.run_bind, asIntOf, Sem.run_pure, Result.andThen_ok, run_und hX hu, hin, if_true, run_size hX hm, Sem.run_ite, Int.ofNat_eq_natCast, Int.toNat_natCast, h1], h2⟩
    · cases h
  · cases h

theorem opExtract_sound {x : AV} {i : Nat} {cx : Value} {r : OR} (h : opExtract x i = some r) (hx : VR ι x cx) : OpOK P ι s w r ((do pure (.value (← Instr.extract cx i)) : Sem Next).run P w) := by
  unfold opExtract at h
  split at h
  · rename_i vs
    obtain ⟨cvs, rfl, hcs⟩ := hx.tup
    refine old1_sound h fun v hv => ?_
    obtain ⟨cv, h1, h2⟩ := hcs.get hv
    have h1 : cvs[i]? = some cv := by simpa using h1
    exact ⟨cv, by simp [Instr.extract, h1], h2⟩
  · cases h

theorem ansOk_sound {ok : Bool} {v : AV} {b : Bool} {cv : Value} {r : OR} {x : Sem Value} (h : ansOk ok v b = some r) (hv : VR ι v cv) (hx : x.run P w = .ok (if ok then .tuple #[cv, .bool b] else cv) w) :
    OpOK P ι s w r ((do pure (.value (← x)) : Sem Next).run P w) := by
  unfold ansOk at h
  cases ok
  · cases h; exact ⟨cv, value_run (by simpa using hx), hv⟩
  · cases h; exact ⟨.tuple #[cv, .bool b], value_run (by simpa using hx), by simp only [VR]; exact ⟨_, rfl, by simp [VRs, hv, VR]⟩⟩
include hX in
theorem opAssert_sound {x : AV} {xt u : TypeId} {ok : Bool} {cx : Value} {r : OR} (h : opAssert X x u ok = some r) (hx : VR ι x cx) : OpOK P ι s w r ((do pure (.value (← Instr.typeAssert cx xt u ok)) : Sem Next).run P w) := by
  unfold opAssert at h
  split at h
  · cases h
  · rename_i d t' v hne hu
    simp only [VR] at hx
    obtain ⟨cv, rfl, hv⟩ := hx
    have hni : ∀ ms, d ≠ .interface ms := fun ms e => hne ms e
    split at h
    · rename_i ht
      have ht := of_decide_eq_true ht
      subst ht
      refine ansOk_sound (cv := cv) h hv ?_
      simp only [Instr.typeAssert, Sem.run_bind, run_und hX hu, Result.andThen_ok]
      cases d <;> first | (cases ok <;> simp; done) | exact absurd rfl (hni _)
    · rename_i ht
      have ht : t' ≠ u := of_decide_eq_false ht
      unfold zeroOk at h
      split at h
      · split at h
        · rename_i z hz
          cases h
          obtain ⟨cz, h1, rfl⟩ := run_zero hX hz w
          refine ⟨.tuple #[cz, .bool false], value_run ?_, by simp only [VR]; exact ⟨_, rfl, by simp [VRs, VR, VR_ofV]⟩⟩
          simp only [Instr.typeAssert, Sem.run_bind, run_und hX hu, Result.andThen_ok]
          cases d <;> first | (simp [ht, h1]; done) | exact absurd rfl (hni _)
        · cases h
      · cases h
  · rename_i d hne hu
    simp only [VR] at hx; subst hx
    have hni : ∀ ms, d ≠ .interface ms := fun ms e => hne ms e
    unfold zeroOk at h
    split at h
    · split at h
      · rename_i z hz
        cases h
        obtain ⟨cz, h1, rfl⟩ := run_zero hX hz w
        refine ⟨.tuple #[cz, .bool false], value_run ?_, by simp only [VR]; exact ⟨_, rfl, by simp [VRs, VR, VR_ofV]⟩⟩
        simp only [Instr.typeAssert, Sem.run_bind, run_und hX hu, Result.andThen_ok]
        cases d <;> first | (simp [h1]; done) | exact absurd rfl (hni _)
      · cases h
    · cases h
  · cases h

/- Bounds of a slice. -/
theorem boundAt_spec {v : AV} {y i : Nat} {cv : Value} {code : BoundsCode} (h : boundAt v y = some i) (hv : VR ι v cv) : ∃ k, cv = .int k i ∧ i ≤ y ∧ (Instr.sliceBound cv y code).run P w = .ok i w := by
  unfold boundAt at h
  split at h
  · rename_i k j
    split at h
    · rename_i hle
      have hle := Nat.ble_eq.mp hle
      cases h
      have e := hv.int; subst e
      refine ⟨k, rfl, hle, ?_⟩
      have hin : (0 ≤ (i : Int) ∧ (i : Int) ≤ (y : Int)) = True := by simp; omega
      simp only [Instr.sliceBound, Sem.run_bind, asIntOf, Sem.run_pure, Result.andThen_ok, hin, if_true, Sem.run_ite, Int.ofNat_eq_natCast, Int.toNat_natCast]
    · cases h
  · cases h
/-- The same bound by what may be more. -/
theorem boundAt_more {v : AV} {y z i : Nat} {cv : Value} {code : BoundsCode} (h : boundAt v y = some i) (hz : y ≤ z) (hv : VR ι v cv) : (Instr.sliceBound cv z code).run P w = .ok i w := by
  obtain ⟨k, rfl, hi, _⟩ := boundAt_spec (P := P) (w := w) (code := code) h hv
  have hin : (0 ≤ (i : Int) ∧ (i : Int) ≤ (z : Int)) = True := by simp; omega
  simp only [Instr.sliceBound, Sem.run_bind, asIntOf, Sem.run_pure, Result.andThen_ok, hin, if_true, Sem.run_ite, Int.toNat_natCast]

def VRo (ι : Inj) : Option AV → Option Value → Prop
  | none, none => True
  | some a, some v => VR ι a v
  | _, _ => False
theorem VRo.of_map {fr : Fr} {a : Act} (o : Option Operand) (hf : ∀ x, o = some x → VR ι (fr.opd x) (a.eval x)) : VRo ι (o.map fr.opd) (o.map a.eval) := by
  cases o with
  | none => trivial
  | some x => exact hf x rfl

/-- The bounds, by a cap that may be more than what is known of it. -/
theorem bounds_spec {lo hi mx : Option AV} {clo chi cmx : Option Value} {len cap ccap m h l : Nat} {isS : Bool} (hlo : VRo ι lo clo) (hhi : VRo ι hi chi) (hmx : VRo ι mx cmx) (hcap : cap ≤ ccap)
    (eb : bndAt lo hi mx len cap = some (l, h, m)) (hlen : len ≤ cap) :
    ∃ M, (Instr.sliceBounds isS len ccap clo chi cmx).run P w = .ok (l, h, M) w ∧ (mx = none → m = cap ∧ M = ccap) ∧ (mx ≠ none → M = m ∧ m ≤ cap) ∧ l ≤ h ∧ h ≤ m := by
  unfold bndAt at eb
  split at eb
  · rename_i m' em
    split at eb
    · rename_i h' eh
      split at eb
      · rename_i l' el
        cases eb
        have hl : l ≤ h ∧ ∀ code, (match clo with | some v => Instr.sliceBound v h code | none => pure 0 : Sem Nat).run P w = .ok l w := by
          cases lo with
          | none => cases clo with
            | none => cases el; exact ⟨Nat.zero_le _, fun _ => rfl⟩
            | some _ => exact hlo.elim
          | some v => cases clo with
            | none => exact hlo.elim
            | some cv => exact ⟨(boundAt_spec (P := P) (w := w) (code := .sliceB) el hlo).choose_spec.2.1, fun code => (boundAt_spec (P := P) (w := w) (code := code) el hlo).choose_spec.2.2⟩
        cases mx with
        | none =>
          cases cmx with
          | some _ => exact hmx.elim
          | none =>
            cases em
            cases hi with
            | none => cases chi with
              | some _ => exact hhi.elim
              | none =>
                cases eh
                refine ⟨ccap, ?_, fun _ => ⟨rfl, rfl⟩, fun e => absurd rfl e, hl.1, hlen⟩
                have h2 := hl.2 .sliceB
                cases clo with
                | none => simp only [Sem.run_pure, Result.ok.injEq] at h2; simp [Instr.sliceBounds, h2.1]
                | some cv => simp only at h2; simp [Instr.sliceBounds, h2]
            | some v => cases chi with
              | none => exact hhi.elim
              | some cv =>
                obtain ⟨k, rfl, hle, _⟩ := boundAt_spec (P := P) (w := w) (code := .sliceAcap) eh hhi
                have h1 := fun code => boundAt_more (P := P) (w := w) (code := code) eh hcap hhi
                refine ⟨ccap, ?_, fun _ => ⟨rfl, rfl⟩, fun e => absurd rfl e, hl.1, hle⟩
                have h2 := hl.2 .sliceB
                cases clo with
                | none => simp only [Sem.run_pure, Result.ok.injEq] at h2; simp [Instr.sliceBounds, h2.1, h1]
                | some cv => simp only at h2; simp [Instr.sliceBounds, h2, h1]
        | some u =>
          cases cmx with
          | none => exact hmx.elim
          | some cu =>
            have hmle := (boundAt_spec (P := P) (w := w) (code := .slice3Acap) em hmx).choose_spec.2.1
            have h0 := fun code => boundAt_more (P := P) (w := w) (code := code) em hcap hmx
            cases hi with
            | none => simp [highAt] at eh
            | some v => cases chi with
              | none => exact hhi.elim
              | some cv =>
                obtain ⟨k, rfl, hle, _⟩ := boundAt_spec (P := P) (w := w) (code := .slice3B) eh hhi
                have h1 := fun code => (boundAt_spec (P := P) (w := w) (code := code) eh hhi).choose_spec.2.2
                refine ⟨m, ?_, fun e => (by cases e), fun _ => ⟨rfl, hmle⟩, hl.1, hle⟩
                have h2 := hl.2 .slice3C
                cases clo with
                | none => simp only [Sem.run_pure, Result.ok.injEq] at h2; simp [Instr.sliceBounds, h2.1, h0, h1]
                | some cv => simp only at h2; simp [Instr.sliceBounds, h2, h0, h1]
      · cases eb
    · cases eb
  · cases eb

theorem sliceSl_spec {a : Option (Nat × Nat × Nat)} {size l hh m M len cap ccap : Nat} {ex exact : Bool} {v : AV} {p : Option Addr} (h : sliceSl a size l hh m ex = some v) (hx : VR ι (.slc a len cap exact) (.slice p len ccap))
    (hexx : ex = true → (0 < cap ∨ exact = true) ∧ M = m) (hmM : m ≤ M) (hMc : M ≤ ccap) (hmc : m ≤ cap) (h4 : l ≤ hh) (h5 : hh ≤ m) :
    VR ι v (.slice (if M = l then p else p.map (·.add (l * size))) (hh - l) (M - l)) := by
  unfold sliceSl at h
  split at h
  · simp only [VR] at hx
    obtain ⟨rfl, rfl, _, hcv⟩ := hx
    simp only [Value.slice.injEq, true_and] at hcv
    obtain ⟨rfl, rfl⟩ := hcv
    cases h
    have e1 : M = 0 := by omega
    have e2 : hh = 0 := by omega
    have e3 : l = 0 := by omega
    have e4 : m = 0 := by omega
    subst e1; subst e2; subst e3; subst e4
    simp [VR]
  · rename_i b off es
    simp only [VR] at hx
    obtain ⟨cb, d, o, m0, hb, hcv, ho, _, _, _, hroom⟩ := hx
    simp only [Value.slice.injEq, true_and] at hcv
    obtain ⟨rfl, rfl⟩ := hcv
    have room : ∀ k, k ≤ ccap → k * es ≤ ccap * es := fun k hk => Nat.mul_le_mul_right _ hk
    cases hes : Nat.beq es size with
    | false => simp [hes] at h
    | true =>
    cases hl0 : Nat.beq l 0 with
    | true =>
      -- from its first place on
      simp only [hes, hl0, Option.some.injEq] at h
      have hes := Nat.beq_eq.mp hes
      have hl0 := Nat.beq_eq.mp hl0
      subst hl0; subst hes
      subst h
      have ep : (if M = 0 then (some (⟨cb, o, none⟩ : Addr)) else (some (⟨cb, o, none⟩ : Addr)).map (·.add (0 * es))) = some ⟨cb, o, none⟩ := by
        split
        · rfl
        · simp [add_eq]
      rw [ep]
      simp only [VR, Nat.sub_zero]
      have := room M hMc
      exact ⟨cb, d, o, M, hb, rfl, fun hc => ho (hc.elim (fun hc => .inl (by omega)) fun hc => (hexx hc).1), h5, hmM, fun e => (hexx e).2, by omega⟩
    | false =>
    cases hml : Nat.beq m l with
    | false =>
      -- from a later one on
      simp only [hes, hl0, hml, Option.some.injEq] at h
      have hes := Nat.beq_eq.mp hes
      subst hes
      have hl0 : l ≠ 0 := fun e => by rw [e] at hl0; simp at hl0
      have hml : m ≠ l := fun e => by rw [e] at hml; simp at hml
      subst h
      have hM : M ≠ l := by omega
      rw [if_neg hM]
      simp only [Option.map_some, add_eq, VR]
      have ho := ho (.inl (by omega))
      have e1 : l * es + (M - l) * es = M * es := by rw [← Nat.add_mul]; congr 1; omega
      have := room M hMc
      exact ⟨cb, d, o + l * es, M - l, hb, rfl, fun _ => by omega, by omega, by omega, fun e => by have := (hexx e).2; omega, by omega⟩
    | true =>
    cases hx' : ex with
    | true =>
      -- at its very end, which is told
      simp only [hes, hl0, hml, hx', Option.some.injEq] at h
      have hes := Nat.beq_eq.mp hes
      subst hes
      have hml := Nat.beq_eq.mp hml
      have hl0 : l ≠ 0 := fun e => by rw [e] at hl0; simp at hl0
      subst h
      have hM := (hexx hx').2
      rw [if_pos (by omega)]
      simp only [VR]
      have ho := ho (.inl (by omega))
      have := room (M - l) (by omega)
      exact ⟨cb, d, o, M - l, hb, rfl, fun _ => ho, by omega, by omega, fun _ => by omega, by omega⟩
    | false =>
      -- at its very end, which is not told
      simp only [hes, hl0, hml, hx', Option.some.injEq] at h
      have hes := Nat.beq_eq.mp hes
      subst hes
      have hml := Nat.beq_eq.mp hml
      subst h
      have e0 : hh - l = 0 := by omega
      rw [e0]
      by_cases hM : M = l
      · rw [if_pos hM]
        simp only [VR]
        have := room (M - l) (by omega)
        exact ⟨cb, d, o, M - l, hb, rfl, fun hc => by simp at hc, by omega, by omega, fun e => by simp at e, by omega⟩
      · rw [if_neg hM]
        simp only [Option.map_some, add_eq, VR]
        have e1 : l * es + (M - l) * es = M * es := by rw [← Nat.add_mul]; congr 1; omega
        have := room M hMc
        exact ⟨cb, d, o + l * es, M - l, hb, rfl, fun hc => by simp at hc, by omega, by omega, fun e => by simp at e, by omega⟩
theorem str_sub {bs : ByteArray} {l h : Nat} (h2 : h ≤ bs.data.toList.length) : (Str.of bs).sub l h = Str.of (bs.extract l h) := by
  have e : (bs.extract l h).data.toList = (bs.data.toList.take h).drop l := by
    rw [ByteArray.data_extract, Array.toList_extract, List.extract_eq_take_drop, List.drop_take]
  have e2 : (bs.data.toList.take h).length = h := by rw [List.length_take]; exact Nat.min_eq_left h2
  simp only [Str.sub, Str.of, e, Str.mk.injEq, List.length_drop, e2, true_and]
  rw [encL_drop, encL_take, e2]
include hX in
theorem sliceAtt_sound {t : TypeId} {x v : AV} {lo hi mx : Option AV} {cx : Value} {clo chi cmx : Option Value} (h : sliceAtt X s t x lo hi mx = some v) (hH : HR P ι s w) (hx : VR ι x cx) (hlo : VRo ι lo clo) (hhi : VRo ι hi chi) (hmx : VRo ι mx cmx) :
    ∃ cv, (Instr.sliceAt t cx clo chi cmx).run P w = .ok cv w ∧ VR ι v cv := by
  unfold sliceAtt at h
  split at h
  · rename_i a hu
    obtain ⟨bs, rfl, rfl⟩ := hx.str
    split at h
    · cases h
    · unfold sliceStr at h
      split at h
      · rename_i l hh m eb
        cases h
        cases cmx with
        | some _ => exact hmx.elim
        | none =>
          have hsz : (Str.of bs).len = bs.size := by simp [Str.of]
          rw [hsz] at eb
          obtain ⟨M, h1, h2, _, h4, h5⟩ := bounds_spec (P := P) (w := w) (isS := false) (ccap := bs.size) hlo hhi hmx (Nat.le_refl _) eb (Nat.le_refl _)
          have h2 := (h2 rfl).1
          refine ⟨.string (bs.extract l hh), ?_, ?_⟩
          · simp only [Instr.sliceAt, Sem.run_bind, run_und hX hu, Result.andThen_ok, Instr.slice, Option.isSome_none, Bool.false_eq_true, if_false, Sem.run_pure, h1]
          · simp only [VR]; exact ⟨_, rfl, str_sub (by subst h2; simpa using h5)⟩
      · cases h
  · rename_i elem a len cap exact hu
    unfold sliceS at h
    split at h
    · rename_i l hh m eb
      split at h
      · rename_i size hsize
        obtain ⟨p, ccap, rfl, hcap, hlen, hex, hnil⟩ := slice_form hx
        obtain ⟨M, h1, h2, h3, h4, h5⟩ := bounds_spec (P := P) (w := w) (isS := true) hlo hhi hmx hcap eb hlen
        have hrun : (Instr.sliceAt t (.slice p len ccap) clo chi cmx).run P w = .ok (.slice (if M = l then p else p.map (·.add (l * size))) (hh - l) (M - l)) w := by
          simp only [Instr.sliceAt, Sem.run_bind, run_und hX hu, Result.andThen_ok, Instr.slice, h1, run_size hX hsize, Sem.run_pure]
        have hmM : m ≤ M := by
          by_cases e : mx = none
          · obtain ⟨a1, a2⟩ := h2 e; omega
          · exact (h3 e).1 ▸ Nat.le_refl _
        have hMc : M ≤ ccap := by
          by_cases e : mx = none
          · exact (h2 e).2 ▸ Nat.le_refl _
          · obtain ⟨a1, a2⟩ := h3 e; omega
        have hmc : m ≤ cap := by
          by_cases e : mx = none
          · exact (h2 e).1 ▸ Nat.le_refl _
          · exact (h3 e).2
        have hexx : exAt mx exact cap = true → (0 < cap ∨ exact = true) ∧ M = m := fun e => by
          unfold exAt at e
          split at e
          · rw [Bool.or_eq_true] at e
            exact ⟨e.elim .inr fun e => .inl (Nat.blt_eq.mp e), (h3 (by simp)).1⟩
          · have := hex e
            have := h2 rfl
            exact ⟨.inr e, by omega⟩
        exact ⟨_, hrun, sliceSl_spec h hx hexx hmM hMc hmc h4 h5⟩
      · cases h
    · cases h
  · rename_i n elem b off hu
    unfold sliceA at h
    split at h
    · rename_i l hh m eb
      split at h
      · rename_i size c k hsize hc
        have main : ∀ {u : AV}, (Nat.blt 0 size && Nat.blt 0 n) = true → c.get (off + n * size - 1) = some u →
            ∃ cb d M, ι b = some (cb, d) ∧ (Instr.sliceAt t cx clo chi cmx).run P w = .ok (.slice (some (if M = l then ⟨cb, d.1 + off, none⟩ else (⟨cb, d.1 + off + l * size, none⟩ : Addr))) (hh - l) (M - l)) w ∧ M = m ∧ l ≤ hh ∧ hh ≤ m ∧ m ≤ n ∧ d.1 + off + n * size ≤ d.2 := fun {u} hpos hu' => by
          rw [Bool.and_eq_true] at hpos
          have hp1 := Nat.blt_eq.mp hpos.1
          have hp2 := Nat.blt_eq.mp hpos.2
          obtain ⟨cb, d, hb, rfl⟩ := hx.ptr
          obtain ⟨cs, e', fz, k1, k2, k3⟩ := hH.cells hb hc
          obtain ⟨_, hroom, _⟩ := k3 _ _ hu'
          have hroom : d.1 + off + n * size ≤ d.2 := by
            have : 0 < n * size := Nat.mul_pos hp2 hp1
            omega
          obtain ⟨M, h1, h2, h3, h4, h5⟩ := bounds_spec (P := P) (w := w) (isS := false) hlo hhi hmx (Nat.le_refl n) eb (Nat.le_refl n)
          have hM : M = m ∧ m ≤ n := by
            by_cases e : mx = none
            · obtain ⟨a1, a2⟩ := h2 e; omega
            · exact h3 e
          refine ⟨cb, d, M, hb, ?_, hM.1, h4, h5, hM.2, hroom⟩
          simp only [Instr.sliceAt, Sem.run_bind, run_und hX hu, Result.andThen_ok, Instr.sureAddr, Sem.run_pure, h1, run_size hX hsize, add_eq]
        split at h
        · rename_i hpos hml hu'
          obtain ⟨cb, d, M, hb, hrun, rfl, h4, h5, hmn, hroom⟩ := main hpos hu'
          have hml := Nat.beq_eq.mp hml
          cases h
          refine ⟨_, hrun, ?_⟩
          rw [if_pos hml]
          simp only [VR]
          have e2 : (M - l) * size ≤ n * size := Nat.mul_le_mul_right _ (by omega)
          exact ⟨cb, d, d.1 + off, M - l, hb, rfl, fun _ => rfl, by omega, Nat.le_refl _, fun _ => rfl, by omega⟩
        · rename_i hpos hml hu'
          obtain ⟨cb, d, M, hb, hrun, rfl, h4, h5, hmn, hroom⟩ := main hpos hu'
          have hml : M ≠ l := fun e => by rw [e] at hml; simp at hml
          cases h
          refine ⟨_, hrun, ?_⟩
          rw [if_neg hml]
          simp only [VR]
          have e1 : l * size + (M - l) * size = M * size := by rw [← Nat.add_mul]; congr 1; omega
          have e3 : M * size ≤ n * size := Nat.mul_le_mul_right _ hmn
          exact ⟨cb, d, d.1 + off + l * size, M - l, hb, rfl, fun _ => by omega, by omega, Nat.le_refl _, fun _ => rfl, by omega⟩
        · cases h
      · cases h
    · cases h
  · cases h
end
end Go.Am
