/-
  FUNCTIONS WITHOUT A BODY: each as the model's own table has it.
-/
import Derived.Test.YtiahoioaklpnlaaGreatDoorAmMain
import Derived.Test.YtiahoioaklpnlaaGreatDoorAmExtD
import GoSem.Extern.Table
namespace Go.Am
section
variable {P : Program} {f : FuncId} {fn : Func}

theorem run_extern {e : Array Value → Sem Value} (hP : P.funcs[f]? = some fn) (hb : fn.body.isNone = true) (hn : (fn.name == "runtime.NumGoroutine") = false) (h1 : (Extern.findNext fn).isNone = true) (h2 : Extern.find fn = some e) (args : Array Value) (w : World) :
    (callFunc f args).run P w = ((e args).run P w).andThen fun v w => .ok (.value v) w := by
  have h1' : Extern.findNext fn = none := by simpa using h1
  have hn' : fn.name ≠ "runtime.NumGoroutine" := by simpa using hn
  have hb' : fn.body = none := by simpa using hb
  simp [callFunc, hP, hn', hb', h1', h2, Sem.run_bind]

/-- A function without a body that the table knows. -/
structure ExtOK (P : Program) (f : FuncId) (e : Array Value → Sem Value) : Prop where
  ex : ∃ fn, P.funcs[f]? = some fn ∧ fn.body.isNone = true ∧ (fn.name == "runtime.NumGoroutine") = false ∧ (Extern.findNext fn).isNone = true ∧ Extern.find fn = some e
theorem ExtOK.run {e : Array Value → Sem Value} (h : ExtOK P f e) (args : Array Value) (w : World) : (callFunc f args).run P w = ((e args).run P w).andThen fun v w => .ok (.value v) w := by
  obtain ⟨fn, h1, h2, h3, h4, h5⟩ := h.ex
  exact run_extern h1 h2 h3 h4 h5 args w
def OwnOne (P : Program) (f : FuncId) (g : List AV → St → Option CR) : Prop := ∀ args s r, g args s = some r → ∀ ι w cargs, VRs ι args cargs.toList → HR P ι s w → CallResF P ι s w r f cargs

theorem VRs.get1 {ι : Inj} {a : AV} {cargs : Array Value} (h : VRs ι [a] cargs.toList) : ∃ ca, cargs = #[ca] ∧ VR ι a ca := by
  obtain ⟨cl⟩ := cargs
  match cl, h with
  | [ca], h => exact ⟨ca, rfl, by simpa [VRs] using h⟩
  | [], h => simp [VRs] at h
  | _ :: _ :: _, h => simp [VRs] at h
theorem VRs.get2 {ι : Inj} {a b : AV} {cargs : Array Value} (h : VRs ι [a, b] cargs.toList) : ∃ ca cb, cargs = #[ca, cb] ∧ VR ι a ca ∧ VR ι b cb := by
  obtain ⟨cl⟩ := cargs
  match cl, h with
  | [ca, cb], h => simp only [VRs, and_true] at h; exact ⟨ca, cb, rfl, h.1, h.2⟩
  | [], h => simp [VRs] at h
  | [_], h => simp [VRs] at h
  | _ :: _ :: _ :: _, h => simp [VRs] at h
theorem own_value {ι : Inj} {s : St} {w : World} {cargs : Array Value} {v : AV} {cv : Value} (hH : HR P ι s w) (hr : (callFunc f cargs).run P w = .ok (.value cv) w) (hv : VR ι v cv) : CallResF P ι s w (.ret v s) f cargs :=
  .inr ⟨cv, w, hr, v, s, rfl, ι, hv, hH, Ext.refl _ _ _⟩

theorem f64bits_own (h : ExtOK P f Extern.MathFloatBits.float64bits) : OwnOne P f f64bits := by
  intro args s r hr ι w cargs hv hH
  unfold f64bits at hr
  split at hr
  · rename_i s b
    cases hr
    obtain ⟨ca, rfl, ha⟩ := hv.get1
    simp only [VR] at ha
    subst ha
    refine own_value hH (cv := .int .u64 b) ?_ (by simp [VR])
    rw [h.run]
    have e0 : Extern.MathFloatBits.float64bits #[.float .f64 b] = (pure (.int .u64 b) : Sem Value) := rfl
    rw [e0]; simp
  · cases hr
theorem f64from_own (h : ExtOK P f Extern.MathFloatBits.float64frombits) : OwnOne P f f64from := by
  intro args s r hr ι w cargs hv hH
  unfold f64from at hr
  split at hr
  · rename_i s n
    cases hr
    obtain ⟨ca, rfl, ha⟩ := hv.get1
    simp only [VR] at ha
    subst ha
    refine own_value hH (cv := .float .f64 n) ?_ (by simp [VR])
    rw [h.run]
    have e0 : Extern.MathFloatBits.float64frombits #[.int .u64 (Int.ofNat n)] = (pure (.float .f64 n) : Sem Value) := rfl
    rw [e0]; simp
  · cases hr

theorem idxGo_spec {bs : ByteArray} {c : Nat} : ∀ (n i : Nat), i + n = bs.size → idxGo (Str.of bs) c n i = (List.range' i n).find? fun j => Nat.beq ((Str.of bs).at j) c
  | 0, i, h => by simp [idxGo]
  | n + 1, i, h => by
    rw [List.range'_succ, List.find?_cons]
    unfold idxGo
    split
    · rename_i h1; simp only [h1]
    · rename_i h1; simp only [h1, kN_eq]; exact idxGo_spec n (i + 1) (by omega)
theorem idxByte_own (h : ExtOK P f Extern.BytealgIndexByte.indexByte) : OwnOne P f idxByte := by
  intro args s r hr ι w cargs hv hH
  unfold idxByte at hr
  split at hr
  · rename_i x s c
    split at hr
    · rename_i hc
      have hc := Nat.blt_eq.mp hc
      cases hr
      obtain ⟨ca, cb, rfl, ha, hb⟩ := hv.get2
      obtain ⟨bs, rfl, rfl⟩ := ha.str
      have := hb.int
      subst this
      have hgo := idxGo_spec (bs := bs) (c := c) bs.size 0 (by omega)
      have hlen : (Str.of bs).len = bs.size := by simp [Str.of]
      have hfind : (List.range' 0 bs.size).find? (fun j => Nat.beq ((Str.of bs).at j) c) = (List.range bs.size).find? fun i => bs[i]! == c.toUInt8 := by
        rw [List.range_eq_range']
        have hcon : ∀ (l : List Nat) (p q : Nat → Bool), (∀ j ∈ l, p j = q j) → l.find? p = l.find? q := fun l p q hpq => by
          induction l with
          | nil => rfl
          | cons a l ih => simp only [List.find?_cons, hpq a (by simp)]; rw [ih fun j hj => hpq j (by simp [hj])]
        refine hcon _ _ _ fun j hj => ?_
        have hj : j < bs.size := by simp at hj; omega
        have hj' : j < bs.data.toList.length := by simpa using hj
        rw [str_at hj']
        have e1 : bs[j]! = bs.data.toList[j] := by
          simp [getElem!_pos bs j hj]; rfl
        rw [e1]
        rw [Bool.eq_iff_iff]
        simp only [Nat.beq_eq, beq_iff_eq]
        constructor
        · intro e; apply UInt8.toNat_inj.mp; rw [e]; simp; omega
        · intro e; rw [e]; simp; omega
      rw [hlen, hgo, hfind]
      have hrun : ∀ o, (List.range bs.size).find? (fun i => bs[i]! == c.toUInt8) = o → (callFunc f #[.string bs, .int .u8 (Int.ofNat c)]).run P w = .ok (.value (match o with | some i => goInt i | none => goInt (-1))) w := fun o ho => by
        rw [h.run]
        have e0 : Extern.BytealgIndexByte.indexByte #[.string bs, .int .u8 (Int.ofNat c)] = (match (List.range bs.size).find? fun i => bs[i]! == c.toUInt8 with
          | some i => pure (goInt i)
          | none => pure (goInt (-1)) : Sem Value) := rfl
        rw [e0, ho]
        cases o <;> simp
      cases ho : (List.range bs.size).find? (fun i => bs[i]! == c.toUInt8) with
      | none => exact own_value hH (hrun _ ho) (by simp [idxRes, VR, goInt])
      | some i => exact own_value hH (hrun _ ho) (by simp [idxRes, VR, goInt])
    · cases hr
  · cases hr

/-- Several that stand for themselves. -/
def ownL : List (FuncId × (List AV → St → Option CR)) → OwnF
  | [], _ => none
  | (g, k) :: l, f => match Nat.beq f g with
    | true => some k
    | false => ownL l f
theorem ownL_ok {l : List (FuncId × (List AV → St → Option CR))} (h : ∀ p ∈ l, OwnOne P p.1 p.2) : OwnOK P (ownL l) := by
  intro f g hg
  induction l with
  | nil => cases hg
  | cons p l ih =>
    unfold ownL at hg
    split at hg
    · rename_i hf
      cases hg
      have := Nat.beq_eq.mp hf
      subst this
      exact h _ (by simp)
    · exact ih (fun q hq => h q (by simp [hq])) hg
end
end Go.Am
