/-
  THE FAST STEPS ARE THE MACHINE's.
-/
import Derived.Test.YtiahoioaklpnlaaGreatDoorAmFast
namespace Go.Am
section
variable {X : Ctx} {call : Caller} {o : Oper} {fr : Fr} {s : St} {k : AV → R} {d : R}

/-- What a fast handler of a value says: nothing, or what the machine says. -/
def VR2 (X : Ctx) (o : Oper) (fr : Fr) (s : St) (k : AV → R) (d r : R) : Prop := r = d ∨ ∃ u, (opAt X o fr s = some (.old u) ∨ opAt X o fr s = some (.pure u)) ∧ r = k u
theorem VR2.no : VR2 X o fr s k d d := .inl rfl
theorem VR2.old {u : AV} (h : opAt X o fr s = some (.old u)) : VR2 X o fr s k d (k u) := .inr ⟨u, .inl h, rfl⟩
theorem VR2.pure {u : AV} (h : opAt X o fr s = some (.pure u)) : VR2 X o fr s k d (k u) := .inr ⟨u, .inr h, rfl⟩

theorem vMove_ok {x : Operand} (ho : o.op = .move x ∨ o.op = .assign x) : VR2 X o fr s k d (vMove x X fr s k d) := by
  show VR2 X o fr s k d (opdF x fr k)
  rw [opdF_eq]
  refine .old ?_
  rcases ho with ho | ho <;> simp only [opAt, ho]
theorem vPick_ok {c a b : Operand} (ho : o.op = .pick c a b) : VR2 X o fr s k d (vPick c a b X fr s k d) := by
  show VR2 X o fr s k d (opdF c fr (fun cv => boolK cv (fun q => Bool.rec (motive := fun _ => R) (opdF b fr k) (opdF a fr k) q) d))
  rw [opdF_eq, boolK_eq]
  split
  · rename_i q hq
    cases q with
    | false => show VR2 X o fr s k d (opdF b fr k); rw [opdF_eq]; exact .old (by simp only [opAt, ho, opPick, hq])
    | true => show VR2 X o fr s k d (opdF a fr k); rw [opdF_eq]; exact .old (by simp only [opAt, ho, opPick, hq])
  · exact .no
theorem loadC_ok {t : TypeId} {a : Operand} {b off n : Nat} {c : Tr AV} (ho : o.op = .load t a) (ha : fr.opd a = .ptr (some (b, off))) (hc : s.cells b = some (c, n)) : VR2 X o fr s k d (loadC (shF X t) c off k d) := by
  have old : ∀ v, loadT X t (fr.opd a) s = some v → VR2 X o fr s k d (k v) := fun v hv => .old (by simp only [opAt, ho, loadAs, hv, old1])
  unfold shF
  cases hu : X.und t with
  | none => exact .no
  | some dd =>
    cases hz : X.size t with
    | none => exact .no
    | some m =>
      simp only
      cases hg : isAggD dd with
      | false =>
        show VR2 X o fr s k d (Option.rec (motive := fun _ => R) d k (c.get off))
        cases hv : c.get off with
        | none => exact .no
        | some v => exact old v (by simp only [loadT, ha, hc, hu, hz, hg, hv])
      | true =>
        show VR2 X o fr s k d (Option.rec (motive := fun _ => R) d (fun l => k (.agg l)) (ldL c off m))
        cases hv : ldL c off m with
        | none => exact .no
        | some l => exact old (.agg l) (by simp only [loadT, ha, hc, hu, hz, hg, hv])
theorem vLoad_ok {t : TypeId} {a : Operand} (ho : o.op = .load t a) : VR2 X o fr s k d (vLoad t a X fr s k d) := by
  unfold vLoad
  rw [opdF_eq, ptrK_eq]
  split
  · rename_i b off ha
    rw [cellsK_eq]
    split
    · rename_i c n hc; exact loadC_ok ho ha hc
    · exact .no
  · exact .no
theorem hStore_ok {t : TypeId} {a x : Operand} {k : Fr → St → R} (ho : o.op = .store t a x) : hStore t a x X call o fr s k = slowF X call o fr s k := by
  unfold hStore
  rw [opdF_eq, opdF_eq, ptrK_eq]
  split
  · rename_i b off ha
    rw [cellsK_eq]
    split
    · rename_i c m hc
      cases hz : sz1F X t with
      | false => rfl
      | true =>
        have hz' : X.size t = some 1 := by
          unfold sz1F at hz
          split at hz
          · rename_i n hn; rw [hn, ← Nat.beq_eq.mp hz]
          · cases hz
        simp only [oneK_eq]
        have key : ∀ (v : AV), fr.opd x = v → v.cells = [v] → v.one = true → Option.rec (motive := fun _ => R) (slowF X call o fr s k) (fun _ => c.putK off v fun c => s.h.putK b (.cells c m) fun h => putF o.dst (.tup []) fr { s with h := h } k) (c.get off) = slowF X call o fr s k := fun v hv h1 h2 => by
          cases hg : c.get off with
          | none => rfl
          | some u =>
            simp only [Tr.putK_eq]
            refine (slow_val (v := .tup []) (s' := { s with h := s.h.put b (.cells (c.put off v) m) }) ?_).symm
            simp only [opAt, ho, opStore, storeT, ha, hc, hz', hv, h1, allOne, h2, Bool.true_and, List.length_singleton, show Nat.beq 1 1 = true from rfl, stL, hg, kV0_eq, kT_eq, St.setC]
        split
        · rfl
        · rfl
        · rfl
        · rename_i h1 h2 h3
          refine key _ rfl ?_ ?_
          · generalize fr.opd x = v at h1 h2 h3
            cases v <;> first | rfl | exact absurd rfl (h2 _)
          · generalize fr.opd x = v at h1 h2 h3
            cases v <;> first | rfl | exact absurd rfl h1 | exact absurd rfl (h2 _) | exact absurd rfl (h3 _)
    · rfl
  · rfl
theorem strF_ok {op : BinOp} {x y : Str} {kont : AV → R} {d : R} : strF op x y kont d = d ∨ ∃ v, strOp op x y = some v ∧ strF op x y kont d = kont v := by
  cases op
  case eql => exact .inr ⟨_, rfl, tF_eq _ _⟩
  case neq =>
    refine .inr ⟨_, rfl, ?_⟩
    show Bool.rec (motive := fun _ => R) (kont (.bool true)) (kont (.bool false)) (x.beq y) = _
    cases x.beq y <;> rfl
  all_goals exact .inl rfl
theorem vBin_ok {op : BinOp} {t u : TypeId} {x y : Operand} (ho : o.op = .binOp op t x y u) : VR2 X o fr s k d (vBin op t x y u X fr s k d) := by
  unfold vBin
  rw [opdF_eq, opdF_eq, intK_eq]
  split
  · rename_i j n ha
    rw [intK_eq]
    split
    · rename_i i m hb
      cases hk : Nat.beq (kixF j) (kixF i) with
      | false => exact .no
      | true =>
        have := kix_inj hk
        subst this
        cases n with
        | negSucc _ => exact .no
        | ofNat n =>
          cases m with
          | negSucc _ => exact .no
          | ofNat m =>
            show VR2 X o fr s k d (intF op j n m k d)
            have hsh : (op = .shl ∨ op = .shr) ∨ ¬ (op = .shl ∨ op = .shr) := by
              cases op <;> simp
            rcases hsh with (rfl | rfl) | hsh
            · exact .no
            · exact .no
            · rcases intF_eq op j n m k d with h | ⟨v, hv, h⟩
              · rw [h]; exact .no
              · rw [h]
                refine .pure ?_
                have hbin : binAt X op t (.int j (.ofNat n)) (.int j (.ofNat m)) = some v := by
                  rw [← hv]
                  unfold binAt
                  cases op <;> simp at hsh ⊢
                simp only [opAt, ho, ha, hb, binTop, hbin, pure1]
    · exact .no
  · rw [strK_eq]
    split
    · rename_i x' ha
      rw [strK_eq]
      split
      · rename_i y' hb
        rcases strF_ok (op := op) (x := x') (y := y') (kont := k) (d := d) with h | ⟨v, hv, h⟩
        · rw [h]; exact .no
        · rw [h]
          refine .pure ?_
          have hbin : binAt X op t (.str x') (.str y') = some v := by rw [← hv]; rfl
          simp only [opAt, ho, ha, hb, binTop, hbin, pure1]
      · exact .no
    · exact .no
theorem vUn_ok {op : UnOp} {t : TypeId} {x : Operand} (ho : o.op = .unOp op t x) : VR2 X o fr s k d (vUn op t x X fr s k d) := by
  unfold vUn
  cases op <;> try exact .no
  show VR2 X o fr s k d (opdF x fr (fun v => boolK v (fun b => Bool.rec (motive := fun _ => R) (k (.bool true)) (k (.bool false)) b) d))
  rw [opdF_eq, boolK_eq]
  split
  · rename_i b hb
    cases b with
    | false => exact .pure (by simp only [opAt, ho, hb, unAt, pure1]; rfl)
    | true => exact .pure (by simp only [opAt, ho, hb, unAt, pure1]; rfl)
  · exact .no
theorem vFieldAddr_ok {t : TypeId} {x : Operand} {i : Nat} (ho : o.op = .fieldAddr t x i) : VR2 X o fr s k d (vFieldAddr t x i X fr s k d) := by
  unfold vFieldAddr
  rw [opdF_eq, ptrK_eq]
  split
  · rename_i b off ha
    cases hf : fOffF X t i with
    | none => exact .no
    | some fo =>
      simp only [frcN_eq]
      refine .pure ?_
      unfold fOffF at hf
      split at hf
      · rename_i fs hu
        split at hf
        · rename_i f hfi
          split at hf
          · rename_i n hn
            cases hf
            simp only [opAt, ho, opFieldAddr, ha, hu, hfi, fieldGo, hn]; rfl
          · cases hf
        · cases hf
      · cases hf
  · exact .no
theorem vIndexAddr_ok {t : TypeId} {x i : Operand} (ho : o.op = .indexAddr t x i) : VR2 X o fr s k d (vIndexAddr t x i X fr s k d) := by
  unfold vIndexAddr
  rw [opdF_eq, slcK_eq]
  split
  · rename_i b off e n c ex ha
    rw [opdF_eq, intK_eq]
    split
    · rename_i kk z hi
      cases z with
      | negSucc _ => exact .no
      | ofNat j =>
        show VR2 X o fr s k d (Option.rec (motive := fun _ => R) d (fun m => Bool.rec (motive := fun _ => R) d (frcN (Nat.add off (Nat.mul j m)) fun q => k (.ptr (some (b, q)))) (Nat.ble (Nat.succ j) n)) (elF X t))
        cases he : elF X t with
        | none => exact .no
        | some m =>
          cases hb : Nat.ble (Nat.succ j) n with
          | false => exact .no
          | true =>
            simp only [frcN_eq]
            refine .pure ?_
            unfold elF at he
            split at he
            · rename_i elem hu
              have hlt : Nat.blt j n = true := hb
              simp only [opAt, ho, opIndexAddr, ha, hi, hu, elemGo, he, hlt]; rfl
            · cases he
    · exact .no
  · exact .no
theorem vIndex_ok {t : TypeId} {x i : Operand} (ho : o.op = .index t x i) : VR2 X o fr s k d (vIndex t x i X fr s k d) := by
  unfold vIndex
  cases hs : stF X t with
  | false => exact .no
  | true =>
    simp only
    rw [opdF_eq, strK_eq]
    split
    · rename_i v ha
      rw [opdF_eq, intK_eq]
      split
      · rename_i kk z hi
        cases z with
        | negSucc _ => exact .no
        | ofNat j =>
          show VR2 X o fr s k d (Bool.rec (motive := fun _ => R) d (frcN (v.at j) fun q => k (.int .u8 (.ofNat q))) (Nat.ble (Nat.succ j) v.len))
          cases hb : Nat.ble (Nat.succ j) v.len with
          | false => exact .no
          | true =>
            simp only [frcN_eq]
            refine .pure ?_
            unfold stF at hs
            split at hs
            · rename_i hu
              have hlt : Nat.blt j v.len = true := hb
              simp only [opAt, ho, opIndex, ha, hi, hu, hlt]; rfl
            · cases hs
      · exact .no
    · exact .no
theorem vExtract_ok {x : Operand} {i : Nat} (ho : o.op = .extract x i) : VR2 X o fr s k d (vExtract x i X fr s k d) := by
  unfold vExtract
  rw [opdF_eq, tupK_eq]
  split
  · rename_i l ha
    rw [nthF_eq]
    cases hv : l[i]? with
    | none => exact .no
    | some v => exact .old (by simp only [opAt, ho, opExtract, ha, hv, old1])
  · exact .no
theorem bndF2_ok {lo : Option Operand} {m : Nat} {f : Nat → R} (h : ∀ q, (lo.map fr.opd = none ∧ q = m) ∨ (∃ kk, lo.map fr.opd = some (.int kk (.ofNat q))) → VR2 X o fr s k d (f q)) : VR2 X o fr s k d (bndF2 lo fr m f d) := by
  cases lo with
  | none => exact h m (.inl ⟨rfl, rfl⟩)
  | some x =>
    show VR2 X o fr s k d (opdF x fr fun v => intK v (fun _ z => Int.rec (motive := fun _ => R) f (fun _ => d) z) d)
    rw [opdF_eq, intK_eq]
    split
    · rename_i kk z hv
      cases z with
      | negSucc _ => exact .no
      | ofNat q => exact h q (.inr ⟨kk, by simp [hv]⟩)
    · exact .no
theorem vSlice_ok {t : TypeId} {x : Operand} {lo hi mx : Option Operand} (ho : o.op = .slice t x lo hi mx) : VR2 X o fr s k d (vSlice t x lo hi mx X fr s k d) := by
  unfold vSlice
  cases hs : slTop X t with
  | false => exact .no
  | true =>
    cases mx with
    | some _ => exact .no
    | none =>
      show VR2 X o fr s k d (opdF x fr fun p => strK p (fun a => bndF2 hi fr a.len (fun h => bndF2 lo fr 0 (fun l => Bool.rec (motive := fun _ => R) d (Bool.rec (motive := fun _ => R) d (frcN (Nat.sub h l) fun n => frcN (Nat.mod (Nat.div a.val (Nat.pow 256 (Nat.sub a.len h))) (Nat.pow 256 (Nat.sub h l))) fun q => k (.str ⟨n, q⟩)) (Nat.ble l h)) (Nat.ble h a.len)) d) d) d)
      rw [opdF_eq, strK_eq]
      split
      · rename_i a ha
        refine bndF2_ok fun h hh => bndF2_ok fun l hl => ?_
        cases h1 : Nat.ble h a.len with
        | false => exact .no
        | true =>
          cases h2 : Nat.ble l h with
          | false => exact .no
          | true =>
            simp only [frcN_eq]
            refine .pure ?_
            have hu : X.und t = some .string := by
              unfold slTop at hs
              split at hs
              · rename_i hu; exact hu
              · cases hs
            have hhi : highAt (hi.map fr.opd) none a.len a.len = some h := by
              rcases hh with ⟨e, rfl⟩ | ⟨kk, e⟩
              · rw [e]; rfl
              · rw [e]; simp only [highAt, boundAt]; rw [if_pos h1]
            have hlo : lowAt (lo.map fr.opd) h = some l := by
              rcases hl with ⟨e, rfl⟩ | ⟨kk, e⟩
              · rw [e]; rfl
              · rw [e]; simp only [lowAt, boundAt]; rw [if_pos h2]
            simp only [opAt, ho, Option.map_none, sliceAtt, hu, ha, bndAt, maxAt, hhi, hlo, sliceStr, pure1]
            rfl
      · exact .no
theorem goF_ok {k : Fr → St → R} {g : FuncId} {l : List AV} (h : opAt X o fr s = some (.call g l)) : goF call o fr s k g l = slowF X call o fr s k := by
  unfold goF slowF
  rw [h]
  simp only [goOp, kL_eq]
  cases hc : call (.fn g) l s with
  | none => rfl
  | some r =>
    cases r with
    | ret v s' =>
      show putF o.dst v fr s' k = goNext k (goOn fr o.dst v s')
      rw [putF_eq]; simp only [goOn, kS_eq, kV_eq]
    | pan v s' => rfl
theorem hVal_ok {k : Fr → St → R} {c : Call} {f : Operand} (ho : o.op = .call c) (hc : c.callee = .value f) : hVal c f X call o fr s k = slowF X call o fr s k := by
  unfold hVal
  rw [opdF_eq, funK_eq]
  split
  · rename_i fn a b ha
    cases fn <;> try rfl
    rename_i g
    show argsF c.args.toList fr (fun l => goF call o fr s k g (apF a (apF l b))) = _
    rw [argsF_eq, apF_eq, apF_eq]
    refine goF_ok ?_
    simp only [opAt, ho, opCall, hc, ha, callAt, List.append_assoc]
  · rfl
theorem vLen_ok {c : Call} (ho : o.op = .call c) : VR2 X o fr s k d (vLen c X fr s k d) := by
  unfold vLen
  cases hl : lenArg X c with
  | none => exact .no
  | some p =>
    obtain ⟨x, q⟩ := p
    unfold lenArg at hl
    split at hl
    · rename_i t x' h1 h2 h3
      have hop : ∀ v, lenAt X t (fr.opd x') s = some v → opAt X o fr s = some (.pure v) := fun v hv => by
        simp only [opAt, ho, opCall, h1, h2, h3, builtinAt, List.map_cons, List.map_nil, args1, hv, pure1]
      split at hl
      · rename_i hu
        cases hl
        show VR2 X o fr s k d (opdF x fr (fun v => strK v (fun x => k (.int .i64 (.ofNat x.len))) d))
        rw [opdF_eq, strK_eq]
        split
        · rename_i v ha; exact .pure (hop _ (by simp only [lenAt, hu, ha]; rfl))
        · exact .no
      · rename_i e hu
        cases hl
        show VR2 X o fr s k d (opdF x fr (fun v => slnK v (fun n => k (.int .i64 (.ofNat n))) d))
        rw [opdF_eq, slnK_eq]
        split
        · rename_i a n cc ex ha; exact .pure (hop _ (by simp only [lenAt, hu, ha]; rfl))
        · exact .no
      · cases hl
    · cases hl
theorem vNil_ok {x : Operand} (ho : o.op = .nilCheck x) : VR2 X o fr s k d (vNil x X fr s k d) := by
  unfold vNil
  rw [opdF_eq, ptrK_eq]
  split
  · rename_i b off ha; exact .old (by simp only [opAt, ho, opNil, ha])
  · exact .no
theorem vConvert_ok {a b : TypeId} {x : Operand} (ho : o.op = .convert a b x) : VR2 X o fr s k d (vConvert a b x X fr s k d) := by
  unfold vConvert
  cases hc : cvF X a b with
  | none => exact .no
  | some j =>
    simp only
    rw [opdF_eq, intK_eq]
    split
    · rename_i kk z hv
      cases z with
      | negSucc _ => exact .no
      | ofNat n =>
        show VR2 X o fr s k d (Bool.rec (motive := fun _ => R) d (k (.int j (.ofNat n))) (Nat.ble n (bndF j)))
        cases hb : Nat.ble n (bndF j) with
        | false => exact .no
        | true =>
          refine .pure ?_
          unfold cvF at hc
          split at hc
          · rename_i dd j' h1 h2
            cases hc
            simp only [opAt, ho, opConvert, hv, h1, h2, wr_nat hb]
          · cases hc
    · exact .no
theorem vF_ok {op : Op} (h : o.op = op) : VR2 X o fr s k d (vF op X fr s k d) := by
  cases op
  case move x => exact vMove_ok (.inl h)
  case assign x => exact vMove_ok (.inr h)
  case pick c a b => exact vPick_ok h
  case load t a => exact vLoad_ok h
  case nilCheck x => exact vNil_ok h
  case binOp => exact vBin_ok h
  case unOp => exact vUn_ok h
  case convert => exact vConvert_ok h
  case slice => exact vSlice_ok h
  case fieldAddr => exact vFieldAddr_ok h
  case indexAddr => exact vIndexAddr_ok h
  case index => exact vIndex_ok h
  case extract => exact vExtract_ok h
  case call c =>
    show VR2 X o fr s k d (vCall c X fr s k d)
    unfold vCall
    cases hc : c.callee with
    | builtin b => exact vLen_ok h
    | _ => exact .no
  all_goals exact .no
theorem hOf_ok {v : VH} {k : Fr → St → R} (h : ∀ k d, VR2 X o fr s k d (v X fr s k d)) : hOf v X call o fr s k = slowF X call o fr s k := by
  unfold hOf
  rcases h (fun u => putF o.dst u fr s k) (slowF X call o fr s k) with h | ⟨u, h1 | h1, h2⟩
  · exact h
  · rw [h2]; exact (slow_old h1).symm
  · rw [h2]; exact (slow_pure h1).symm
theorem hCall_ok {k : Fr → St → R} {c : Call} (ho : o.op = .call c) : hCall c X call o fr s k = slowF X call o fr s k := by
  unfold hCall
  cases hc : c.callee with
  | value f => exact hVal_ok ho hc
  | invoke _ _ => rfl
  | builtin b => exact hOf_ok fun _ _ => vLen_ok ho
theorem opF_ok {op : Op} {k : Fr → St → R} (h : o.op = op) : opF op X call o fr s k = slowF X call o fr s k := by
  cases op
  case move x => exact hOf_ok fun _ _ => vMove_ok (.inl h)
  case assign x => exact hOf_ok fun _ _ => vMove_ok (.inr h)
  case pick c a b => exact hOf_ok fun _ _ => vPick_ok h
  case load t a => exact hOf_ok fun _ _ => vLoad_ok h
  case store t a x => exact hStore_ok h
  case nilCheck x => exact hOf_ok fun _ _ => vNil_ok h
  case binOp => exact hOf_ok fun _ _ => vBin_ok h
  case unOp => exact hOf_ok fun _ _ => vUn_ok h
  case convert => exact hOf_ok fun _ _ => vConvert_ok h
  case slice => exact hOf_ok fun _ _ => vSlice_ok h
  case fieldAddr => exact hOf_ok fun _ _ => vFieldAddr_ok h
  case indexAddr => exact hOf_ok fun _ _ => vIndexAddr_ok h
  case index => exact hOf_ok fun _ _ => vIndex_ok h
  case extract => exact hOf_ok fun _ _ => vExtract_ok h
  case call => exact hCall_ok h
  all_goals rfl
end
end Go.Am
