/-
  ONE OPERATION of the abstract machine against the model's 'execOp'.
-/
import Derived.Test.YtiahoioaklpnlaaGreatDoorAmBi
namespace Go.Am
section
variable {P : Program} {X : Ctx} (hX : CtxOK P X) {ι : Inj} {s : St} {w : World}

include hX in
theorem lenAt_spec {t ty : TypeId} {x v : AV} {cx : Value} (h : lenAt X t x s = some v) (hH : HR P ι s w) (hx : VR ι x cx) : ∃ cv, (Builtin.len_ #[t] ty #[cx]).run P w = .ok cv w ∧ VR ι v cv := by
  unfold lenAt at h
  split at h
  · rename_i a hu
    cases h
    obtain ⟨bs, rfl, rfl⟩ := hx.str
    exact ⟨.int .i64 bs.size, by simp [Builtin.len_, run_und hX hu, goInt], by simp [VR, Str.of]⟩
  · rename_i n e hu
    cases h
    exact ⟨.int .i64 n, by simp [Builtin.len_, run_und hX hu, goInt], by simp [VR]⟩
  · rename_i e a n c x hu
    cases h
    obtain ⟨p, ccap, rfl, _⟩ := slice_form hx
    exact ⟨.int .i64 n, by simp [Builtin.len_, run_und hX hu, goInt], by simp [VR]⟩
  · rename_i a b hu
    cases h
    simp only [VR] at hx
    subst hx
    exact ⟨.int .i64 0, by simp [Builtin.len_, run_und hX hu, goInt], by simp [VR]⟩
  · rename_i a b r hu
    split at h
    · rename_i es hg
      cases h
      rcases map_cases (x := .map (some r)) (es := es) (by simp [mapOf, hg]) hH hx with ⟨rfl, rfl⟩ | ⟨r', cb, h1, rfl, h2, h3, h4, l, clock, h5, ⟨l', hp, hr⟩, h6⟩
      · exact ⟨.int .i64 0, by simp [Builtin.len_, run_und hX hu, goInt], by simp [VR]⟩
      · have hl : es.length = l.size := by rw [hr.length, hp.length_eq, Array.length_toList]
        refine ⟨.int .i64 l.size, ?_, by simp [VR, hl]⟩
        have hg' : (getObj cb).run P w = .ok (.map l clock) w := by simp [getObj, Sem.run, h5]
        simp [Builtin.len_, run_und hX hu, goInt, hg']
    · cases h
  · cases h

include hX in
theorem capAt_spec {t ty : TypeId} {x v : AV} {cx : Value} (h : capAt X t x = some v) (hx : VR ι x cx) : ∃ cv, (Builtin.cap_ #[t] ty #[cx]).run P w = .ok cv w ∧ VR ι v cv := by
  unfold capAt at h
  split at h
  · rename_i a n c
    split at h
    · rename_i e hu
      cases h
      obtain ⟨p, ccap, rfl, _, _, h1, _⟩ := slice_form hx
      have := h1 rfl
      subst this
      exact ⟨.int .i64 ccap, by simp [Builtin.cap_, run_und hX hu, goInt], by simp [VR]⟩
    · cases h
  · cases h

theorem maxL_go : ∀ (l : List AV) (cl : List Value) (k : IntKind) (x : Int) (v : AV), maxL.go k x l = some v → VRs ι l cl → ∃ cv, (cl.foldlM Builtin.max2 (.int k x)).run P w = .ok cv w ∧ VR ι v cv
  | [], cl, k, x, v, h, hl => by
    cases cl with
    | nil => cases h; exact ⟨.int k x, by simp, by simp [VR]⟩
    | cons _ _ => simp [VRs] at hl
  | y :: l, cl, k, x, v, h, hl => by
    cases cl with
    | nil => simp [VRs] at hl
    | cons cy cl =>
      simp only [VRs] at hl
      unfold maxL.go at h
      split at h
      · rename_i e; cases e
      · rename_i j n l' e
        cases e
        have := hl.1.int
        subst this
        obtain ⟨cv, h1, h2⟩ := maxL_go l cl k _ v h hl.2
        refine ⟨cv, ?_, h2⟩
        simpa [List.foldlM_cons, Builtin.max2] using h1
      · cases h
theorem minL_go : ∀ (l : List AV) (cl : List Value) (k : IntKind) (x : Int) (v : AV), minL.go k x l = some v → VRs ι l cl → ∃ cv, (cl.foldlM Builtin.min2 (.int k x)).run P w = .ok cv w ∧ VR ι v cv
  | [], cl, k, x, v, h, hl => by
    cases cl with
    | nil => cases h; exact ⟨.int k x, by simp, by simp [VR]⟩
    | cons _ _ => simp [VRs] at hl
  | y :: l, cl, k, x, v, h, hl => by
    cases cl with
    | nil => simp [VRs] at hl
    | cons cy cl =>
      simp only [VRs] at hl
      unfold minL.go at h
      split at h
      · rename_i e; cases e
      · rename_i j n l' e
        cases e
        have := hl.1.int
        subst this
        obtain ⟨cv, h1, h2⟩ := minL_go l cl k _ v h hl.2
        refine ⟨cv, ?_, h2⟩
        simpa [List.foldlM_cons, Builtin.min2] using h1
      · cases h
theorem maxL_spec {l : List AV} {cl : Array Value} {ts : Array TypeId} {ty : TypeId} {v : AV} (h : maxL l = some v) (hl : VRs ι l cl.toList) : ∃ cv, (Builtin.max_ ts ty cl).run P w = .ok cv w ∧ VR ι v cv := by
  unfold maxL at h
  split at h
  · cases h
  · rename_i k x rest
    obtain ⟨cl⟩ := cl
    cases cl with
    | nil => simp [VRs] at hl
    | cons cx cl =>
      simp only [VRs] at hl
      have := hl.1.int
      subst this
      simpa [Builtin.max_] using maxL_go (P := P) (w := w) rest cl k x v h hl.2
  · cases h
theorem minL_spec {l : List AV} {cl : Array Value} {ts : Array TypeId} {ty : TypeId} {v : AV} (h : minL l = some v) (hl : VRs ι l cl.toList) : ∃ cv, (Builtin.min_ ts ty cl).run P w = .ok cv w ∧ VR ι v cv := by
  unfold minL at h
  split at h
  · cases h
  · rename_i k x rest
    obtain ⟨cl⟩ := cl
    cases cl with
    | nil => simp [VRs] at hl
    | cons cx cl =>
      simp only [VRs] at hl
      have := hl.1.int
      subst this
      simpa [Builtin.min_] using minL_go (P := P) (w := w) rest cl k x v h hl.2
  · cases h

theorem args1_spec {f : AV → Option OR} {l : List AV} {r : OR} {cl : Array Value} (h : args1 f l = some r) (hl : VRs ι l cl.toList) : ∃ x cx, f x = some r ∧ VR ι x cx ∧ cl = #[cx] := by
  unfold args1 at h
  split at h
  · rename_i x
    obtain ⟨cl⟩ := cl
    match cl, hl with
    | [cx], hl => exact ⟨x, cx, h, by simpa [VRs] using hl, rfl⟩
    | [], hl => simp [VRs] at hl
    | _ :: _ :: _, hl => simp [VRs] at hl
  · cases h
theorem args2_spec {f : AV → AV → Option OR} {l : List AV} {r : OR} {cl : Array Value} (h : args2 f l = some r) (hl : VRs ι l cl.toList) : ∃ x y cx cy, f x y = some r ∧ VR ι x cx ∧ VR ι y cy ∧ cl = #[cx, cy] := by
  unfold args2 at h
  split at h
  · rename_i x y
    obtain ⟨cl⟩ := cl
    match cl, hl with
    | [cx, cy], hl => simp only [VRs, and_true] at hl; exact ⟨x, y, cx, cy, h, hl.1, hl.2, rfl⟩
    | [], hl => simp [VRs] at hl
    | [_], hl => simp [VRs] at hl
    | _ :: _ :: _ :: _, hl => simp [VRs] at hl
  · cases h

include hX in
theorem builtinAt_sound {b : Builtin} {ts : Array TypeId} {ty : TypeId} {cs : Array Bool} {args : List AV} {cargs : Array Value} {r : OR} (h : builtinAt X b ts.toList args s = some r) (hH : HR P ι s w) (ha : VRs ι args cargs.toList) :
    OpOK P ι s w r ((builtin b ts ty cs cargs).run P w) := by
  obtain ⟨ts⟩ := ts
  unfold builtinAt at h
  split at h
  · split at h
    · rename_i t e
      simp only at e
      subst e
      obtain ⟨x, cx, h1, h2, rfl⟩ := args1_spec h ha
      exact pure1_sound h1 fun v hv => lenAt_spec hX hv hH h2
    · cases h
  · split at h
    · rename_i t e
      simp only at e
      subst e
      obtain ⟨x, cx, h1, h2, rfl⟩ := args1_spec h ha
      exact pure1_sound h1 fun v hv => capAt_spec hX hv h2
    · cases h
  · split at h
    · rename_i t u rest e
      simp only at e
      subst e
      obtain ⟨x, y, cx, cy, h1, h2, h3, rfl⟩ := args2_spec h ha
      unfold appendAs at h1
      split at h1
      · rename_i e he
        exact appendAt_sound hX h1 (fun d hd k => by rw [he] at hd; cases hd; simp) ⟨_, he⟩ hH h2 h3
      · rename_i he
        exact appendAt_sound hX h1 (fun d hd k => by rw [he] at hd; cases hd; simp) ⟨_, he⟩ hH h2 h3
      · cases h1
    · cases h
  · split at h
    · rename_i t rest e
      simp only at e
      subst e
      obtain ⟨x, y, cx, cy, h1, h2, h3, rfl⟩ := args2_spec h ha
      exact copyAt_sound hX h1 hH h2 h3
    · cases h
  · exact pure1_sound h fun v hv => maxL_spec hv ha
  · exact pure1_sound h fun v hv => minL_spec hv ha
  · split at h
    · rename_i t rest e
      simp only at e
      subst e
      obtain ⟨x, y, cx, cy, h1, h2, h3, rfl⟩ := args2_spec h ha
      exact delAt_sound hX h1 rfl hH h2 h3
    · cases h
  · cases h

theorem opds {fr : Fr} {a : Act} (xs : Array Operand) (hf : ∀ x ∈ xs, VR ι (fr.opd x) (a.eval x)) : VRs ι (xs.toList.map fr.opd) (xs.map a.eval).toList := by
  simp only [Array.toList_map]
  have hf : ∀ x ∈ xs.toList, VR ι (fr.opd x) (a.eval x) := fun x hx => hf x (by simpa using hx)
  revert hf
  induction xs.toList with
  | nil => simp [VRs]
  | cons x l ih => intro hf; simp only [List.map_cons, VRs]; exact ⟨hf x (by simp), ih fun y hy => hf y (by simp [hy])⟩

include hX in
theorem opInvoke_sound {x : AV} {cx : Value} {name : String} {args : List AV} {cargs : Array Value} {r : OR} (h : opInvoke X x name args = some r) (hx : VR ι x cx) (ha : VRs ι args cargs.toList) :
    ∃ g args', r = .call g args' ∧ (∃ t cv, cx = .iface t cv ∧ ∀ n, (method (n + 1) t cv name).run P w = .ok (g, cv) w) ∧ ∃ cargs', (callMethod cx name cargs).run P w = (callFunc g cargs').run P w ∧ VRs ι args' cargs'.toList := by
  unfold opInvoke at h
  split at h
  · rename_i t v
    split at h
    · rename_i i hi
      unfold invAt at h
      split at h
      · rename_i m hm
        split at h
        · rename_i d hp hu
          unfold invGo at h
          split at h
          · rename_i f b hf
            split at h
            · rename_i hb
              cases h
              have hb : b = isPtrD d := by simpa using hb
              simp only [VR] at hx
              obtain ⟨cv, rfl, hv⟩ := hx
              have hmeth : ∀ n, (method (n + 1) t cv name).run P w = .ok (f, cv) w := fun n => by
                have hm' : i.methods.find? (fun m => m.name == name) = some m := by
                  rw [← Array.find?_toList]; exact hm
                unfold method
                simp only [Sem.run_bind, run_typeInfo hX hi, Result.andThen_ok, hm', hp, follow, Sem.run_pure, hf]
                unfold receiverAt
                simp only [Sem.run_bind, run_und hX hu, Result.andThen_ok]
                subst hb
                cases d <;> simp [isPtrD, Place.get]
              refine ⟨f, _, rfl, ⟨t, cv, rfl, hmeth⟩, #[cv] ++ cargs, ?_, by simpa [VRs] using ⟨hv, ha⟩⟩
              have hd : P.types.size + Made.depth = (P.types.size + Made.depth - 1) + 1 := by
                have : 0 < Made.depth := by decide
                omega
              unfold callMethod
              simp only [Sem.run_bind, run_program, Result.andThen_ok]
              rw [hd, hmeth]
              simp
            · cases h
          · cases h
        · cases h
      · cases h
    · cases h
  · cases h

include hX in
/-- ONE OPERATION. -/
theorem opAt_sound {o : Oper} {fr : Fr} {a : Act} {r : OR} (h : opAt X o fr s = some r) (hH : HR P ι s w) (he : ∀ x ∈ o.op.operands, VR ι (fr.opd x) (a.eval x)) :
    OpOK P ι s w r ((execOp a.eval o).run P w) := by
  unfold opAt at h
  split at h
  · rename_i x ho; cases h; exact ⟨_, by simp [execOp, ho], he x (by simp [Op.operands, ho])⟩
  · rename_i x ho; cases h; exact ⟨_, by simp [execOp, ho], he x (by simp [Op.operands, ho])⟩
  · rename_i c x y ho; simp only [execOp, ho]; exact opPick_sound h (he c (by simp [Op.operands, ho])) (he x (by simp [Op.operands, ho])) (he y (by simp [Op.operands, ho]))
  · rename_i t ho; simp only [execOp, ho]; exact opAlloc_sound hX h hH
  · rename_i t x ho; simp only [execOp, ho]; exact opBox_sound h hH (he x (by simp [Op.operands, ho]))
  · rename_i t ps ho; simp only [execOp, ho]; exact opBuild_sound hX h fun p hp => he p.2 (by simp only [ho, Op.operands, List.mem_toArray, List.mem_map]; exact ⟨p, hp, rfl⟩)
  · rename_i t n ps ho; simp only [execOp, ho]; exact opBuildS_sound hX h hH fun p hp => he p.2 (by simp only [ho, Op.operands, List.mem_toArray, List.mem_map]; exact ⟨p, hp, rfl⟩)
  · rename_i t x ho; simp only [execOp, ho]; exact old1_sound h fun v hv => loadT_sound hX hH hv (he x (by simp [Op.operands, ho]))
  · rename_i t x y ho; simp only [execOp, ho]
    unfold opStore at h
    split at h
    · rename_i s' hs
      cases h
      obtain ⟨w', h1, h2, h3⟩ := storeT_sound hX hH hs (he x (by simp [Op.operands, ho])) (he y (by simp [Op.operands, ho]))
      exact ⟨_, w', undef, .inr ⟨skip_run h1, rfl⟩, by simp [undef, VR, VRs], h2, h3⟩
    · cases h
  · rename_i x ho; exact opNil_sound h (he x (by simp [Op.operands, ho])) rfl ho
  · rename_i op t x y c ho; simp only [execOp, ho]; exact pure1_sound h fun v hv => binTop_spec hX hv (he x (by simp [Op.operands, ho])) (he y (by simp [Op.operands, ho]))
  · rename_i op t x ho; simp only [execOp, ho]; exact pure1_sound h fun v hv => unAt_spec hv (he x (by simp [Op.operands, ho]))
  · rename_i t u x ho; simp only [execOp, ho]; exact opConvert_sound hX h hH (he x (by simp [Op.operands, ho]))
  · rename_i t x ho; simp only [execOp, ho]; exact opMkIface_sound hX h (he x (by simp [Op.operands, ho]))
  · rename_i f x y ho; simp only [execOp, ho]; cases h
    exact ⟨.func f (x.map a.eval) (y.map a.eval), value_run (by simp [Instr.makeFunc]), by simp only [VR]; exact ⟨_, _, rfl, opds x fun y hy => he y (by simp [Op.operands, ho, hy]), opds y fun z hz => he z (by simp [Op.operands, ho, hz])⟩⟩
  · rename_i t ho; simp only [execOp, ho]; exact opMkMap_sound h hH
  · rename_i t l c ho; simp only [execOp, ho]; exact opMkSlice_sound hX h hH (he l (by simp [Op.operands, ho])) (he c (by simp [Op.operands, ho]))
  · rename_i t x lo hi mx ho; simp only [execOp, ho]; exact pure1_sound h fun v hv => sliceAtt_sound hX hv hH (he x (by simp [Op.operands, ho])) (VRo.of_map _ fun y hy => he y (by simp [Op.operands, ho, hy])) (VRo.of_map _ fun y hy => he y (by simp [Op.operands, ho, hy])) (VRo.of_map _ fun y hy => he y (by simp [Op.operands, ho, hy]))
  · rename_i t x i ho; simp only [execOp, ho]; exact opFieldAddr_sound hX h (he x (by simp [Op.operands, ho]))
  · rename_i t x i ho; simp only [execOp, ho]; exact opField_sound hX h (he x (by simp [Op.operands, ho]))
  · rename_i t x i ho; simp only [execOp, ho]; exact opIndexAddr_sound hX h (he x (by simp [Op.operands, ho])) (he i (by simp [Op.operands, ho]))
  · rename_i t x i ho; simp only [execOp, ho]; exact opIndex_sound hX h (he x (by simp [Op.operands, ho])) (he i (by simp [Op.operands, ho]))
  · rename_i t x k ok ho; simp only [execOp, ho]; exact opLookup_sound hX h hH (he x (by simp [Op.operands, ho])) (he k (by simp [Op.operands, ho]))
  · rename_i t m k x ho; simp only [execOp, ho]; exact opMapSet_sound hX h hH (he m (by simp [Op.operands, ho])) (he k (by simp [Op.operands, ho])) (he x (by simp [Op.operands, ho]))
  · rename_i t m k x ho; simp only [execOp, ho]; exact opMapSet_sound hX h hH (he m (by simp [Op.operands, ho])) (he k (by simp [Op.operands, ho])) (he x (by simp [Op.operands, ho]))
  · rename_i x i ho; simp only [execOp, ho]; exact opExtract_sound h (he x (by simp [Op.operands, ho]))
  · rename_i x t u ok ho; simp only [execOp, ho]; exact opAssert_sound hX h (he x (by simp [Op.operands, ho]))
  · rename_i c ho; simp only [execOp, ho]
    unfold opCall at h
    split at h
    · rename_i f hc
      unfold callAt at h
      split at h
      · rename_i g first cap hv
        cases h
        have hfv := he f (by simp [Op.operands, Call.operands, ho, hc])
        rw [hv] at hfv
        simp only [VR] at hfv
        obtain ⟨x, y, h1, h2, h3⟩ := hfv
        refine ⟨x ++ c.args.map a.eval ++ y, by simp [resolve, hc, h1, Deferred.ofValue, invoke], ?_⟩
        simpa using (h2.append (opds c.args fun y hy => he y (by simp [Op.operands, Call.operands, ho, hc, hy]))).append h3
      · rename_i b hv
        cases h
        have hfv := he f (by simp [Op.operands, Call.operands, ho, hc])
        rw [hv] at hfv
        simp only [VR] at hfv
        obtain ⟨cb, d, h1, h2⟩ := hfv
        exact ⟨cb, d, c.args.map a.eval, h1, by simp [resolve, hc, h2, Deferred.ofValue, invoke], opds c.args fun y hy => he y (by simp [Op.operands, Call.operands, ho, hc, hy])⟩
      · cases h
    · rename_i b hc
      simp only [resolve, hc, Sem.run_bind, Sem.run_pure, Result.andThen_ok, invoke]
      exact builtinAt_sound hX h hH (opds c.args fun y hy => he y (by simp [Op.operands, Call.operands, ho, hc, hy]))
    · rename_i rv name hc
      obtain ⟨g, args', rfl, _, cargs', h1, h2⟩ := opInvoke_sound hX (w := w) h (he rv (by simp [Op.operands, Call.operands, ho, hc])) (opds c.args fun y hy => he y (by simp [Op.operands, Call.operands, ho, hc, hy]))
      refine ⟨cargs', ?_, h2⟩
      rw [← h1]
      have e0 : (#[a.eval rv] ++ Array.map a.eval c.args)[0]? = some (a.eval rv) := by rw [Array.getElem?_append_left (by simp)]; rfl
      have e1 : (#[a.eval rv] ++ Array.map a.eval c.args).extract 1 (#[a.eval rv] ++ Array.map a.eval c.args).size = Array.map a.eval c.args := by
        apply Array.ext'
        simp
        rw [List.take_of_length_le (by simp)]
      simp only [resolve, hc, invoke, Sem.run_bind, Sem.run_pure, Result.andThen_ok, e0, e1]
  · rename_i c ho; simp only [execOp, ho]
    unfold opDef at h
    split at h
    · rename_i f hc
      unfold opDefer at h
      split at h
      · rename_i g first cap hv
        cases h
        have hfv := he f (by simp [Op.operands, Call.operands, ho, hc])
        rw [hv] at hfv
        simp only [VR] at hfv
        obtain ⟨x, y, h1, h2, h3⟩ := hfv
        refine ⟨⟨.fn (.func g) y, x ++ c.args.map a.eval⟩, y, by simp [resolve, hc, h1, Deferred.ofValue], rfl, ?_⟩
        simpa using (h2.append (opds c.args fun y hy => he y (by simp [Op.operands, Call.operands, ho, hc, hy]))).append h3
      · cases h
    · cases h
  · rename_i x ho; simp only [execOp, ho]
    unfold opPanic at h
    split at h
    · rename_i t v hv
      cases h
      have hfv := he x (by simp [Op.operands, ho])
      rw [hv] at hfv
      have hfv0 := hfv
      simp only [VR] at hfv
      obtain ⟨u, h1, h2⟩ := hfv
      rw [h1] at hfv0
      exact ⟨_, by simp [h1, Instr.panic], hfv0⟩
    · cases h
  · cases h
end
end Go.Am
