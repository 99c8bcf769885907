/-
  CODE AND CALLS by recursors with closed arms.
-/
import Derived.Test.YtiahoioaklpnlaaGreatDoorAmFastOk
namespace Go.Am
noncomputable section

def gdF (ops : Array Oper) (j : Nat) : Option Nat := match ops.toList[j]? with
  | some g => g.dst
  | none => none
def bqF (T F : R) (b want : Bool) : R := Bool.rec (motive := fun _ => R) (Bool.rec (motive := fun _ => R) T F want) (Bool.rec (motive := fun _ => R) F T want) b
def passF (X : Ctx) (o : Oper) (fr : Fr) (s : St) (k : Fr → St → R) : R := Bool.rec (motive := fun _ => R) none (putF o.dst (.tup []) fr s k) (passOK X o fr)
def stepF (o : Oper) (X : Ctx) (call : Caller) (ops : Array Oper) (fr : Fr) (s : St) (k : Fr → St → R) : R := Option.rec (motive := fun _ => R) (opF o.op X call o fr s k) (fun g => Prod.rec (motive := fun _ => R) (fun j want => Option.rec (motive := fun _ => R) none (fun d => Option.rec (motive := fun _ => R) none
  (fun v => btK v (fun b => bqF (opF o.op X call o fr s k) (passF X o fr s k) b want) (passF X o fr s k) none) (fr.t.get d)) (gdF ops j)) g) o.guard
theorem stepF_ok {o : Oper} {X : Ctx} {call : Caller} {ops : Array Oper} {fr : Fr} {s : St} {k : Fr → St → R} : stepF o X call ops fr s k = goNext k (oneOp X call ops o fr s) := by
  have hT : opF o.op X call o fr s k = goNext k (goIf X call o fr s (some true)) := opF_ok rfl
  have hF : passF X o fr s k = goNext k (goIf X call o fr s (some false)) := by
    unfold passF
    show _ = goNext k (goPass X o fr s)
    unfold goPass
    cases passOK X o fr with
    | false => rfl
    | true => exact putF_eq _ _ _ _ _
  unfold stepF oneOp wantedAt
  cases hg : o.guard with
  | none => exact hT
  | some g =>
    obtain ⟨j, want⟩ := g
    simp only
    unfold gdF guardAt
    cases hj : ops.toList[j]? with
    | none => rfl
    | some g =>
      simp only
      cases hd : g.dst with
      | none => rfl
      | some d =>
        simp only
        unfold saysAt
        cases hv : fr.t.get d with
        | none => rfl
        | some v =>
          simp only [btK_eq]
          cases v with
          | bool b =>
            simp only
            unfold bqF
            cases b <;> cases want <;> first | exact hT | exact hF
          | tup l => exact hF
          | _ => rfl

def inOrderF : List Oper → Ctx → Caller → Array Oper → Fr → St → R := List.rec (motive := fun _ => Ctx → Caller → Array Oper → Fr → St → R) (fun _ _ _ fr s => some (.norm, fr, s)) (fun o _ ih X call ops fr s => stepF o X call ops fr s (ih X call ops))
theorem inOrderF_ok {X : Ctx} {call : Caller} {ops : Array Oper} : ∀ (l : List Oper) (fr : Fr) (s : St), inOrderF l X call ops fr s = inOrder X call ops l fr s
  | [], _, _ => rfl
  | o :: l, fr, s => by
    show stepF o X call ops fr s (fun fr s => inOrderF l X call ops fr s) = goNext (inOrder X call ops l) (oneOp X call ops o fr s)
    rw [stepF_ok]
    congr 1
    funext fr s
    exact inOrderF_ok l fr s

/- Results. -/
def tmpsOf : List ResultVar → Option (List Nat)
  | [] => some []
  | .tmp t :: l => match tmpsOf l with
    | some ts => some (t :: ts)
    | none => none
  | _ => none
def resF : List Nat → Fr → (List AV → Option CR) → Option CR := List.rec (motive := fun _ => Fr → (List AV → Option CR) → Option CR) (fun _ k => k []) (fun t _ ih fr k => Option.rec (motive := fun _ => Option CR) (ih fr fun l => k (.top :: l)) (fun v => ih fr fun l => k (v :: l)) (fr.t.get t))
def oneF (s : St) : List AV → Option CR := List.rec (motive := fun _ => Option CR) (some (.ret (.tup []) s)) (fun v l _ => List.rec (motive := fun _ => Option CR) (some (.ret v s)) (fun u m _ => some (.ret (.tup (v :: u :: m)) s)) l)
def retF (X : Ctx) (fn : Func) (fr : Fr) (s : St) : Option CR := Option.rec (motive := fun _ => Option CR) (retOf X fn fr s) (fun ts => resF ts fr (oneF s)) (tmpsOf fn.results.toList)
theorem resF_ok {X : Ctx} {s : St} {fr : Fr} : ∀ (rs : List ResultVar) (ts : List Nat) (k : List AV → Option CR), tmpsOf rs = some ts → ∃ l, resL X fr s rs = some l ∧ resF ts fr k = k l
  | [], ts, k, h => by cases h; exact ⟨[], rfl, rfl⟩
  | .cell _ _ :: _, ts, k, h => by cases h
  | .tmp t :: rs, ts, k, h => by
    unfold tmpsOf at h
    split at h
    · rename_i ts' hts
      cases h
      cases hv : fr.t.get t with
      | none =>
        obtain ⟨l, h1, h2⟩ := resF_ok (X := X) (s := s) (fr := fr) rs ts' (fun l => k (.top :: l)) hts
        refine ⟨.top :: l, by simp only [resL, loadR, hv, h1], ?_⟩
        show Option.rec (motive := fun _ => Option CR) (resF ts' fr fun l => k (.top :: l)) (fun v => resF ts' fr fun l => k (v :: l)) (fr.t.get t) = _
        rw [hv]; exact h2
      | some v =>
        obtain ⟨l, h1, h2⟩ := resF_ok (X := X) (s := s) (fr := fr) rs ts' (fun l => k (v :: l)) hts
        refine ⟨v :: l, by simp only [resL, loadR, hv, h1], ?_⟩
        show Option.rec (motive := fun _ => Option CR) (resF ts' fr fun l => k (.top :: l)) (fun v => resF ts' fr fun l => k (v :: l)) (fr.t.get t) = _
        rw [hv]; exact h2
    · cases h
theorem retF_ok {X : Ctx} {fn : Func} {fr : Fr} {s : St} : retF X fn fr s = retOf X fn fr s := by
  unfold retF
  cases ht : tmpsOf fn.results.toList with
  | none => rfl
  | some ts =>
    obtain ⟨l, h1, h2⟩ := resF_ok (X := X) (s := s) (fr := fr) fn.results.toList ts (oneF s) ht
    show resF ts fr (oneF s) = _
    rw [h2]
    unfold retOf resAt
    rw [h1]
    match l with
    | [] => rfl
    | [v] => rfl
    | _ :: _ :: _ => rfl

def exK : EX → R → (Nat → R) → R → (AV → R) → R := EX.rec (motive := fun _ => R → (Nat → R) → R → (AV → R) → R) (fun a _ _ _ => a) (fun i _ b _ _ => b i) (fun _ _ c _ => c) (fun v _ _ _ d => d v)
def exC : EX → Option CR → Option CR → (AV → Option CR) → Option CR := EX.rec (motive := fun _ => Option CR → Option CR → (AV → Option CR) → Option CR) (fun a _ _ => a) (fun _ _ b _ => b) (fun a _ _ => a) (fun v _ _ d => d v)
def leaveF (X : Ctx) (ev : Ev) (fn : Func) (fr : Fr) (s : St) : Option CR := List.rec (motive := fun _ => Option CR) (retF X fn fr s) (fun d ds _ => leave X ev fn fr (d :: ds) .ret s) fr.d
def endF (X : Ctx) (ev : Ev) (fn : Func) : R → Option CR := Option.rec (motive := fun _ => Option CR) none (Prod.rec (motive := fun _ => Option CR) fun x q => Prod.rec (motive := fun _ => Option CR) (fun fr s => exC x (leaveF X ev fn fr s) none (fun v => leave X ev fn fr fr.d (.pan v) s)) q)
theorem endF_ok {X : Ctx} {ev : Ev} {fn : Func} (r : R) : endF X ev fn r = endOf X ev fn r := by
  have hl : ∀ fr s, leaveF X ev fn fr s = leave X ev fn fr fr.d .ret s := fun fr s => by
    unfold leaveF
    cases fr.d with
    | nil => exact retF_ok
    | cons d ds => rfl
  match r with
  | none => rfl
  | some (.norm, fr, s) => exact hl fr s
  | some (.ret, fr, s) => exact hl fr s
  | some (.brk i, fr, s) => rfl
  | some (.pan v, fr, s) => rfl
def callWithF (X : Ctx) (ev : Ev) (f : FuncId) (args : List AV) (s : St) : Option CR := Option.rec (motive := fun _ => Option CR) none (fun fn => Option.rec (motive := fun _ => Option CR) none (fun c => endF X ev fn (ev c { t := Tr.of args, d := [] } s)) fn.body) (X.fns.get f)
theorem callWithF_ok {X : Ctx} {ev : Ev} {f : FuncId} {args : List AV} {s : St} : callWithF X ev f args s = callWith X ev f args s := by
  unfold callWithF callWith
  cases X.fns.get f with
  | none => rfl
  | some fn =>
    simp only
    cases fn.body with
    | none => rfl
    | some c => exact endF_ok _
def callOwnF (X : Ctx) (own : OwnF) (ih : Ev) : Caller := fun f args s => Tgt.rec (motive := fun _ => Option CR) (fun f => Option.rec (motive := fun _ => Option CR) (callWithF X ih f args s) (fun g => g args s) (own f)) (fun b => rndWith ih b args s) f
theorem callOwnF_ok {X : Ctx} {own : OwnF} {ih : Ev} : callOwnF X own ih = callOwn X own ih := by
  funext f args s
  cases f with
  | fn f =>
    show Option.rec (motive := fun _ => Option CR) (callWithF X ih f args s) (fun g => g args s) (own f) = callFn X own ih f args s
    unfold callFn
    cases own f with
    | none => exact callWithF_ok
    | some g => rfl
  | rnd b => rfl

/- Code. -/
def seqK : R → (Fr → St → R) → R := Option.rec (motive := fun _ => (Fr → St → R) → R) (fun _ => none) (fun p k => Prod.rec (motive := fun _ => R) (fun x q => exK x (Prod.rec (motive := fun _ => R) k q) (fun _ => some p) (some p) (fun _ => some p)) p)
theorem seqK_ok {ih : Ev} {b : Code} (r : R) : seqK r (ih b) = evSeq ih b r := by
  match r with
  | none => rfl
  | some (.norm, fr, s) => rfl
  | some (.ret, fr, s) => rfl
  | some (.brk i, fr, s) => rfl
  | some (.pan v, fr, s) => rfl
def blkK (id : Nat) : R → R := Option.rec (motive := fun _ => R) none (fun p => Prod.rec (motive := fun _ => R) (fun x q => exK x (some p) (fun j => Bool.rec (motive := fun _ => R) (some p) (some (.norm, q)) (Nat.beq j id)) (some p) (fun _ => some p)) p)
theorem blkK_ok {id : Nat} (r : R) : blkK id r = evBlock id r := by
  match r with
  | none => rfl
  | some (.norm, fr, s) => rfl
  | some (.ret, fr, s) => rfl
  | some (.brk i, fr, s) =>
    show Bool.rec (motive := fun _ => R) (some (.brk i, fr, s)) (some (.norm, fr, s)) (Nat.beq i id) = match Nat.beq i id with | true => some (.norm, fr, s) | false => some (.brk i, fr, s)
    cases Nat.beq i id <;> rfl
  | some (.pan v, fr, s) => rfl
abbrev CF := Ctx → OwnF → Ev → Fr → St → R
def cNorm : CF := fun _ _ _ fr s => some (.norm, fr, s)
def cNone : CF := fun _ _ _ _ _ => none
def cRet : CF := fun _ _ _ fr s => some (.ret, fr, s)
def cRegion (_ : Nat) (ops : Array Oper) (draw : Bool) : CF := fun X own ih fr s => Bool.rec (motive := fun _ => R) (inOrderF ops.toList X (callOwnF X own ih) ops fr s) (drawGo X (callOwnF X own ih) ops (numbered ops) (ops.size + 1) 0 [] fr s) draw
def cSeq (a b : Code) (_ _ : CF) : CF := fun _ _ ih fr s => seqK (ih a fr s) (ih b)
def cCond (x : Operand) (a b : Code) (_ _ : CF) : CF := fun _ _ ih fr s => opdF x fr fun v => boolK v (fun q => Bool.rec (motive := fun _ => R) (ih b fr s) (ih a fr s) q) none
def cBlock (id : Nat) (b : Code) (_ : CF) : CF := fun _ _ ih fr s => blkK id (ih b fr s)
def cLoop (b : Code) (_ : CF) : CF := fun _ _ ih fr s => seqK (ih b fr s) (ih (.loop b))
def cRange (g : Operand) (ps : Array Nat) (as bd : Code) (_ _ : CF) : CF := fun X _ ih fr s => rngWith X ih ps.toList as bd fr s (fr.opd g)
def cExit (id : Nat) : CF := fun _ _ _ fr s => some (.brk id, fr, s)
def cScope (b : Code) (_ : CF) : CF := fun _ _ ih fr s => ih b fr s
def codeF : Code → CF := Code.rec (motive := fun _ => CF) cNorm cRegion cSeq cCond cBlock cLoop cRange cExit cScope (fun _ => cNorm) (fun _ => cNone) cRet (fun _ => cNone)
theorem codeF_ok {X : Ctx} {own : OwnF} {ih : Ev} (c : Code) (fr : Fr) (s : St) : codeF c X own ih fr s = evStep X own ih c fr s := by
  cases c with
  | region id ops draw =>
    cases draw with
    | false =>
      show inOrderF ops.toList X (callOwnF X own ih) ops fr s = inOrder X (callOwn X own ih) ops ops.toList fr s
      rw [inOrderF_ok, callOwnF_ok]
    | true =>
      show drawGo X (callOwnF X own ih) ops (numbered ops) (ops.size + 1) 0 [] fr s = drawGo X (callOwn X own ih) ops (numbered ops) (ops.size + 1) 0 [] fr s
      rw [callOwnF_ok]
  | seq a b => exact seqK_ok _
  | cond x a b =>
    show opdF x fr (fun v => boolK v (fun q => Bool.rec (motive := fun _ => R) (ih b fr s) (ih a fr s) q) none) = evCond ih a b fr s (fr.opd x)
    rw [opdF_eq, boolK_eq]
    cases hv : fr.opd x <;> try rfl
    rename_i q; cases q <;> rfl
  | block id b => exact blkK_ok _
  | loop b => exact seqK_ok _
  | _ => rfl
def evF (X : Ctx) (own : OwnF) (n : Nat) : Ev := Nat.rec (motive := fun _ => Ev) (fun _ _ _ => none) (fun _ ih c fr s => codeF c X own ih fr s) n
theorem evF_ok {X : Ctx} {own : OwnF} : ∀ n, evF X own n = ev X own n
  | 0 => rfl
  | n + 1 => by
    funext c fr s
    show codeF c X own (evF X own n) fr s = evStep X own (ev X own n) c fr s
    rw [codeF_ok, evF_ok n]
def runF (X : Ctx) (own : OwnF) (n : Nat) : FuncId → List AV → St → Option CR := callWithF X (evF X own n)
theorem runF_ok {X : Ctx} {own : OwnF} {n : Nat} {f : FuncId} {args : List AV} {s : St} : runF X own n f args s = evCall X own n f args s := by
  unfold runF evCall
  rw [callWithF_ok, evF_ok]
end
end Go.Am
