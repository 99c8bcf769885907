/-
  THE ABSTRACT MACHINE's CODE AND CALLS (definitions alone): fuel for loops and calls.
-/
import Derived.Test.YtiahoioaklpnlaaGreatDoorAmDef
namespace Go.Am
noncomputable section

abbrev Ev := Code → Fr → St → Option (EX × Fr × St)

def loadR (X : Ctx) (fr : Fr) (s : St) : ResultVar → Option AV
  | .tmp t => match fr.t.get t with
    | some v => some v
    | none => some .top
  | .cell a t => loadT X t (fr.opd (.tmp a)) s
def resL (X : Ctx) (fr : Fr) (s : St) : List ResultVar → Option (List AV)
  | [] => some []
  | r :: rs => match loadR X fr s r with
    | some v => match resL X fr s rs with
      | some l => some (v :: l)
      | none => none
    | none => none
def resAt (X : Ctx) (fr : Fr) (s : St) (rs : Array ResultVar) : Option AV :=
  match resL X fr s rs.toList with
  | some [v] => some v
  | some l => some (.tup l)
  | none => none

def retOf (X : Ctx) (fn : Func) (fr : Fr) (s : St) : Option CR := match resAt X fr s fn.results with
  | some v => some (.ret v s)
  | none => none

/-- How a function ends, while its deferred calls run: it returns; it panics; what it panicked with was recovered. -/
inductive DM where
  | ret
  | pan (v : AV)
  | rcv (v : AV)
def isRec (o : Oper) : Bool := match o.op with
  | .call c => match c.callee with
    | .builtin .recover => true
    | _ => false
  | _ => false
def recVal : DM → AV × DM
  | .ret => (.nilIface, .ret)
  | .pan v => (v, .rcv v)
  | .rcv v => (.nilIface, .rcv v)
abbrev SR := Option (EX × Fr × St × DM)
def nextS (k : DM → Fr → St → SR) (m : DM) : Option PR → SR
  | some (.go fr s) => match fr.d with
    | [] => k m fr s
    | _ => none
  | some (.pan v fr s) => some (.pan v, fr, s, m)
  | none => none
def recGo (k : DM → Fr → St → SR) (fr : Fr) (dst : Option Nat) (s : St) (m : DM) : Option Bool → SR
  | some true => nextS k (recVal m).2 (goOld fr dst (recVal m).1 s)
  | _ => none
def noCall : Caller := fun _ _ _ => none
/-- A region of a deferred function, in its order: it may recover. -/
def inOrderS (X : Ctx) (call : Caller) (ops : Array Oper) : List Oper → DM → Fr → St → SR
  | [], m, fr, s => some (.norm, fr, s, m)
  | o :: rest, m, fr, s => match isRec o with
    | true => recGo (inOrderS X call ops rest) fr o.dst s m (wantedAt ops fr o)
    | false => nextS (inOrderS X call ops rest) m (oneOp X call ops o fr s)
def plainS (m : DM) : Option (EX × Fr × St) → SR
  | some (x, fr, s) => some (x, fr, s, m)
  | none => none
def evS (X : Ctx) (ev : Ev) : Code → DM → Fr → St → SR
  | .seq a b => fun m fr s => match evS X ev a m fr s with
    | some (.norm, fr, s, m) => evS X ev b m fr s
    | r => r
  | .region id ops draw => fun m fr s => match !draw && ops.toList.any isRec with
    | true => inOrderS X noCall ops ops.toList m fr s
    | false => plainS m (ev (.region id ops draw) fr s)
  | c => fun m fr s => plainS m (ev c fr s)
def settled : DM → DM
  | .rcv _ => .ret
  | m => m
def dfrEnd (X : Ctx) (fn : Func) : SR → Option (DM × St)
  | some (.norm, fr, s, m) => match fr.d, resAt X fr s fn.results with
    | [], some _ => some (settled m, s)
    | _, _ => none
  | some (.ret, fr, s, m) => match fr.d, resAt X fr s fn.results with
    | [], some _ => some (settled m, s)
    | _, _ => none
  | _ => none
def dfrWith (X : Ctx) (ev : Ev) (d : ADef) (m : DM) (s : St) : Option (DM × St) :=
  match X.fns.get d.fn with
  | some fn => match fn.body with
    | some c => dfrEnd X fn (evS X ev c m { t := Tr.of d.args, d := [] } s)
    | none => none
  | none => none
/-- A function's end: its deferred calls, the last first. -/
def unmark (b : Nat) (s : St) : Option AB → Option St
  | some .dfr => some { s with h := s.h.del b }
  | _ => none
def leave (X : Ctx) (ev : Ev) (fn : Func) (fr : Fr) : List DE → DM → St → Option CR
  | [], .ret, s => retOf X fn fr s
  | [], .pan v, s => some (.pan v s)
  | [], .rcv _, _ => none
  | .fn d :: ds, m, s => match dfrWith X ev d m s with
    | some (m, s) => leave X ev fn fr ds m s
    | none => none
  | .mark b :: ds, m, s => match unmark b s (s.h.get b) with
    | some s => leave X ev fn fr ds m s
    | none => none
def endOf (X : Ctx) (ev : Ev) (fn : Func) : Option (EX × Fr × St) → Option CR
  | some (.norm, fr, s) => leave X ev fn fr fr.d .ret s
  | some (.ret, fr, s) => leave X ev fn fr fr.d .ret s
  | some (.pan v, fr, s) => leave X ev fn fr fr.d (.pan v) s
  | _ => none
def callWith (X : Ctx) (ev : Ev) (f : FuncId) (args : List AV) (s : St) : Option CR :=
  match X.fns.get f with
  | some fn => match fn.body with
    | some c => endOf X ev fn (ev c { t := Tr.of args, d := [] } s)
    | none => none
  | none => none
/- A round of a range over a function: yield's arguments, the assignments, the body; what is pending behind it. -/
def zipPut : List Nat → List AV → Tr AV → Option (Tr AV)
  | [], [], t => some t
  | p :: ps, v :: vs, t => kT (t.put p v) fun t => zipPut ps vs t
  | _, _, _ => none
def rndPan (v : AV) (s : St) : List DE → Option CR
  | [] => some (.pan v s)
  | _ => none
def rndEnd (b : Nat) (x : EX) (d : List DE) (s : St) : Option AB → Option CR
  | some (.loop t ps as bd .busy) => match x with
    | .norm => some (.ret (.bool true) { s with h := s.h.put b (.loop t ps as bd .ready) })
    | .ret => some (.ret (.bool false) { s with h := s.h.put b (.loop t ps as bd (.done .ret)) })
    | .brk i => some (.ret (.bool false) { s with h := s.h.put b (.loop t ps as bd (.done (.exit i))) })
    | .pan v => rndPan v s d
  | _ => none
def rndBody (b : Nat) : Option (EX × Fr × St) → Option CR
  | some (x, fr, s) => rndEnd b x fr.d s (s.h.get b)
  | none => none
def rndBusy (ev : Ev) (b : Nat) (bd0 : Code) (fr : Fr) (s : St) : Option AB → Option CR
  | some (.loop t ps as bd .ready) => rndBody b (ev bd0 fr { s with h := s.h.put b (.loop t ps as bd .busy) })
  | _ => none
def rndAssign (ev : Ev) (b : Nat) (bd0 : Code) : Option (EX × Fr × St) → Option CR
  | some (.norm, fr, s) => rndBusy ev b bd0 fr s (s.h.get b)
  | _ => none
def rndGo (ev : Ev) (b : Nat) (as bd0 : Code) (s : St) : Option (Tr AV) → Option CR
  | some t => rndAssign ev b bd0 (ev as ⟨t, []⟩ s)
  | none => none
def rndAt (ev : Ev) (b : Nat) (args : List AV) (s : St) : Option AB → Option CR
  | some (.loop t ps as bd .ready) => rndGo ev b as bd s (zipPut ps args t)
  | _ => none
def rndWith (ev : Ev) (b : Nat) (args : List AV) (s : St) : Option CR := rndAt ev b args s (s.h.get b)

abbrev OwnF := FuncId → Option (List AV → St → Option CR)
def callFn (X : Ctx) (own : OwnF) (ih : Ev) (f : FuncId) (args : List AV) (s : St) : Option CR := match own f with
  | some g => g args s
  | none => callWith X ih f args s
def callOwn (X : Ctx) (own : OwnF) (ih : Ev) (f : Tgt) (args : List AV) (s : St) : Option CR := match f with
  | .fn f => callFn X own ih f args s
  | .rnd b => rndWith ih b args s
def evRegion (X : Ctx) (own : OwnF) (ih : Ev) (ops : Array Oper) (fr : Fr) (s : St) (draw : Bool) : Option (EX × Fr × St) := match draw with
  | false => inOrder X (callOwn X own ih) ops ops.toList fr s
  | true => drawGo X (callOwn X own ih) ops (numbered ops) (ops.size + 1) 0 [] fr s
def evSeq (ih : Ev) (b : Code) : Option (EX × Fr × St) → Option (EX × Fr × St)
  | some (.norm, fr, s) => ih b fr s
  | r => r
def evCond (ih : Ev) (a b : Code) (fr : Fr) (s : St) : AV → Option (EX × Fr × St)
  | .bool true => ih a fr s
  | .bool false => ih b fr s
  | _ => none
def evBlock (id : Nat) : Option (EX × Fr × St) → Option (EX × Fr × St)
  | some (.brk j, fr, s) => match Nat.beq j id with
    | true => some (.norm, fr, s)
    | false => some (.brk j, fr, s)
  | r => r
/-- A range over a function: its record is laid; the one call; what a round left pending. -/
def jumpOK : Code → Bool
  | .ret => true
  | .exit _ => true
  | _ => false
def rngJump (ih : Ev) (fr : Fr) (b0 l : Nat) (s : St) : Option AB → Option (EX × Fr × St)
  | some (.loop _ _ _ _ .ready) => some (.norm, ⟨fr.t, .mark b0 :: fr.d⟩, { s with h := s.h.del l })
  | some (.loop _ _ _ _ (.done c)) => match jumpOK c with
    | true => ih c ⟨fr.t, .mark b0 :: fr.d⟩ { s with h := s.h.del l }
    | false => none
  | _ => none
def rngEnd (ih : Ev) (fr : Fr) (b0 l : Nat) : Option CR → Option (EX × Fr × St)
  | some (.ret _ s) => rngJump ih fr b0 l s (s.h.get l)
  | some (.pan v s) => some (.pan v, ⟨fr.t, .mark b0 :: fr.d⟩, s)
  | none => none
def rngCall (X : Ctx) (ih : Ev) (f : FuncId) (first cap : List AV) (fr : Fr) (b0 l : Nat) (s : St) : Option (EX × Fr × St) :=
  kL (first ++ (.yld l :: cap)) fun args => kS s fun s => rngEnd ih fr b0 l (callWith X ih f args s)
def rngWith (X : Ctx) (ih : Ev) (ps : List Nat) (as bd : Code) (fr : Fr) (s : St) : AV → Option (EX × Fr × St)
  | .func (.func f) first cap => rngCall X ih f first cap fr s.nx (s.nx + 1) ((s.new .dfr).2.new (.loop fr.t ps as bd .ready)).2
  | _ => none
def evStep (X : Ctx) (own : OwnF) (ih : Ev) : Ev := fun c fr s =>
  match c with
  | .skip => some (.norm, fr, s)
  | .label _ => some (.norm, fr, s)
  | .region _ ops draw => evRegion X own ih ops fr s draw
  | .seq a b => evSeq ih b (ih a fr s)
  | .cond x a b => evCond ih a b fr s (fr.opd x)
  | .block id b => evBlock id (ih b fr s)
  | .loop b => evSeq ih (.loop b) (ih b fr s)
  | .exit id => some (.brk id, fr, s)
  | .scope b => ih b fr s
  | .ret => some (.ret, fr, s)
  | .goto _ => none
  | .refuse _ => none
  | .rangeFunc g ps as bd => rngWith X ih ps.toList as bd fr s (fr.opd g)

def ev (X : Ctx) (own : OwnF) (n : Nat) : Ev := Nat.rec (motive := fun _ => Ev) (fun _ _ _ => none) (fun _ ih => evStep X own ih) n

def evCall (X : Ctx) (own : OwnF) (n : Nat) : FuncId → List AV → St → Option CR := callWith X (ev X own n)

end
end Go.Am
