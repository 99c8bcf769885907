/-
  THE ABSTRACT MACHINE's CODE AND CALLS (definitions alone): fuel for loops and calls.
-/
import Derived.Test.YtjmembjffoejpaaAmDef
namespace Go.Am
noncomputable section

abbrev Ev := Code → Fr → St → Option (EX × Fr × St)

def loadR (X : Ctx) (fr : Fr) (s : St) : ResultVar → Option AV
  | .tmp t => match fr.t.get t with
    | some v => some v
    | none => some .top
  | .cell a t => loadT X t (fr.opd (.tmp a)) s
def resL (X : Ctx) (fr : Fr) (s : St) : List ResultVar → Option (List AV)
  | [] => some []
  | r :: rs => match loadR X fr s r with
    | some v => match resL X fr s rs with
      | some l => some (v :: l)
      | none => none
    | none => none
def resAt (X : Ctx) (fr : Fr) (s : St) (rs : Array ResultVar) : Option AV :=
  match resL X fr s rs.toList with
  | some [v] => some v
  | some l => some (.tup l)
  | none => none

def retOf (X : Ctx) (fn : Func) (fr : Fr) (s : St) : Option CR := match fr.d with
  | [] => match resAt X fr s fn.results with
    | some v => some (.ret v s)
    | none => none
  | _ => none
def panOf (v : AV) (fr : Fr) (s : St) : Option CR := match fr.d with
  | [] => some (.pan v s)
  | _ => none
def endOf (X : Ctx) (fn : Func) : Option (EX × Fr × St) → Option CR
  | some (.norm, fr, s) => retOf X fn fr s
  | some (.ret, fr, s) => retOf X fn fr s
  | some (.pan v, fr, s) => panOf v fr s
  | _ => none
def callWith (X : Ctx) (ev : Ev) (f : FuncId) (args : List AV) (s : St) : Option CR :=
  match X.fns.get f with
  | some fn => match fn.body with
    | some c => endOf X fn (ev c { t := Tr.of args, d := [] } s)
    | none => none
  | none => none

abbrev OwnF := FuncId → Option (List AV → St → Option CR)
def callOwn (X : Ctx) (own : OwnF) (ih : Ev) (f : FuncId) (args : List AV) (s : St) : Option CR := match own f with
  | some g => g args s
  | none => callWith X ih f args s
def evRegion (X : Ctx) (own : OwnF) (ih : Ev) (ops : Array Oper) (fr : Fr) (s : St) (draw : Bool) : Option (EX × Fr × St) := match draw with
  | false => inOrder X (callOwn X own ih) ops ops.toList fr s
  | true => drawGo X (callOwn X own ih) ops (numbered ops) (ops.size + 1) 0 [] fr s
def evSeq (ih : Ev) (b : Code) : Option (EX × Fr × St) → Option (EX × Fr × St)
  | some (.norm, fr, s) => ih b fr s
  | r => r
def evCond (ih : Ev) (a b : Code) (fr : Fr) (s : St) : AV → Option (EX × Fr × St)
  | .bool true => ih a fr s
  | .bool false => ih b fr s
  | _ => none
def evBlock (id : Nat) : Option (EX × Fr × St) → Option (EX × Fr × St)
  | some (.brk j, fr, s) => match Nat.beq j id with
    | true => some (.norm, fr, s)
    | false => some (.brk j, fr, s)
  | r => r
def evStep (X : Ctx) (own : OwnF) (ih : Ev) : Ev := fun c fr s =>
  match c with
  | .skip => some (.norm, fr, s)
  | .label _ => some (.norm, fr, s)
  | .region _ ops draw => evRegion X own ih ops fr s draw
  | .seq a b => evSeq ih b (ih a fr s)
  | .cond x a b => evCond ih a b fr s (fr.opd x)
  | .block id b => evBlock id (ih b fr s)
  | .loop b => evSeq ih (.loop b) (ih b fr s)
  | .exit id => some (.brk id, fr, s)
  | .scope b => ih b fr s
  | .ret => some (.ret, fr, s)
  | .goto _ => none
  | .refuse _ => none
  | .rangeFunc _ _ _ _ => none

def ev (X : Ctx) (own : OwnF) (n : Nat) : Ev := Nat.rec (motive := fun _ => Ev) (fun _ _ _ => none) (fun _ ih => evStep X own ih) n

def evCall (X : Ctx) (own : OwnF) (n : Nat) : Caller := callWith X (ev X own n)

end
end Go.Am
