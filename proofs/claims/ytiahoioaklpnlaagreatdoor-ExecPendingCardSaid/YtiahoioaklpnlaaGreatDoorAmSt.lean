/-
  WHAT OF THE CODE IS CHECKED ONCE, before it is run: slots in range; regions that draw.
-/
import Derived.Orders
namespace Go.Am

/-- Does an operation of a region that draws its order act (so that it stands in one line with all that act)? Else it only reads, or lays a new block. -/
def acts (o : Oper) : Bool :=
  match o.op with
  | .move _ | .pick _ _ _ | .alloc _ | .box _ _ | .build _ _ | .buildSlice _ _ _ | .load _ _ | .nilCheck _ | .binOp _ _ _ _ _ | .unOp _ _ _ | .makeInterface _ _
  | .makeFunc _ _ _ | .makeMap _ _ | .makeSlice _ _ _ | .slice _ _ _ _ _ | .fieldAddr _ _ _ | .field _ _ _ | .indexAddr _ _ _ | .index _ _ _ | .lookup _ _ _ _ | .extract _ _ => false
  | .convert _ _ _ => false
  | .call c => match c.callee with
    | .builtin .len | .builtin .cap | .builtin .max | .builtin .min => false
    | _ => true
  | _ => true

/-- May it lay a new block? -/
def mayLay (o : Oper) : Bool :=
  match o.op with
  | .alloc _ | .box _ _ | .buildSlice _ _ _ | .makeMap _ _ | .makeSlice _ _ _ | .convert _ _ _ => true
  | _ => false

def onB (e : Edge) : Bool := match e.ground with
  | .textOnly _ | .gcOnly _ => false
  | _ => true
def waitsFor (o : Oper) (i : Nat) : Bool := o.after.toList.any fun e => onB e && Nat.beq e.on i
def numbered (ops : Array Oper) : List (Nat × Oper) := ops.toList.zipIdx.map fun (o, i) => (i, o)

def hasD (t : Nat) : List Nat → Bool
  | [] => false
  | x :: l => Nat.beq t x || hasD t l
def isDst (o : Oper) (d : Nat) : Bool := match o.dst with
  | some t => Nat.beq t d
  | none => false
/-- oj does not read, nor write, what oi writes, but behind it. -/
def behind (ops : Array Oper) (i d : Nat) (jo : Nat × Oper) : Bool := match Nat.beq i jo.1 with
  | true => !hasD d (jo.2.looksAt ops)
  | false => !isDst jo.2 d && (!hasD d (jo.2.looksAt ops) || waitsFor jo.2 i)
def readsOld (ops : Array Oper) (oi : Oper) (i : Nat) (jo : Nat × Oper) : Bool := Nat.beq i jo.1 || match jo.2.dst with
  | some d => !hasD d (oi.looksAt ops) || waitsFor oi jo.1
  | none => true
def drawOK1 (ops : Array Oper) (l : List (Nat × Oper)) (io : Nat × Oper) : Bool :=
  (acts io.2 || match io.2.dst with
    | none => true
    | some d => l.all (behind ops io.1 d)) &&
  (!mayLay io.2 || l.all (readsOld ops io.2 io.1))
def drawOK (ops : Array Oper) : Bool := (numbered ops).all (drawOK1 ops (numbered ops))

/-- No deferred call, no range over a function within: what a round's code may be. -/
def quietOp (o : Oper) : Bool := match o.op with
  | .defer _ => false
  | _ => true
def quiet : Code → Bool
  | .region _ ops _ => ops.toList.all quietOp
  | .seq a b => quiet a && quiet b
  | .cond _ a b => quiet a && quiet b
  | .block _ b => quiet b
  | .loop b => quiet b
  | .scope b => quiet b
  | .rangeFunc _ _ _ _ => false
  | _ => true
def dstOK (n : Nat) (o : Oper) : Bool := match o.dst with
  | some d => Nat.blt d n
  | none => true
def codeOK (n : Nat) : Code → Bool
  | .region _ ops draw => ops.toList.all (dstOK n) && (!draw || drawOK ops)
  | .seq a b => codeOK n a && codeOK n b
  | .cond _ a b => codeOK n a && codeOK n b
  | .block _ b => codeOK n b
  | .loop b => codeOK n b
  | .scope b => codeOK n b
  | .rangeFunc _ ps a b => (codeOK n a && codeOK n b) && ((quiet a && quiet b) && ps.toList.all fun p => Nat.blt p n)
  | _ => true
def fnOK (fn : Func) : Bool := match fn.body with
  | some c => codeOK fn.ntmps c && (fn.name != "runtime.NumGoroutine" && Nat.ble fn.ntmps 1000000000)
  | none => true

end Go.Am
