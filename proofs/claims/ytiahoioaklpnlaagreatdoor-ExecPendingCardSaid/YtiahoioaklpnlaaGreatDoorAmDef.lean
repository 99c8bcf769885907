/-
  AN ABSTRACT MACHINE FOR THE MODEL's CODE: definitions alone (no proof): values, heap, one operation, code, calls. It computes; AmSound says that what it answers holds of the model.
-/
import Derived.Test.YtiahoioaklpnlaaGreatDoorAmSt
import Derived.Test.YtiahoioaklpnlaaGreatDoorAmTr
namespace Go.Am
noncomputable section

/- What is handed on is looked at first: each of these hands its argument on as it is. -/
def kN {β : Type} (m : Nat) (k : Nat → β) : β := match m with
  | 0 => k 0
  | n + 1 => k (Nat.succ n)
def Tr.ofFrom {α : Type} : List α → Nat → Tr α → Tr α
  | [], _, t => t
  | x :: xs, i, t => t.putK i x fun t => kN i fun i => ofFrom xs (i + 1) t
def Tr.of {α : Type} (l : List α) : Tr α := Tr.ofFrom l 0 .e

/-- A text: its length, and its bytes as one number. -/
structure Str where
  len : Nat
  val : Nat

def encL (l : List UInt8) : Nat := l.foldl (fun a b => a * 256 + b.toNat) 0
def Str.of (b : ByteArray) : Str := ⟨b.data.toList.length, encL b.data.toList⟩
def Str.cat (a b : Str) : Str := ⟨a.len + b.len, a.val * 256 ^ b.len + b.val⟩
def Str.at (s : Str) (i : Nat) : Nat := s.val / 256 ^ (s.len - 1 - i) % 256
def Str.sub (s : Str) (l h : Nat) : Str := ⟨h - l, s.val / 256 ^ (s.len - h) % 256 ^ (h - l)⟩
def Str.beq (a b : Str) : Bool := Nat.beq a.len b.len && Nat.beq a.val b.val
def Str.lt (a b : Str) : Bool :=
  let m := min a.len b.len
  let x := a.val / 256 ^ (a.len - m)
  let y := b.val / 256 ^ (b.len - m)
  Nat.blt x y || (Nat.beq x y && Nat.blt a.len b.len)

/-- A value: 'top': one of which nothing is known. A pointer: an abstract block and a place in it. A slice: a block, a place in it, how many cells an element has; 'cap' is a bound from below, 'exact': it is the very cap. -/
inductive AV where
  | top
  | bool (b : Bool)
  | int (k : IntKind) (n : Int)
  | flt (k : FloatKind) (bits : Nat)
  | str (s : Str)
  | ptr (a : Option (Nat × Nat))
  | slc (a : Option (Nat × Nat × Nat)) (len cap : Nat) (exact : Bool)
  | map (r : Option Nat)
  | func (fn : Fn) (first captured : List AV)
  | nilFunc
  | iface (t : TypeId) (v : AV)
  | nilIface
  | agg (cs : List AV)
  | tup (vs : List AV)
  /-- one cell, of which nothing else is known -/
  | any
  /-- what a range over a function hands to it: the loop's record lies in that block -/
  | yld (b : Nat)
  /-- the address of a cell of a package-level variable -/
  | gp (g off : Nat)
  /-- an integer from 0 on below b, of which its rest by m is known -/
  | cls (k : IntKind) (b m r : Nat)
  /-- an integer that is not n -/
  | ne (k : IntKind) (n : Int)

instance : Inhabited AV := ⟨.top⟩

def ofV1 : Value → AV
  | .bool b => .bool b
  | .int k n => .int k n
  | .float k b => .flt k b
  | .string s => .str (Str.of s)
  | .pointer none => .ptr none
  | .slice none 0 0 => .slc none 0 0 true
  | .map none => .map none
  | .nilFunc => .nilFunc
  | .nilIface => .nilIface
  | _ => .top
def ofV : Value → AV
  | .agg cs => .agg (cs.toList.map ofV1)
  | .tuple ⟨[]⟩ => .tup []
  | v => ofV1 v

def AV.cells : AV → List AV
  | .agg cs => cs
  | v => [v]
/-- Of one cell, and known? -/
def AV.one : AV → Bool
  | .top | .agg _ | .tup _ => false
  | _ => true
def allOne : List AV → Bool
  | [] => true
  | v :: vs => v.one && allOne vs

mutual
def AV.same : AV → AV → Bool
  | .bool a, .bool b => a == b
  | .int j a, .int k b => decide (j = k) && decide (a = b)
  | .flt j a, .flt k b => decide (j = k) && Nat.beq a b
  | .str a, .str b => a.beq b
  | .ptr a, .ptr b => decide (a = b)
  | .slc a n c x, .slc b m d y => decide (a = b) && Nat.beq n m && Nat.beq c d && (x == y)
  | .map a, .map b => decide (a = b)
  | .func f a b, .func g c d => decide (f = g) && sameL a c && sameL b d
  | .nilFunc, .nilFunc => true
  | .nilIface, .nilIface => true
  | .any, .any => true
  | .yld a, .yld b => Nat.beq a b
  | .gp a o, .gp b p => Nat.beq a b && Nat.beq o p
  | .cls j a m r, .cls k b n s => decide (j = k) && (Nat.beq a b && (Nat.beq m n && Nat.beq r s))
  | .ne j a, .ne k b => decide (j = k) && decide (a = b)
  | .iface t v, .iface u w => decide (t = u) && v.same w
  | .agg a, .agg b => sameL a b
  | .tup a, .tup b => sameL a b
  | _, _ => false
def sameL : List AV → List AV → Bool
  | [], [] => true
  | a :: as, b :: bs => a.same b && sameL as bs
  | _, _ => false
end

/-- What lies in a block. -/
inductive LSt where
  | ready
  | busy
  | done (jump : Code)
inductive AB where
  | cells (c : Tr AV) (n : Nat)
  | map (es : List (AV × AV))
  /-- the record of a range over a function; the block of its rounds' deferred calls, none -/
  | loop (t : Tr AV) (ps : List Nat) (assign body : Code) (st : LSt)
  | dfr

structure St where
  h : Tr AB
  nx : Nat
  /-- the cells of package-level variables, as they lie there all the time -/
  gl : Tr (Tr AV)
  /-- the blocks that may begin within one of the model's -/
  sh : List Nat

def St.new (s : St) (b : AB) : Nat × St := (s.nx, { s with h := s.h.put s.nx b, nx := s.nx + 1 })
def St.newC (s : St) (c : Tr AV) (n : Nat) : Nat × St := kT c fun c => kN n fun n => s.new (.cells c n)
def St.setC (s : St) (b : Nat) (c : Tr AV) (n : Nat) : St := kT c fun c => { s with h := s.h.put b (.cells c n) }
def St.cells (s : St) (b : Nat) : Option (Tr AV × Nat) :=
  match s.h.get b with
  | some (.cells c n) => some (c, n)
  | _ => none

section
variable {β : Type}
def kI (i : Int) (k : Int → β) : β := match i with
  | .ofNat m => kN m fun m => k (.ofNat m)
  | .negSucc m => kN m fun m => k (.negSucc m)
def kB (b : Bool) (k : Bool → β) : β := match b with
  | true => k true
  | false => k false
def kA (a : Option (Nat × Nat)) (k : Option (Nat × Nat) → β) : β := match a with
  | none => k none
  | some (b, o) => kN b fun b => kN o fun o => k (some (b, o))
def kA3 (a : Option (Nat × Nat × Nat)) (k : Option (Nat × Nat × Nat) → β) : β := match a with
  | none => k none
  | some (b, o, e) => kN b fun b => kN o fun o => kN e fun e => k (some (b, o, e))
def kV0 (v : AV) (k : AV → β) : β := match v with
  | .bool b => kB b fun b => k (.bool b)
  | .int d n => kI n fun n => k (.int d n)
  | .flt d n => kN n fun n => k (.flt d n)
  | .str ⟨n, x⟩ => kN n fun n => kN x fun x => k (.str ⟨n, x⟩)
  | .ptr a => kA a fun a => k (.ptr a)
  | .slc a n c x => kA3 a fun a => kN n fun n => kN c fun c => kB x fun x => k (.slc a n c x)
  | .map none => k (.map none)
  | .map (some r) => kN r fun r => k (.map (some r))
  | .yld r => kN r fun r => k (.yld r)
  | .gp g o => kN g fun g => kN o fun o => k (.gp g o)
  | v => k v
def kL : List AV → (List AV → β) → β
  | [], k => k []
  | v :: vs, k => kV0 v fun v => kL vs fun vs => k (v :: vs)
def kV (v : AV) (k : AV → β) : β := match v with
  | .agg cs => kL cs fun cs => k (.agg cs)
  | .tup vs => kL vs fun vs => k (.tup vs)
  | .func f a b => kL a fun a => kL b fun b => k (.func f a b)
  | .iface t v => kV0 v fun v => k (.iface t v)
  | v => kV0 v k
def kS (s : St) (k : St → β) : β := match s with
  | ⟨h, nx, gl, sh⟩ => kT h fun h => kN nx fun nx => k ⟨h, nx, gl, sh⟩

def kP : List (AV × AV) → (List (AV × AV) → β) → β
  | [], k => k []
  | (a, v) :: es, k => kV a fun a => kV v fun v => kP es fun es => k ((a, v) :: es)
end
def St.setM (s : St) (b : Nat) (es : List (AV × AV)) : St := kP es fun es => { s with h := s.h.put b (.map es) }

def ldL (c : Tr AV) : Nat → Nat → Option (List AV)
  | _, 0 => some []
  | i, n + 1 => match c.get i with
    | some v => match ldL c (i + 1) n with
      | some l => some (v :: l)
      | none => none
    | none => none
def stL : List AV → Nat → Tr AV → Option (Tr AV)
  | [], _, c => some c
  | v :: vs, i, c => match c.get i with
    | some _ => kV0 v fun v => kT (c.put i v) fun c => stL vs (i + 1) c
    | none => none

/-- The tables of a program. -/
structure Ctx where
  fns : Tr Func
  tys : Tr TypeInfo
  /-- struct types whose values are compared part by part -/
  eqs : List TypeId
def Ctx.of (P : Program) (eqs : List TypeId) : Ctx := { fns := Tr.of P.funcs.toList, tys := Tr.of P.types.toList, eqs }
def hasN (n : Nat) : List Nat → Bool
  | [] => false
  | m :: l => match Nat.beq n m with
    | true => true
    | false => hasN n l
def Ctx.und (X : Ctx) (t : TypeId) : Option TypeDesc :=
  match X.tys.get t with
  | some i => match i.desc with
    | .named _ u => match X.tys.get u with
      | some j => some j.desc
      | none => none
    | d => some d
  | none => none
def Ctx.size (X : Ctx) (t : TypeId) : Option Nat :=
  match X.tys.get t with
  | some i => some i.size
  | none => none
/-- The cells of an element, if it takes some, and not too many bytes. -/
def Ctx.elem (X : Ctx) (t : TypeId) : Option Nat :=
  match X.tys.get t with
  | some i => match i.zero with
    | some z => match Nat.ble i.bytes 1048576 && Nat.ble 1 i.size && Nat.beq z.cells.size i.size with
      | true => some i.size
      | false => none
    | none => none
  | none => none
def isAggD : TypeDesc → Bool
  | .struct _ | .array _ _ => true
  | _ => false
def Ctx.zero (X : Ctx) (t : TypeId) : Option AV :=
  match X.tys.get t with
  | some i => match i.zero with
    | some z => some (ofV z)
    | none => none
  | none => none

structure ADef where
  fn : FuncId
  args : List AV
/-- What a function's end has to do yet: a deferred call; the mark of a range over a function. -/
inductive DE where
  | fn (d : ADef)
  | mark (b : Nat)
structure Fr where
  t : Tr AV
  d : List DE

def Fr.opd (fr : Fr) : Operand → AV
  | .tmp t => match fr.t.get t with
    | some v => v
    | none => .top
  | .const v => ofV v
  | .global g => .gp g 0
  | .func f => .func (.func f) [] []
def Fr.put (fr : Fr) (d : Option Nat) (v : AV) : Fr :=
  match d with
  | some t => { fr with t := fr.t.put t v }
  | none => fr

/-- What an operation comes to: a value that stood somewhere already ('old'), or that was reckoned ('pure'), the state as it was; a value and a new state; a call; a deferred call; a panic. -/
inductive OR where
  | old (v : AV)
  | pure (v : AV)
  | val (v : AV) (s : St)
  | call (f : FuncId) (args : List AV)
  | round (b : Nat) (args : List AV)
  | dfr (d : ADef)
  | pan (v : AV)

def fits (k : IntKind) (n : Int) : Bool :=
  match n with
  | .ofNat m => match k with
    | .i8 => Nat.blt m 128 | .i16 => Nat.blt m 32768 | .i32 => Nat.blt m 2147483648 | .i64 => Nat.blt m 9223372036854775808
    | .u8 => Nat.blt m 256 | .u16 => Nat.blt m 65536 | .u32 => Nat.blt m 4294967296 | .u64 => Nat.blt m 18446744073709551616
  | .negSucc m => match k with
    | .i8 => Nat.blt m 128 | .i16 => Nat.blt m 32768 | .i32 => Nat.blt m 2147483648 | .i64 => Nat.blt m 9223372036854775808
    | _ => false
def wr (k : IntKind) (n : Int) : Int := match fits k n with
  | true => n
  | false => k.wrap n

def bitsOf (op : BinOp) (k : IntKind) (x y : Int) : Option Int :=
  let a := (x % (2 ^ k.bits : Int)).toNat
  let b := (y % (2 ^ k.bits : Int)).toNat
  match op with
  | .and => some (wr k (Nat.land a b))
  | .or => some (wr k (Nat.lor a b))
  | .xor => some (wr k (Nat.xor a b))
  | .andNot => some (wr k (Nat.land a (2 ^ k.bits - 1 - b)))
  | _ => none

def intOp (op : BinOp) (k : IntKind) (x y : Int) : Option AV :=
  match op with
  | .add => some (.int k (wr k (x + y)))
  | .sub => some (.int k (wr k (x - y)))
  | .mul => some (.int k (wr k (x * y)))
  | .quo => if y = 0 then none else some (.int k (wr k (x.tdiv y)))
  | .rem => if y = 0 then none else some (.int k (x.tmod y))
  | .eql => some (.bool (decide (x = y)))
  | .neq => some (.bool (!decide (x = y)))
  | .lss => some (.bool (decide (x < y)))
  | .leq => some (.bool (decide (x ≤ y)))
  | .gtr => some (.bool (decide (y < x)))
  | .geq => some (.bool (decide (y ≤ x)))
  | op => match bitsOf op k x y with
    | some r => some (.int k r)
    | none => none

def shiftOp (op : BinOp) (k : IntKind) (x y : Int) : Option AV :=
  if y < 0 then none else
    let n := min y.toNat k.bits
    match op with
    | .shl => some (.int k (wr k (x * 2 ^ n)))
    | .shr => some (.int k (x.fdiv (2 ^ n)))
    | _ => none

def strOp (op : BinOp) (x y : Str) : Option AV :=
  match op with
  | .add => if Nat.ble (x.len + y.len) 9223372036854775807 then some (.str (x.cat y)) else none
  | .eql => some (.bool (x.beq y))
  | .neq => some (.bool (!x.beq y))
  | .lss => some (.bool (x.lt y))
  | .leq => some (.bool (x.lt y || x.beq y))
  | .gtr => some (.bool (!(x.lt y || x.beq y)))
  | .geq => some (.bool (!x.lt y))
  | _ => none

/-- A part of a struct's or an array's cells. -/
def partAt (X : Ctx) (t : TypeId) (cs : List AV) (off : Nat) : Option AV :=
  match X.und t, X.size t with
  | some d, some n => match isAggD d with
    | true => match Nat.ble (off + n) cs.length with
      | true => some (.agg ((cs.drop off).take n))
      | false => none
    | false => cs[off]?
  | _, _ => none

/-- The fields of two structs, by what tells two parts apart. -/
def eqFields (X : Ctx) (eq : TypeId → AV → AV → Option Bool) (xs ys : List AV) : List Field → Option Bool
  | [] => some true
  | fd :: fds =>
    if fd.name = "_" then none else
    match partAt X fd.type xs fd.offset, partAt X fd.type ys fd.offset with
    | some a, some b => match eq fd.type a b with
      | some true => eqFields X eq xs ys fds
      | r => r
    | _, _ => none
/-- '==' at a type: fuel for its depth. -/
def eqAt (X : Ctx) : Nat → TypeId → AV → AV → Option Bool
  | 0, _, _, _ => none
  | f + 1, t, x, y =>
    match X.und t, x, y with
    | some .bool, .bool a, .bool b => some (a == b)
    | some (.int _), .int j a, .int k b => if j = k then some (decide (a = b)) else none
    | some .string, .str a, .str b => some (a.beq b)
    | some (.pointer _), .ptr none, .ptr b => some b.isNone
    | some (.pointer _), .ptr (some _), .ptr none => some false
    | some (.slice _), .slc none _ _ _, .slc b _ _ _ => some b.isNone
    | some (.slice _), .slc (some _) _ _ _, .slc none _ _ _ => some false
    | some (.map _ _), .map none, .map b => some b.isNone
    | some (.map _ _), .map (some _), .map none => some false
    | some (.interface ms), .nilIface, .nilIface => match ms.toList with
      | [] => some true
      | _ => none
    | some (.interface _), .nilIface, .iface _ _ => some false
    | some (.interface _), .iface _ _, .nilIface => some false
    | some (.struct fs), .agg xs, .agg ys => match hasN t X.eqs with
      | true => eqFields X (eqAt X f) xs ys fs.toList
      | false => none
    | some (.func _ _ _), .nilFunc, .nilFunc => some true
    | some (.func _ _ _), .nilFunc, .func _ _ _ => some false
    | some (.func _ _ _), .func _ _ _, .nilFunc => some false
    | _, _, _ => none

def fltRes (k : FloatKind) : Option Nat → Option AV
  | some r => some (.flt k r)
  | none => none
def fltOp (op : BinOp) (k : FloatKind) (x y : Nat) : Option AV := match op with
  | .eql => some (.bool (k.format.order x y == some .eq))
  | .neq => some (.bool (k.format.order x y != some .eq))
  | .lss => some (.bool (k.format.order x y == some .lt))
  | .leq => some (.bool (k.format.order x y == some .lt || k.format.order x y == some .eq))
  | .gtr => some (.bool (k.format.order x y == some .gt))
  | .geq => some (.bool (k.format.order x y == some .gt || k.format.order x y == some .eq))
  | .add => fltRes k (k.format.add x y)
  | .sub => fltRes k (k.format.sub x y)
  | .mul => fltRes k (k.format.mul x y)
  | .quo => fltRes k (k.format.div x y)
  | _ => none
def binAt (X : Ctx) (op : BinOp) (t : TypeId) (x y : AV) : Option AV :=
  match x, y with
  | .flt k a, .flt j b => if k = j then fltOp op k a b else none
  | .int k a, .int j b => match op with
    | .shl | .shr => shiftOp op k a b
    | op => if k = j then intOp op k a b else none
  | .str a, .str b => strOp op a b
  | x, y => match op with
    | .eql => match eqAt X 20 t x y with
      | some b => some (.bool b)
      | none => none
    | .neq => match eqAt X 20 t x y with
      | some b => some (.bool (!b))
      | none => none
    | _ => none

def cstOp : Operand → Bool
  | .const _ => true
  | _ => false
def nilTop (X : Ctx) (op : BinOp) (t : TypeId) : Option AV := match X.und t with
  | some (.interface _) => match op with
    | .eql => some (.bool true)
    | .neq => some (.bool false)
    | _ => none
  | _ => none
def clsTop (op : BinOp) (k : IntKind) (m r d : Nat) (j : IntKind) : Option AV := match op with
  | .rem => match decide (k = j) && (Nat.blt 0 d && Nat.beq (m % d) 0) with
    | true => some (.int k (r % d : Nat))
    | false => none
  | _ => none
def neTop (op : BinOp) (k j : IntKind) (n m : Int) : Option AV := match decide (k = j) && decide (n = m) with
  | true => match op with
    | .eql => some (.bool false)
    | .neq => some (.bool true)
    | _ => none
  | false => none
/-- One of two operands stands in the text ('c'): a comparison with nil. -/
def binTop (X : Ctx) (op : BinOp) (t : TypeId) (c : Bool) (x y : AV) : Option AV := match x, y with
  | .nilIface, .nilIface => match c with
    | true => nilTop X op t
    | false => binAt X op t .nilIface .nilIface
  | .cls k _ m r, .int j (.ofNat d) => clsTop op k m r d j
  | .ne k n, .int j m => neTop op k j n m
  | .int j m, .ne k n => neTop op k j n m
  | x, y => binAt X op t x y

def unAt (op : UnOp) (x : AV) : Option AV :=
  match op, x with
  | .not, .bool b => some (.bool (!b))
  | .neg, .int k n => some (.int k (wr k (0 - n)))
  | .xor, .int k n => match bitsOf .xor k (if k.signed then -1 else k.max) n with
    | some r => some (.int k r)
    | none => none
  | _, _ => none

def setsL : List AV → Nat → List AV → List AV
  | cs, _, [] => cs
  | cs, off, v :: vs => setsL (cs.set off v) (off + 1) vs
def fillL (place : Nat → Option (Nat × Nat)) : List (Nat × AV) → List AV → Option (List AV)
  | [], cells => some cells
  | (i, v) :: rest, cells => match place i with
    | some (off, size) => match v with
      | .top => none
      | v => if Nat.beq v.cells.length size && Nat.ble (off + size) cells.length then fillL place rest (setsL cells off v.cells) else none
    | none => none

def repL (z : List AV) : Nat → List AV
  | 0 => []
  | n + 1 => z ++ repL z n

def bytesOf : List AV → Option Str
  | l => go l ⟨0, 0⟩
where
  go : List AV → Str → Option Str
    | [], s => some s
    | .int .u8 n :: l, s => if 0 ≤ n ∧ n < 256 then go l ⟨s.len + 1, s.val * 256 + n.toNat⟩ else none
    | _, _ => none
def toBytes (s : Str) : Nat → List AV
  | 0 => []
  | n + 1 => .int .u8 (s.at (s.len - (n + 1))) :: toBytes s n

def boundAt (v : AV) (y : Nat) : Option Nat :=
  match v with
  | .int _ (.ofNat i) => if Nat.ble i y then some i else none
  | _ => none

def keyEq (a b : AV) : Option Bool :=
  match a, b with
  | .int j x, .int k y => if j = k then some (decide (x = y)) else none
  | .str x, .str y => some (x.beq y)
  | .bool x, .bool y => some (x == y)
  | _, _ => none
def findK (k : AV) : List (AV × AV) → Option (Option AV)
  | [] => some none
  | (a, v) :: es => match keyEq k a with
    | some true => some (some v)
    | some false => findK k es
    | none => none
def putK (k x : AV) : List (AV × AV) → Option (List (AV × AV))
  | [] => some [(k, x)]
  | (a, v) :: es => match keyEq k a with
    | some true => some ((a, x) :: es)
    | some false => match putK k x es with
      | some l => some ((a, v) :: l)
      | none => none
    | none => none
def delK (k : AV) : List (AV × AV) → Option (List (AV × AV))
  | [] => some []
  | (a, v) :: es => match keyEq k a with
    | some true => some es
    | some false => match delK k es with
      | some l => some ((a, v) :: l)
      | none => none
    | none => none
/-- A key's type, and a key of it, that are told apart at once. -/
def plainKey : TypeDesc → AV → Bool
  | .int _, .int _ _ => true
  | .string, .str _ => true
  | .bool, .bool _ => true
  | _, _ => false

def lenAt (X : Ctx) (t : TypeId) (x : AV) (s : St) : Option AV :=
  match X.und t, x with
  | some .string, .str a => some (.int .i64 a.len)
  | some (.array n _), _ => some (.int .i64 n)
  | some (.slice _), .slc _ n _ _ => some (.int .i64 n)
  | some (.map _ _), .map none => some (.int .i64 0)
  | some (.map _ _), .map (some r) => match s.h.get r with
    | some (.map es) => some (.int .i64 es.length)
    | _ => none
  | _, _ => none

/-- What is appended: cells. -/
def srcCells (s : St) (size : Nat) : AV → Option (Nat × List AV)
  | .slc none n _ _ => if Nat.beq n 0 then some (0, []) else none
  | .slc (some (b, off, _)) n _ _ => match Nat.beq n 0 with
    | true => some (0, [])
    | false => match s.cells b with
      | some (c, _) => match ldL c off (n * size) with
        | some l => some (n, l)
        | none => none
      | none => none
  | .str a => match Nat.beq size 1 with
    | true => some (a.len, toBytes a a.len)
    | false => none
  | _ => none

def appRoom (base : Option (Nat × Nat × Nat)) (len n cap size : Nat) (exact : Bool) (new : List AV) (s : St) : Option OR := match base with
  | some (b, off, es) => match s.cells b with
    | some (c, m) => match stL new (off + len * size) c with
      | some c' => some (.val (.slc (some (b, off, es)) (len + n) cap exact) (s.setC b c' m))
      | none => none
    | none => none
  | none => none
def appOld (off len size m : Nat) (c : Tr AV) (new : List AV) : Option (Tr AV) := match Nat.beq off 0 && Nat.beq m (len * size) with
  | true => match ldL c 0 (len * size) with
    | some _ => some (Tr.ofFrom new (len * size) c)
    | none => none
  | false => match ldL c off (len * size) with
    | some old => some (Tr.of (old ++ new))
    | none => none
def appNew (b : Nat) (len n size : Nat) (exact : Bool) (s : St) : Option (Tr AV) → Option OR
  | some c' =>
    let r := St.newC (match exact with | true => s | false => { s with h := s.h.del b, sh := s.nx :: s.sh }) c' ((len + n) * size)
    some (.val (.slc (some (r.1, 0, size)) (len + n) (len + n) false) r.2)
  | none => none
def appGrow (base : Option (Nat × Nat × Nat)) (len n size : Nat) (exact : Bool) (new : List AV) (s : St) : Option OR := match base with
  | none =>
    let r := s.newC (Tr.of new) new.length
    some (.val (.slc (some (r.1, 0, size)) n n false) r.2)
  | some (b, off, es) => match Nat.beq es size, s.cells b with
    | true, some (c, m) => appNew b len n size exact s (appOld off len size m c new)
    | _, _ => none
def appGo (base : Option (Nat × Nat × Nat)) (len cap size n : Nat) (exact : Bool) (new : List AV) (s : St) : Option OR :=
  match Nat.beq n 0 with
  | true => some (.old (.slc base len cap exact))
  | false => match allOne new with
    | false => none
    | true => match Nat.ble (len + n) cap with
      | true => appRoom base len n cap size exact new s
      | false => match Nat.ble (len + n) 1000000 with
        | true => appGrow base len n size exact new s
        | false => none
def appendAt (X : Ctx) (st : TypeId) (x y : AV) (s : St) : Option OR :=
  match X.und st with
  | some (.slice elem) => match X.elem elem, x with
    | some size, .slc base len cap exact => match srcCells s size y with
      | some (n, new) => appGo base len cap size n exact new s
      | none => none
    | _, _ => none
  | _ => none

def lenOf : AV → Option Nat
  | .slc _ n _ _ => some n
  | .str a => some a.len
  | _ => none
/-- Its first ones. -/
def cutAt (n : Nat) : AV → AV
  | .slc a _ _ _ => .slc a n n false
  | .str a => .str (a.sub 0 n)
  | v => v
def copyInto (base : Option (Nat × Nat × Nat)) (n : Nat) (s : St) : Option (Nat × List AV) → Option OR
  | some (_, new) => match base with
    | none => some (.pure (.int .i64 n))
    | some (b, off, _) => match Nat.beq n 0, allOne new, s.cells b with
      | true, _, _ => some (.pure (.int .i64 n))
      | false, true, some (c, k) => match stL new off c with
        | some c' => some (.val (.int .i64 n) (s.setC b c' k))
        | none => none
      | _, _, _ => none
  | none => none
def copyGo (s : St) (size : Nat) (base : Option (Nat × Nat × Nat)) (len : Nat) (y : AV) : Option Nat → Option OR
  | some m => copyInto base (min m len) s (srcCells s size (cutAt (min m len) y))
  | none => none
def copyAt (X : Ctx) (dt : TypeId) (x y : AV) (s : St) : Option OR :=
  match X.und dt with
  | some (.slice elem) => match X.size elem, x with
    | some size, .slc base len _ _ => copyGo s size base len y (lenOf y)
    | _, _ => none
  | _ => none

def maxL : List AV → Option AV
  | [] => none
  | .int k x :: rest => go k x rest
  | _ => none
where
  go (k : IntKind) (x : Int) : List AV → Option AV
    | [] => some (.int k x)
    | .int _ y :: l => go k (if x < y then y else x) l
    | _ => none
def minL : List AV → Option AV
  | [] => none
  | .int k x :: rest => go k x rest
  | _ => none
where
  go (k : IntKind) (x : Int) : List AV → Option AV
    | [] => some (.int k x)
    | .int _ y :: l => go k (if y < x then y else x) l
    | _ => none

def old1 : Option AV → Option OR
  | some v => some (.old v)
  | none => none
def pure1 : Option AV → Option OR
  | some v => some (.pure v)
  | none => none

def capAt (X : Ctx) (t : TypeId) (x : AV) : Option AV := match x with
  | .slc _ _ c true => match X.und t with
    | some (.slice _) => some (.int .i64 c)
    | _ => none
  | _ => none
def appendAs (X : Ctx) (t u : TypeId) (x y : AV) (s : St) : Option OR := match X.und u with
  | some (.slice _) => appendAt X t x y s
  | some .string => appendAt X t x y s
  | _ => none
def delAt (X : Ctx) (t : TypeId) (m k : AV) (s : St) : Option OR := match m, X.und t with
  | .map (some r), some (.map kt _) => match X.und kt, s.h.get r with
    | some d, some (.map es) => match plainKey d k, delK k es with
      | true, some es' => some (.val (.tup []) (s.setM r es'))
      | _, _ => none
    | _, _ => none
  | _, _ => none
def args1 (f : AV → Option OR) : List AV → Option OR
  | [x] => f x
  | _ => none
def args2 (f : AV → AV → Option OR) : List AV → Option OR
  | [x, y] => f x y
  | _ => none
def builtinAt (X : Ctx) (b : Builtin) (ts : List TypeId) (args : List AV) (s : St) : Option OR :=
  match b with
  | .len => match ts with
    | [t] => args1 (fun x => pure1 (lenAt X t x s)) args
    | _ => none
  | .cap => match ts with
    | [t] => args1 (fun x => pure1 (capAt X t x)) args
    | _ => none
  | .append => match ts with
    | t :: u :: _ => args2 (fun x y => appendAs X t u x y s) args
    | _ => none
  | .copy => match ts with
    | t :: _ => args2 (fun x y => copyAt X t x y s) args
    | _ => none
  | .max => pure1 (maxL args)
  | .min => pure1 (minL args)
  | .delete => match ts with
    | t :: _ => args2 (fun x y => delAt X t x y s) args
    | _ => none
  | _ => none

def callAt (f : AV) (args : List AV) : Option OR :=
  match f with
  | .func (.func g) first captured => some (.call g (first ++ args ++ captured))
  | .yld b => some (.round b args)
  | _ => none

def lowAt (lo : Option AV) (h : Nat) : Option Nat := match lo with
  | some v => boundAt v h
  | none => some 0
def highAt (hi mx : Option AV) (m len : Nat) : Option Nat := match hi with
  | some v => boundAt v m
  | none => match mx with
    | some _ => none
    | none => some len
def maxAt (mx : Option AV) (cap : Nat) : Option Nat := match mx with
  | some v => boundAt v cap
  | none => some cap
/-- Low, high, max. -/
def bndAt (lo hi mx : Option AV) (len cap : Nat) : Option (Nat × Nat × Nat) := match maxAt mx cap with
  | some m => match highAt hi mx m len with
    | some h => match lowAt lo h with
      | some l => some (l, h, m)
      | none => none
    | none => none
  | none => none
def sliceStr (a : Str) : Option (Nat × Nat × Nat) → Option AV
  | some (l, h, _) => some (.str (a.sub l h))
  | none => none
/-- (At its very end a slice keeps its address: where that cannot be told, nothing of it is said.) -/
def sliceSl (a : Option (Nat × Nat × Nat)) (size l h m : Nat) (ex : Bool) : Option AV := match a with
  | none => some (.slc none (h - l) (m - l) true)
  | some (b, off, es) => match Nat.beq es size, Nat.beq l 0, Nat.beq m l, ex with
    | true, true, _, _ => some (.slc (some (b, off, es)) (h - l) (m - l) ex)
    | true, false, false, _ => some (.slc (some (b, off + l * size, es)) (h - l) (m - l) ex)
    | true, false, true, true => some (.slc (some (b, off, es)) (h - l) (m - l) true)
    | true, false, true, false => some (.slc (some (b, off, es)) 0 0 false)
    | false, _, _, _ => none
def exAt (mx : Option AV) (exact : Bool) (cap : Nat) : Bool := match mx with
  | some _ => exact || Nat.blt 0 cap
  | none => exact
def sliceS (X : Ctx) (elem : TypeId) (a : Option (Nat × Nat × Nat)) (cap : Nat) (exact : Bool) (mx : Option AV) : Option (Nat × Nat × Nat) → Option AV
  | some (l, h, m) => match X.size elem with
    | some size => sliceSl a size l h m (exAt mx exact cap)
    | none => none
  | none => none
def sliceA (X : Ctx) (s : St) (elem n b off : Nat) : Option (Nat × Nat × Nat) → Option AV
  | some (l, h, m) => match X.size elem, s.cells b with
    | some size, some (c, _) => match Nat.blt 0 size && Nat.blt 0 n, Nat.beq m l, c.get (off + n * size - 1) with
      | true, true, some _ => some (.slc (some (b, off, size)) (h - l) (m - l) true)
      | true, false, some _ => some (.slc (some (b, off + l * size, size)) (h - l) (m - l) true)
      | _, _, _ => none
    | _, _ => none
  | none => none
def sliceAtt (X : Ctx) (s : St) (t : TypeId) (x : AV) (lo hi mx : Option AV) : Option AV :=
  match X.und t, x with
  | some .string, .str a => match mx with
    | some _ => none
    | none => sliceStr a (bndAt lo hi none a.len a.len)
  | some (.slice elem), .slc a len cap exact => sliceS X elem a cap exact mx (bndAt lo hi mx len cap)
  | some (.array n elem), .ptr (some (b, off)) => sliceA X s elem n b off (bndAt lo hi mx n n)
  | _, _ => none

def parts (fr : Fr) (ps : Array (Nat × Operand)) : List (Nat × AV) := ps.toList.map fun (i, x) => (i, fr.opd x)

def placesL (X : Ctx) : List Field → Option (List (Nat × Nat))
  | [] => some []
  | f :: fs => match X.size f.type with
    | some n => match placesL X fs with
      | some l => some ((f.offset, n) :: l)
      | none => none
    | none => none

def loadT (X : Ctx) (t : TypeId) (a : AV) (s : St) : Option AV :=
  match a with
  | .ptr (some (b, off)) => match s.cells b with
    | some (c, _) => match X.und t, X.size t with
      | some d, some n => match isAggD d with
        | true => match ldL c off n with
          | some l => some (.agg l)
          | none => none
        | false => c.get off
      | _, _ => none
    | none => none
  | .gp g off => match s.gl.get g with
    | some c => match X.und t with
      | some d => match isAggD d with
        | true => none
        | false => c.get off
      | none => none
    | none => none
  | _ => none
def storeT (X : Ctx) (t : TypeId) (a v : AV) (s : St) : Option St :=
  match a with
  | .ptr (some (b, off)) => match s.cells b with
    | some (c, m) => match X.size t, allOne v.cells with
      | some n, true => match Nat.beq v.cells.length n with
        | true => match stL v.cells off c with
          | some c' => some (s.setC b c' m)
          | none => none
        | false => none
      | _, _ => none
    | none => none
  | _ => none
def newCells (cs : List AV) (s : St) : Option OR :=
  match allOne cs with
  | true =>
    let r := s.newC (Tr.of cs) cs.length
    some (.val (.ptr (some (r.1, 0))) r.2)
  | false => none

def opPick (c a b : AV) : Option OR := match c with
  | .bool true => some (.old a)
  | .bool false => some (.old b)
  | _ => none
def opAlloc (X : Ctx) (t : TypeId) (s : St) : Option OR := match X.zero t with
  | some z => newCells z.cells s
  | none => none
def opBox (x : AV) (s : St) : Option OR := match x with
  | .top => none
  | v => newCells v.cells s
def okAgg : Option (List AV) → Option OR
  | some cs => some (.pure (.agg cs))
  | none => none
def opBuildA (X : Ctx) (elem : TypeId) (z : AV) (ps : List (Nat × AV)) : Option OR := match X.size elem with
  | some n => okAgg (fillL (fun i => some (i * n, n)) ps z.cells)
  | none => none
def opBuildF (z : AV) (ps : List (Nat × AV)) : Option (List (Nat × Nat)) → Option OR
  | some pl => okAgg (fillL (fun i => pl[i]?) ps z.cells)
  | none => none
def opBuild (X : Ctx) (t : TypeId) (ps : List (Nat × AV)) : Option OR := match X.zero t, X.und t with
  | some z, some (.struct fs) => opBuildF z ps (placesL X fs.toList)
  | some z, some (.array _ elem) => opBuildA X elem z ps
  | _, _ => none
def newSlice (cs : List AV) (len size : Nat) (s : St) : Option OR := match allOne cs with
  | true =>
    let r := s.newC (Tr.of cs) cs.length
    some (.val (.slc (some (r.1, 0, size)) len len true) r.2)
  | false => none
def opBuildS1 (n : Nat) (z : AV) (len : Nat) (ps : List (Nat × AV)) (s : St) : Option OR :=
  match fillL (fun i => some (i * n, n)) ps (repL z.cells len) with
  | some cs => newSlice cs len n s
  | none => none
def opBuildS (X : Ctx) (t : TypeId) (len : Nat) (ps : List (Nat × AV)) (s : St) : Option OR := match X.und t with
  | some (.slice elem) => match X.size elem, X.zero elem with
    | some n, some z => match Nat.ble (len * n) 100000 && Nat.beq z.cells.length n && Nat.blt 0 n with
      | true => opBuildS1 n z len ps s
      | false => none
    | _, _ => none
  | _ => none
def opStore (X : Ctx) (t : TypeId) (a x : AV) (s : St) : Option OR := match storeT X t a x s with
  | some s' => some (.val (.tup []) s')
  | none => none
def opNil (x : AV) : Option OR := match x with
  | .ptr (some a) => some (.old (.ptr (some a)))
  | .func (.func f) a b => some (.old (.func (.func f) a b))
  | .iface t v => some (.old (.iface t v))
  | .yld b => some (.old (.yld b))
  | .gp g o => some (.old (.gp g o))
  | _ => none
def convBytes (X : Ctx) (e : TypeId) (v : Str) (s : St) : Option OR := match X.und e with
  | some (.int .u8) => match Nat.ble v.len 1000000 with
    | true =>
      let r := s.newC (Tr.of (toBytes v v.len)) v.len
      some (.val (.slc (some (r.1, 0, 1)) v.len v.len false) r.2)
    | false => none
  | _ => none
def convStr (X : Ctx) (e : TypeId) (a : Option (Nat × Nat × Nat)) (n : Nat) (s : St) : Option OR := match X.und e with
  | some (.int .u8) => match srcCells s 1 (.slc a n n false) with
    | some (_, l) => match bytesOf l with
      | some v => some (.pure (.str v))
      | none => none
    | none => none
  | _ => none
def opConvert (X : Ctx) (a b : TypeId) (x : AV) (s : St) : Option OR := match X.und a, X.und b, x with
  | some _, some (.int k), .int _ n => some (.pure (.int k (wr k n)))
  | some _, some (.int k), .cls _ b m r => match fits k b with
    | true => some (.pure (.cls k b m r))
    | false => none
  | some _, some .string, .str v => some (.old (.str v))
  | some .string, some (.slice e), .str v => convBytes X e v s
  | some (.slice e), some .string, .slc a n _ _ => convStr X e a n s
  | _, _, _ => none
def opMkIface (X : Ctx) (t : TypeId) (v : AV) : Option OR := match X.und t with
  | some (.interface _) => none
  | some _ => some (.old (.iface t v))
  | none => none
def opMkMap (s : St) : Option OR :=
  let r := s.new (.map [])
  some (.val (.map (some r.1)) r.2)
def mkSlice1 (k : Nat) (z : AV) (n m : Nat) (s : St) : Option OR :=
  match Nat.ble n m && Nat.ble m 100000 && (allOne z.cells && Nat.beq z.cells.length k) with
  | true =>
    let r := s.newC (Tr.of (repL z.cells m)) (m * k)
    some (.val (.slc (some (r.1, 0, k)) n m true) r.2)
  | false => none
def opMkSlice (X : Ctx) (t : TypeId) (l c : AV) (s : St) : Option OR := match X.und t, l, c with
  | some (.slice elem), .int _ (.ofNat n), .int _ (.ofNat m) => match X.elem elem, X.zero elem with
    | some k, some z => mkSlice1 k z n m s
    | _, _ => none
  | _, _, _ => none
def fieldGo (X : Ctx) (b off : Nat) : Option Field → Option OR
  | some f => match X.size f.type with
    | some 0 => none
    | some (_ + 1) => some (.pure (.ptr (some (b, off + f.offset))))
    | none => none
  | none => none
def fieldGoG (X : Ctx) (g off : Nat) : Option Field → Option OR
  | some f => match X.size f.type with
    | some 0 => none
    | some (_ + 1) => some (.pure (.gp g (off + f.offset)))
    | none => none
  | none => none
def elemGoG (X : Ctx) (elem g off n k : Nat) : Option OR := match X.size elem, Nat.blt k n with
  | some m, true => some (.pure (.gp g (off + k * m)))
  | _, _ => none
def opFieldAddr (X : Ctx) (t : TypeId) (x : AV) (i : Nat) : Option OR := match x with
  | .gp g off => match X.und t with
    | some (.struct fs) => fieldGoG X g off (fs.toList[i]?)
    | _ => none
  | .ptr (some (b, off)) => match X.und t with
    | some (.struct fs) => fieldGo X b off (fs.toList[i]?)
    | _ => none
  | _ => none
def opField (X : Ctx) (t : TypeId) (x : AV) (i : Nat) : Option OR := match X.und t, x with
  | some (.struct fs), .agg cs => match fs.toList[i]? with
    | some f => old1 (partAt X f.type cs f.offset)
    | none => none
  | _, _ => none
def elemGo (X : Ctx) (elem b off n k : Nat) : Option OR := match X.size elem, Nat.blt k n with
  | some m, true => some (.pure (.ptr (some (b, off + k * m))))
  | _, _ => none
def opIndexAddr (X : Ctx) (t : TypeId) (x i : AV) : Option OR := match X.und t, x, i with
  | some (.array n elem), .ptr (some (b, off)), .int _ (.ofNat k) => elemGo X elem b off n k
  | some (.array n elem), .gp g off, .int _ (.ofNat k) => elemGoG X elem g off n k
  | some (.slice elem), .slc (some (b, off, _)) n _ _, .int _ (.ofNat k) => elemGo X elem b off n k
  | _, _, _ => none
def opIndexA (X : Ctx) (elem n k : Nat) (cs : List AV) : Option OR := match X.size elem, Nat.blt k n with
  | some m, true => old1 (partAt X elem cs (k * m))
  | _, _ => none
def opIndex (X : Ctx) (t : TypeId) (x i : AV) : Option OR := match X.und t, x, i with
  | some .string, .str v, .int _ (.ofNat k) => match Nat.blt k v.len with
    | true => some (.pure (.int .u8 (v.at k)))
    | false => none
  | some (.array n elem), .agg cs, .int _ (.ofNat k) => opIndexA X elem n k cs
  | _, _, _ => none
def mapOf (x : AV) (s : St) : Option (List (AV × AV)) := match x with
  | .map none => some []
  | .map (some r) => match s.h.get r with
    | some (.map es) => some es
    | _ => none
  | _ => none
def ansOk (ok : Bool) (v : AV) (b : Bool) : Option OR := match ok with
  | true => some (.pure (.tup [v, .bool b]))
  | false => some (.pure v)
def lookGo (X : Ctx) (vt : TypeId) (ok : Bool) : Option (Option AV) → Option OR
  | some (some v) => ansOk ok v true
  | some none => match X.zero vt with
    | some z => ansOk ok z false
    | none => none
  | none => none
def opLookup (X : Ctx) (t : TypeId) (x k : AV) (ok : Bool) (s : St) : Option OR := match X.und t with
  | some (.map kt vt) => match X.und kt, mapOf x s with
    | some d, some es => match plainKey d k with
      | true => lookGo X vt ok (findK k es)
      | false => none
    | _, _ => none
  | _ => none
def opMapSet (X : Ctx) (t : TypeId) (m k v : AV) (s : St) : Option OR := match v with
  | .top => none
  | v => match X.und t, m with
    | some (.map kt _), .map (some r) => match X.und kt, s.h.get r with
      | some d, some (.map es) => match plainKey d k, putK k v es with
        | true, some es' => some (.val (.tup []) (s.setM r es'))
        | _, _ => none
      | _, _ => none
    | _, _ => none
def opExtract (x : AV) (i : Nat) : Option OR := match x with
  | .tup vs => old1 (vs[i]?)
  | _ => none
def zeroOk (X : Ctx) (u : TypeId) (ok : Bool) : Option OR := match ok with
  | true => match X.zero u with
    | some z => some (.pure (.tup [z, .bool false]))
    | none => none
  | false => none
def opAssert (X : Ctx) (x : AV) (u : TypeId) (ok : Bool) : Option OR := match X.und u, x with
  | some (.interface _), _ => none
  | some _, .iface t' v => match decide (t' = u) with
    | true => ansOk ok v true
    | false => zeroOk X u ok
  | some _, .nilIface => zeroOk X u ok
  | _, _ => none
def opDefer (f : AV) (args : List AV) : Option OR := match f with
  | .func (.func g) first captured => some (.dfr ⟨g, first ++ args ++ captured⟩)
  | _ => none
def opPanic (x : AV) : Option OR := match x with
  | .iface t v => some (.pan (.iface t v))
  | _ => none
def invGo (x : AV) (args : List AV) (ptr : Bool) : Option (FuncId × Bool) → Option OR
  | some (f, b) => match b == ptr with
    | true => some (.call f (x :: args))
    | false => none
  | none => none
def isPtrD : TypeDesc → Bool
  | .pointer _ => true
  | _ => false
def invAt (X : Ctx) (t : TypeId) (x : AV) (args : List AV) : Option Method → Option OR
  | some m => match m.path.toList, X.und t with
    | [], some d => invGo x args (isPtrD d) m.func
    | _, _ => none
  | none => none
def opInvoke (X : Ctx) (x : AV) (name : String) (args : List AV) : Option OR := match x with
  | .iface t v => match X.tys.get t with
    | some i => invAt X t v args (i.methods.toList.find? fun m => m.name == name)
    | none => none
  | _ => none
def opCall (X : Ctx) (c : Call) (fr : Fr) (s : St) : Option OR := match c.callee with
  | .value f => callAt (fr.opd f) (c.args.toList.map fr.opd)
  | .builtin b => builtinAt X b c.argTypes.toList (c.args.toList.map fr.opd) s
  | .invoke r name => opInvoke X (fr.opd r) name (c.args.toList.map fr.opd)
def opDef (c : Call) (fr : Fr) : Option OR := match c.callee with
  | .value f => opDefer (fr.opd f) (c.args.toList.map fr.opd)
  | _ => none

def loadAs (X : Ctx) (t : TypeId) (a : AV) (s : St) : Option OR := old1 (loadT X t a s)
def opAt (X : Ctx) (o : Oper) (fr : Fr) (s : St) : Option OR :=
  match o.op with
  | .move x => some (.old (fr.opd x))
  | .assign x => some (.old (fr.opd x))
  | .pick c a b => opPick (fr.opd c) (fr.opd a) (fr.opd b)
  | .alloc t => opAlloc X t s
  | .box _ x => opBox (fr.opd x) s
  | .build t ps => opBuild X t (parts fr ps)
  | .buildSlice t len ps => opBuildS X t len (parts fr ps) s
  | .load t a => loadAs X t (fr.opd a) s
  | .store t a x => opStore X t (fr.opd a) (fr.opd x) s
  | .nilCheck x => opNil (fr.opd x)
  | .binOp op t x y _ => pure1 (binTop X op t (cstOp x || cstOp y) (fr.opd x) (fr.opd y))
  | .unOp op _ x => pure1 (unAt op (fr.opd x))
  | .convert a b x => opConvert X a b (fr.opd x) s
  | .makeInterface t x => opMkIface X t (fr.opd x)
  | .makeFunc fn first cap => some (.pure (.func fn (first.toList.map fr.opd) (cap.toList.map fr.opd)))
  | .makeMap _ none => opMkMap s
  | .makeSlice t l c => opMkSlice X t (fr.opd l) (fr.opd c) s
  | .slice t x lo hi mx => pure1 (sliceAtt X s t (fr.opd x) (lo.map fr.opd) (hi.map fr.opd) (mx.map fr.opd))
  | .fieldAddr t x i => opFieldAddr X t (fr.opd x) i
  | .field t x i => opField X t (fr.opd x) i
  | .indexAddr t x i => opIndexAddr X t (fr.opd x) (fr.opd i)
  | .index t x i => opIndex X t (fr.opd x) (fr.opd i)
  | .lookup t x k ok => opLookup X t (fr.opd x) (fr.opd k) ok s
  | .mapUpdate t m k x => opMapSet X t (fr.opd m) (fr.opd k) (fr.opd x) s
  | .insert t m k x => opMapSet X t (fr.opd m) (fr.opd k) (fr.opd x) s
  | .extract t i => opExtract (fr.opd t) i
  | .typeAssert x _ u ok => opAssert X (fr.opd x) u ok
  | .call c => opCall X c fr s
  | .defer c => opDef c fr
  | .panic x => opPanic (fr.opd x)
  | _ => none

/-- What a call, a code come to. -/
inductive CR where
  | ret (v : AV) (s : St)
  | pan (v : AV) (s : St)
inductive EX where
  | norm
  | brk (id : Nat)
  | ret
  | pan (v : AV)

/-- What is called: a function; a round of a range over one. -/
inductive Tgt where
  | fn (f : FuncId)
  | rnd (b : Nat)
abbrev Caller := Tgt → List AV → St → Option CR

/-- Does a guard let an operation by? none: it cannot be told. -/
def saysAt (fr : Fr) (want : Bool) (d : Nat) : Option Bool := match fr.t.get d with
  | some (.bool b) => some (b == want)
  | some (.tup _) => some false
  | _ => none
def guardAt (ops : Array Oper) (fr : Fr) (j : Nat) (want : Bool) : Option Bool := match ops.toList[j]? with
  | some g => match g.dst with
    | some d => saysAt fr want d
    | none => none
  | none => none
def wantedAt (ops : Array Oper) (fr : Fr) (o : Oper) : Option Bool :=
  match o.guard with
  | none => some true
  | some (j, want) => guardAt ops fr j want

/-- One operation: its frame and state; or a panic. -/
inductive PR where
  | go (fr : Fr) (s : St)
  | pan (v : AV) (fr : Fr) (s : St)
def goOld (fr : Fr) (dst : Option Nat) (v : AV) (s : St) : Option PR := match dst with
  | none => some (.go fr s)
  | some t => fr.t.putK t v fun x => some (.go ⟨x, fr.d⟩ s)
def goOn (fr : Fr) (dst : Option Nat) (v : AV) (s : St) : Option PR := kS s fun s => kV v fun v => goOld fr dst v s
def goCall (fr : Fr) (dst : Option Nat) : Option CR → Option PR
  | some (.ret v s) => goOn fr dst v s
  | some (.pan v s) => some (.pan v fr s)
  | none => none
def goOp (call : Caller) (fr : Fr) (dst : Option Nat) (s : St) : Option OR → Option PR
  | none => none
  | some (.old v) => goOld fr dst v s
  | some (.pure v) => kV v fun v => goOld fr dst v s
  | some (.val v s') => goOn fr dst v s'
  | some (.dfr d) => goOld { fr with d := .fn d :: fr.d } dst (.tup []) s
  | some (.pan v) => some (.pan v fr s)
  | some (.call f args) => kL args fun args => goCall fr dst (call (.fn f) args s)
  | some (.round b args) => kL args fun args => goCall fr dst (call (.rnd b) args s)
/-- What a call that is passed by would lead to is a function that there is, or none. -/
def isFn (X : Ctx) (g : FuncId) : Bool := match X.fns.get g with
  | some _ => true
  | none => false
def leadsOK (X : Ctx) : AV → Bool
  | .func (.func g) _ _ => isFn X g
  | .tup [] => true
  | .nilFunc => true
  | .yld _ => true
  | _ => false
def rcvOK : AV → Bool
  | .tup [] => true
  | .nilIface => true
  | _ => false
def passC (X : Ctx) (fr : Fr) : Callee → Bool
  | .builtin _ => true
  | .value x => leadsOK X (fr.opd x)
  | .invoke x _ => rcvOK (fr.opd x)
def passOK (X : Ctx) (o : Oper) (fr : Fr) : Bool := match o.op with
  | .call c => passC X fr c.callee
  | _ => true
def goPass (X : Ctx) (o : Oper) (fr : Fr) (s : St) : Option PR := match passOK X o fr with
  | true => goOld fr o.dst (.tup []) s
  | false => none
def goIf (X : Ctx) (call : Caller) (o : Oper) (fr : Fr) (s : St) : Option Bool → Option PR
  | none => none
  | some false => goPass X o fr s
  | some true => goOp call fr o.dst s (opAt X o fr s)
def oneOp (X : Ctx) (call : Caller) (ops : Array Oper) (o : Oper) (fr : Fr) (s : St) : Option PR := goIf X call o fr s (wantedAt ops fr o)

def goNext (k : Fr → St → Option (EX × Fr × St)) : Option PR → Option (EX × Fr × St)
  | some (.go fr s) => k fr s
  | some (.pan v fr s) => some (.pan v, fr, s)
  | none => none
def inOrder (X : Ctx) (call : Caller) (ops : Array Oper) : List Oper → Fr → St → Option (EX × Fr × St)
  | [], fr, s => some (.norm, fr, s)
  | o :: rest, fr, s => goNext (inOrder X call ops rest) (oneOp X call ops o fr s)

def bit (m i : Nat) : Bool := Nat.beq (Nat.mod (Nat.shiftRight m i) 2) 1
def readyAt (done : Nat) (o : Oper) : Bool := o.after.toList.all fun e => !onB e || bit done e.on

/-- One that was taken, and may come up later yet: what it came to, or the block that it laid. -/
structure Pend where
  i : Nat
  o : Oper
  v : AV
  laid : Option (Nat × AB)

def sameO : Option AV → Option AV → Bool
  | none, none => true
  | some x, some y => x.same y
  | _, _ => false
def sameT : Tr AV → Tr AV → Bool := Tr.sameBy sameO
def sameAB : AB → AB → Bool
  | .cells a n, .cells b m => Nat.beq n m && sameT a b
  | .map [], .map [] => true
  | _, _ => false

/-- Does it stand as it stood? -/
def standsBlock (s : St) (b : Nat) (x : AB) : Bool := match s.h.get b with
  | some y => sameAB x y
  | none => false
def standsOp (v : AV) : Option OR → Bool
  | some (.old u) => u.same v
  | some (.pure u) => u.same v
  | _ => false
def stands (X : Ctx) (ops : Array Oper) (fr : Fr) (s : St) (p : Pend) : Bool :=
  match p.laid with
  | some (b, x) => standsBlock s b x
  | none => match wantedAt ops fr p.o with
    | some true => standsOp p.v (opAt X p.o fr s)
    | some false => match p.v with
      | .tup [] => true
      | _ => false
    | none => false

/-- One that does not act, taken: its slot, its state; and what is to stand. -/
def take1 (i : Nat) (o : Oper) (fr : Fr) (s : St) : Option OR → Option (Pend × Fr × St)
  | some (.old v) => kT (fr.put o.dst v).t fun x => some (⟨i, o, v, none⟩, ⟨x, fr.d⟩, s)
  | some (.pure v) => kV v fun v => kT (fr.put o.dst v).t fun x => some (⟨i, o, v, none⟩, ⟨x, fr.d⟩, s)
  | some (.val v s') => match Nat.ble s.nx 1000000000, s.h.get s.nx with
    | true, none => kS s' fun s' => kV v fun v => match s'.h.get s.nx with
      | some b => kT (fr.put o.dst v).t fun x => some (⟨i, o, v, some (s.nx, b)⟩, ⟨x, fr.d⟩, s')
      | none => none
    | _, _ => none
  | _ => none
def takeIf (X : Ctx) (i : Nat) (o : Oper) (fr : Fr) (s : St) : Option Bool → Option (Pend × Fr × St)
  | none => none
  | some false => kT (fr.put o.dst (.tup [])).t fun x => some (⟨i, o, .tup [], none⟩, ⟨x, fr.d⟩, s)
  | some true => take1 i o fr s (opAt X o fr s)
/-- All that do not act and are ready, in order. -/
def takeGo (k : Nat → List Pend → Fr → St → Option (EX × Fr × St)) (done i : Nat) (pend : List Pend) : Option (Pend × Fr × St) → Option (EX × Fr × St)
  | some (p, fr, s) => kN (Nat.lor done (Nat.pow 2 i)) fun done => k done (p :: pend) fr s
  | none => none
def mayTake (done i : Nat) (o : Oper) : Bool := !bit done i && !acts o && readyAt done o
def takeAll (X : Ctx) (ops : Array Oper) (k : Nat → List Pend → Fr → St → Option (EX × Fr × St)) : List (Nat × Oper) → Nat → List Pend → Fr → St → Option (EX × Fr × St)
  | [], done, pend, fr, s => k done pend fr s
  | io :: rest, done, pend, fr, s => match mayTake done io.1 io.2 with
    | false => takeAll X ops k rest done pend fr s
    | true => takeGo (takeAll X ops k rest) done io.1 pend (takeIf X io.1 io.2 fr s (wantedAt ops fr io.2))

def readyList (ops : List (Nat × Oper)) (done : Nat) : List (Nat × Oper) := ops.filter fun io => !bit done io.1 && readyAt done io.2

/-- Behind one that acts: what may come up later yet stands as it stood? -/
def actGo (X : Ctx) (ops : Array Oper) (k : Nat → List Pend → Fr → St → Option (EX × Fr × St)) (done i : Nat) (o : Oper) (pend : List Pend) : Option PR → Option (EX × Fr × St)
  | some (.go fr s) => match (pend.filter fun p => !waitsFor o p.i).all (stands X ops fr s) with
    | true => kN (Nat.lor done (Nat.pow 2 i)) fun done => k done (pend.filter fun p => !waitsFor o p.i) fr s
    | false => none
  | some (.pan v fr s) => some (.pan v, ⟨.e, fr.d⟩, s)
  | none => none
def actIf (X : Ctx) (call : Caller) (ops : Array Oper) (k : Nat → List Pend → Fr → St → Option (EX × Fr × St)) (done : Nat) (pend : List Pend) (fr : Fr) (s : St) : List (Nat × Oper) → Option (EX × Fr × St)
  | [] => some (.norm, fr, s)
  | [io] => match acts io.2 with
    | false => none
    | true => actGo X ops k done io.1 io.2 pend (oneOp X call ops io.2 fr s)
  | _ => none
def drawGo (X : Ctx) (call : Caller) (ops : Array Oper) (l : List (Nat × Oper)) : Nat → Nat → List Pend → Fr → St → Option (EX × Fr × St)
  | 0 => fun _ _ _ _ => none
  | f + 1 => takeAll X ops (fun done pend fr s => actIf X call ops (drawGo X call ops l f) done pend fr s (readyList l done)) l

end
end Go.Am
