/-
  A part of the texts.
-/
import Derived.Test.YtofohkdkpbigiaaQaa
section
namespace Go.Am
noncomputable section
def kN {β:Type}(m:Nat)(k:Nat→β):β:=match m with
 |0=>k 0
 |n+1=>k (Nat.succ n)
def Tr.kg {α:Type}:List α→Nat→Tr α→Tr α
 |[],_,t=>t
 |x::xs,i,t=>t.nz i x fun t=>kN i fun i=>kg xs (i+1) t
def Tr.of {α:Type}(l:List α):Tr α:=Tr.kg l 0 .e
structure Str where
 len:Nat
 val:Nat
def gi (l:List UInt8):Nat:=l.foldl (fun a b=>a*256+b.toNat) 0
def Str.of (b:ByteArray):Str:=⟨b.data.toList.length,gi b.data.toList⟩
def Str.cat (a b:Str):Str:=⟨a.len+b.len,a.val*256^b.len+b.val⟩
def Str.at (s:Str)(i:Nat):Nat:=s.val/256^ (s.len- 1- i) % 256
def Str.sub (s:Str)(l h:Nat):Str:=⟨h- l,s.val/256^ (s.len- h) % 256^ (h- l)⟩
def Str.beq (a b:Str):Bool:=Nat.beq a.len b.len&&Nat.beq a.val b.val
def Str.lt (a b:Str):Bool:=
 let m:=min a.len b.len
 let x:=a.val/256^ (a.len- m)
 let y:=b.val/256^ (b.len- m)
 Nat.blt x y|| (Nat.beq x y&&Nat.blt a.len b.len)
inductive AV where
 |top
 |bool (b:Bool)
 |int (k:IntKind) (n:Int)
 |flt (k:FloatKind) (bits:Nat)
 |str (s:Str)
 |ptr (a:Option (Nat×Nat))
 |slc (a:Option (Nat×Nat×Nat)) (len cap:Nat) (exact:Bool)
 |map (r:Option Nat)
 |func (fn:Fn) (first captured:List AV)
 |nilFunc
 |iface (t:TypeId) (v:AV)
 |nilIface
 |agg (cs:List AV)
 |tup (vs:List AV)
 |any
 |yld (b:Nat)
 |gp (g off:Nat)
 |cls (k:IntKind) (b m r:Nat)
 |ne (k:IntKind) (n:Int)
instance:Inhabited AV:=⟨.top⟩
def pe:Value→AV
 | .bool b=> .bool b
 | .int k n=> .int k n
 | .float k b=> .flt k b
 | .string s=> .str (Str.of s)
 | .pointer none=> .ptr none
 | .slice none 0 0=> .slc none 0 0 true
 | .map none=> .map none
 | .nilFunc=> .nilFunc
 | .nilIface=> .nilIface
 | _=> .top
def ofV:Value→AV
 | .agg cs=> .agg (cs.toList.map pe)
 | .tuple ⟨[]⟩=> .tup []
 |v=>pe v
def AV.cells:AV→List AV
 | .agg cs=>cs
 |v=>[v]
def AV.one:AV→Bool
 | .top| .agg _| .tup _=>false
 | _=>true
def aX:List AV→Bool
 |[]=>true
 |v::vs=>v.one&&aX vs
mutual
def AV.same:AV→AV→Bool
 | .bool a, .bool b=>a==b
 | .int j a, .int k b=>decide (j=k)&&decide (a=b)
 | .flt j a, .flt k b=>decide (j=k)&&Nat.beq a b
 | .str a, .str b=>a.beq b
 | .ptr a, .ptr b=>decide (a=b)
 | .slc a n c x, .slc b m d y=>decide (a=b)&&Nat.beq n m&&Nat.beq c d&& (x==y)
 | .map a, .map b=>decide (a=b)
 | .func f a b, .func g c d=>decide (f=g)&&jf a c&&jf b d
 | .nilFunc, .nilFunc=>true
 | .nilIface, .nilIface=>true
 | .any, .any=>true
 | .yld a, .yld b=>Nat.beq a b
 | .gp a o, .gp b p=>Nat.beq a b&&Nat.beq o p
 | .cls j a m r, .cls k b n s=>decide (j=k)&& (Nat.beq a b&& (Nat.beq m n&&Nat.beq r s))
 | .ne j a, .ne k b=>decide (j=k)&&decide (a=b)
 | .iface t v, .iface u w=>decide (t=u)&&v.same w
 | .agg a, .agg b=>jf a b
 | .tup a, .tup b=>jf a b
 | _,_=>false
def jf:List AV→List AV→Bool
 |[],[]=>true
 |a::QQ,b::bs=>a.same b&&jf QQ bs
 | _,_=>false
end
inductive LSt where
 |ready
 |busy
 |done (jump:Code)
inductive AB where
 |cells (c:Tr AV) (n:Nat)
 |map (es:List (AV×AV))
 |loop (t:Tr AV) (ps:List Nat) (assign body:Code) (st:LSt)
 |dfr
structure St where
 h:Tr AB
 nx:Nat
 gl:Tr (Tr AV)
 sh:List Nat
def St.new (s:St)(b:AB):Nat×St:=(s.nx,{s with h:=s.h.put s.nx b,nx:=s.nx+1})
def St.jU (s:St)(c:Tr AV)(n:Nat):Nat×St:=kT c fun c=>kN n fun n=>s.new (.cells c n)
def St.q7 (s:St)(b:Nat)(c:Tr AV)(n:Nat):St:=kT c fun c=>{s with h:=s.h.put b (.cells c n)}
def St.cells (s:St)(b:Nat):Option (Tr AV×Nat):=
 match s.h.get b with
 |some (.cells c n)=>some (c,n)
 | _=>none
section
variable {β:Type}
def kI (i:Int)(k:Int→β):β:=match i with
 | .ofNat m=>kN m fun m=>k (.ofNat m)
 | .negSucc m=>kN m fun m=>k (.negSucc m)
def kB (b:Bool)(k:Bool→β):β:=match b with
 |true=>k true
 |false=>k false
def kA (a:Option (Nat×Nat))(k:Option (Nat×Nat)→β):β:=match a with
 |none=>k none
 |some (b,o)=>kN b fun b=>kN o fun o=>k (some (b,o))
def kA3 (a:Option (Nat×Nat×Nat))(k:Option (Nat×Nat×Nat)→β):β:=match a with
 |none=>k none
 |some (b,o,e)=>kN b fun b=>kN o fun o=>kN e fun e=>k (some (b,o,e))
def kV0 (v:AV)(k:AV→β):β:=match v with
 | .bool b=>kB b fun b=>k (.bool b)
 | .int d n=>kI n fun n=>k (.int d n)
 | .flt d n=>kN n fun n=>k (.flt d n)
 | .str ⟨n,x⟩=>kN n fun n=>kN x fun x=>k (.str ⟨n,x⟩)
 | .ptr a=>kA a fun a=>k (.ptr a)
 | .slc a n c x=>kA3 a fun a=>kN n fun n=>kN c fun c=>kB x fun x=>k (.slc a n c x)
 | .map none=>k (.map none)
 | .map (some r)=>kN r fun r=>k (.map (some r))
 | .yld r=>kN r fun r=>k (.yld r)
 | .gp g o=>kN g fun g=>kN o fun o=>k (.gp g o)
 |v=>k v
def kL:List AV→(List AV→β)→β
 |[],k=>k []
 |v::vs,k=>kV0 v fun v=>kL vs fun vs=>k (v::vs)
def kV (v:AV)(k:AV→β):β:=match v with
 | .agg cs=>kL cs fun cs=>k (.agg cs)
 | .tup vs=>kL vs fun vs=>k (.tup vs)
 | .func f a b=>kL a fun a=>kL b fun b=>k (.func f a b)
 | .iface t v=>kV0 v fun v=>k (.iface t v)
 |v=>kV0 v k
def kS (s:St)(k:St→β):β:=match s with
 |⟨h,nx,gl,sh⟩=>kT h fun h=>kN nx fun nx=>k ⟨h,nx,gl,sh⟩
def kP:List (AV×AV)→(List (AV×AV)→β)→β
 |[],k=>k []
 |(a,v)::es,k=>kV a fun a=>kV v fun v=>kP es fun es=>k ((a,v)::es)
end
def St.xI (s:St)(b:Nat)(es:List (AV×AV)):St:=kP es fun es=>{s with h:=s.h.put b (.map es)}
def ldL (c:Tr AV):Nat→Nat→Option (List AV)
 | _,0=>some []
 |i,n+1=>match c.get i with
  |some v=>match ldL c (i+1) n with
   |some l=>some (v::l)
   |none=>none
  |none=>none
def stL:List AV→Nat→Tr AV→Option (Tr AV)
 |[],_,c=>some c
 |v::vs,i,c=>match c.get i with
  |some _=>kV0 v fun v=>kT (c.put i v) fun c=>stL vs (i+1) c
  |none=>none
structure Ctx where
 fns:Tr Func
 tys:Tr TypeInfo
 eqs:List TypeId
def Ctx.of (P:Program)(eqs:List TypeId):Ctx:={fns:=Tr.of P.funcs.toList,tys:=Tr.of P.types.toList,eqs}
def dx (n:Nat):List Nat→Bool
 |[]=>false
 |m::l=>match Nat.beq n m with
  |true=>true
  |false=>dx n l
def Ctx.und (X:Ctx)(t:TypeId):Option TypeDesc:=
 match X.tys.get t with
 |some i=>match i.desc with
  | .named _ u=>match X.tys.get u with
   |some j=>some j.desc
   |none=>none
  |d=>some d
 |none=>none
def Ctx.size (X:Ctx)(t:TypeId):Option Nat:=
 match X.tys.get t with
 |some i=>some i.size
 |none=>none
def Ctx.elem (X:Ctx)(t:TypeId):Option Nat:=
 match X.tys.get t with
 |some i=>match i.zero with
  |some z=>match Nat.ble i.bytes 1048576&&Nat.ble 1 i.size&&Nat.beq z.cells.size i.size&&Nat.ble i.size 1048576 with
   |true=>some i.size
   |false=>none
  |none=>none
 |none=>none
def m9:TypeDesc→Bool
 | .struct _| .array _ _=>true
 | _=>false
def Ctx.zero (X:Ctx)(t:TypeId):Option AV:=
 match X.tys.get t with
 |some i=>match i.zero with
  |some z=>some (ofV z)
  |none=>none
 |none=>none
structure qT where
 fn:FuncId
 args:List AV
inductive DE where
 |fn (d:qT)
 |mark (b:Nat)
structure Fr where
 t:Tr AV
 d:List DE
def Fr.opd (fr:Fr):Operand→AV
 | .tmp t=>match fr.t.get t with
  |some v=>v
  |none=> .top
 | .const v=>ofV v
 | .global g=> .gp g 0
 | .func f=> .func (.func f) [] []
def Fr.put (fr:Fr)(d:Option Nat)(v:AV):Fr:=
 match d with
 |some t=>{fr with t:=fr.t.put t v}
 |none=>fr
inductive OR where
 |old (v:AV)
 |pure (v:AV)
 |val (v:AV) (s:St)
 |call (f:FuncId) (args:List AV)
 |round (b:Nat) (args:List AV)
 |dfr (d:qT)
 |pan (v:AV)
def fits (k:IntKind)(n:Int):Bool:=
 match n with
 | .ofNat m=>match k with
  | .i8=>Nat.blt m 128| .i16=>Nat.blt m 32768| .i32=>Nat.blt m 2147483648| .i64=>Nat.blt m 9223372036854775808
  | .u8=>Nat.blt m 256| .u16=>Nat.blt m 65536| .u32=>Nat.blt m 4294967296| .u64=>Nat.blt m 18446744073709551616
 | .negSucc m=>match k with
  | .i8=>Nat.blt m 128| .i16=>Nat.blt m 32768| .i32=>Nat.blt m 2147483648| .i64=>Nat.blt m 9223372036854775808
  | _=>false
def wr (k:IntKind)(n:Int):Int:=match fits k n with
 |true=>n
 |false=>k.wrap n
def bitsOf (op:BinOp)(k:IntKind)(x y:Int):Option Int:=
 let a:=(x % (2^k.bits:Int)).toNat
 let b:=(y % (2^k.bits:Int)).toNat
 match op with
 | .and=>some (wr k (Nat.land a b))
 | .or=>some (wr k (Nat.lor a b))
 | .xor=>some (wr k (Nat.xor a b))
 | .andNot=>some (wr k (Nat.land a (2^k.bits- 1- b)))
 | _=>none
def kM (op:BinOp)(k:IntKind)(x y:Int):Option AV:=
 match op with
 | .add=>some (.int k (wr k (x+y)))
 | .sub=>some (.int k (wr k (x- y)))
 | .mul=>some (.int k (wr k (x*y)))
 | .quo=>if y=0 then none else some (.int k (wr k (x.tdiv y)))
 | .rem=>if y=0 then none else some (.int k (x.tmod y))
 | .eql=>some (.bool (decide (x=y)))
 | .neq=>some (.bool (!decide (x=y)))
 | .lss=>some (.bool (decide (x<y)))
 | .leq=>some (.bool (decide (x≤y)))
 | .gtr=>some (.bool (decide (y<x)))
 | .geq=>some (.bool (decide (y≤x)))
 |op=>match bitsOf op k x y with
  |some r=>some (.int k r)
  |none=>none
def oM (op:BinOp)(k:IntKind)(x y:Int):Option AV:=
 if y<0 then none else
  let n:=min y.toNat k.bits
  match op with
  | .shl=>some (.int k (wr k (x*2^n)))
  | .shr=>some (.int k (x.fdiv (2^n)))
  | _=>none
def Bj (op:BinOp)(x y:Str):Option AV:=
 match op with
 | .add=>if Nat.ble (x.len+y.len) 9223372036854775807 then some (.str (x.cat y)) else none
 | .eql=>some (.bool (x.beq y))
 | .neq=>some (.bool (!x.beq y))
 | .lss=>some (.bool (x.lt y))
 | .leq=>some (.bool (x.lt y||x.beq y))
 | .gtr=>some (.bool (!(x.lt y||x.beq y)))
 | .geq=>some (.bool (!x.lt y))
 | _=>none
def partAt (X:Ctx)(t:TypeId)(cs:List AV)(off:Nat):Option AV:=
 match X.und t,X.size t with
 |some d,some n=>match m9 d with
  |true=>match Nat.ble (off+n) cs.length with
   |true=>some (.agg ((cs.drop off).take n))
   |false=>none
  |false=>cs[off]?
 | _,_=>none
def eqFields (X:Ctx)(eq:TypeId→AV→AV→Option Bool)(xs ys:List AV):List Field→Option Bool
 |[]=>some true
 |fd::fds=>
  if fd.name= "_" then none else
  match partAt X fd.type xs fd.offset,partAt X fd.type ys fd.offset with
  |some a,some b=>match eq fd.type a b with
   |some true=>eqFields X eq xs ys fds
   |r=>r
  | _,_=>none
def je (X:Ctx):Nat→TypeId→AV→AV→Option Bool
 |0,_,_,_=>none
 |f+1,t,x,y=>
  match X.und t,x,y with
  |some .bool, .bool a, .bool b=>some (a==b)
  |some (.int _), .int j a, .int k b=>if j=k then some (decide (a=b)) else none
  |some .string, .str a, .str b=>some (a.beq b)
  |some (.pointer _), .ptr none, .ptr b=>some b.isNone
  |some (.pointer _), .ptr (some _), .ptr none=>some false
  |some (.slice _), .slc none _ _ _, .slc b _ _ _=>some b.isNone
  |some (.slice _), .slc (some _) _ _ _, .slc none _ _ _=>some false
  |some (.map _ _), .map none, .map b=>some b.isNone
  |some (.map _ _), .map (some _), .map none=>some false
  |some (.interface ms), .nilIface, .nilIface=>match ms.toList with
   |[]=>some true
   | _=>none
  |some (.interface _), .nilIface, .iface _ _=>some false
  |some (.interface _), .iface _ _, .nilIface=>some false
  |some (.struct fs), .agg xs, .agg ys=>match dx t X.eqs with
   |true=>eqFields X (je X f) xs ys fs.toList
   |false=>none
  |some (.func _ _ _), .nilFunc, .nilFunc=>some true
  |some (.func _ _ _), .nilFunc, .func _ _ _=>some false
  |some (.func _ _ _), .func _ _ _, .nilFunc=>some false
  | _,_,_=>none
def vJ (k:FloatKind):Option Nat→Option AV
 |some r=>some (.flt k r)
 |none=>none
def BY (op:BinOp)(k:FloatKind)(x y:Nat):Option AV:=match op with
 | .eql=>some (.bool (k.format.order x y==some .eq))
 | .neq=>some (.bool (k.format.order x y != some .eq))
 | .lss=>some (.bool (k.format.order x y==some .lt))
 | .leq=>some (.bool (k.format.order x y==some .lt||k.format.order x y==some .eq))
 | .gtr=>some (.bool (k.format.order x y==some .gt))
 | .geq=>some (.bool (k.format.order x y==some .gt||k.format.order x y==some .eq))
 | .add=>vJ k (k.format.add x y)
 | .sub=>vJ k (k.format.sub x y)
 | .mul=>vJ k (k.format.mul x y)
 | .quo=>vJ k (k.format.div x y)
 | _=>none
def gh (X:Ctx)(op:BinOp)(t:TypeId)(x y:AV):Option AV:=
 match x,y with
 | .flt k a, .flt j b=>if k=j then BY op k a b else none
 | .int k a, .int j b=>match op with
  | .shl| .shr=>oM op k a b
  |op=>if k=j then kM op k a b else none
 | .str a, .str b=>Bj op a b
 |x,y=>match op with
  | .eql=>match je X 20 t x y with
   |some b=>some (.bool b)
   |none=>none
  | .neq=>match je X 20 t x y with
   |some b=>some (.bool (!b))
   |none=>none
  | _=>none
def qu:Operand→Bool
 | .const _=>true
 | _=>false
def yV (X:Ctx)(op:BinOp)(t:TypeId):Option AV:=match X.und t with
 |some (.interface _)=>match op with
  | .eql=>some (.bool true)
  | .neq=>some (.bool false)
  | _=>none
 | _=>none
def GN (op:BinOp)(k:IntKind)(m r d:Nat)(j:IntKind):Option AV:=match op with
 | .rem=>match decide (k=j)&& (Nat.blt 0 d&&Nat.beq (m % d) 0) with
  |true=>some (.int k (r % d:Nat))
  |false=>none
 | _=>none
def yG (op:BinOp)(k j:IntKind)(n m:Int):Option AV:=match decide (k=j)&&decide (n=m) with
 |true=>match op with
  | .eql=>some (.bool false)
  | .neq=>some (.bool true)
  | _=>none
 |false=>none
def aW (X:Ctx)(op:BinOp)(t:TypeId)(c:Bool)(x y:AV):Option AV:=match x,y with
 | .nilIface, .nilIface=>match c with
  |true=>yV X op t
  |false=>gh X op t .nilIface .nilIface
 | .cls k _ m r, .int j (.ofNat d)=>GN op k m r d j
 | .ne k n, .int j m=>yG op k j n m
 | .int j m, .ne k n=>yG op k j n m
 |x,y=>gh X op t x y
def F2 (op:UnOp)(x:AV):Option AV:=
 match op,x with
 | .not, .bool b=>some (.bool (!b))
 | .neg, .int k n=>some (.int k (wr k (0- n)))
 | .xor, .int k n=>match bitsOf .xor k (if k.signed then-1 else k.max) n with
  |some r=>some (.int k r)
  |none=>none
 | _,_=>none
def dB:List AV→Nat→List AV→List AV
 |cs,_,[]=>cs
 |cs,off,v::vs=>dB (cs.set off v) (off+1) vs
def dc (place:Nat→Option (Nat×Nat)):List (Nat×AV)→List AV→Option (List AV)
 |[],cells=>some cells
 |(i,v)::rest,cells=>match place i with
  |some (off,size)=>match v with
   | .top=>none
   |v=>if Nat.beq v.cells.length size&&Nat.ble (off+size) cells.length then dc place rest (dB cells off v.cells) else none
  |none=>none
def lR (z:List AV):Nat→List AV
 |0=>[]
 |n+1=>z++lR z n
def bytesOf:List AV→Option Str
 |l=>go l ⟨0,0⟩
where
 go:List AV→Str→Option Str
  |[],s=>some s
  | .int .u8 n::l,s=>if 0≤n∧n<256 then go l ⟨s.len+1,s.val*256+n.toNat⟩ else none
  | _,_=>none
def fX (s:Str):Nat→List AV
 |0=>[]
 |n+1=> .int .u8 (s.at (s.len- (n+1)))::fX s n
def kR (v:AV)(y:Nat):Option Nat:=
 match v with
 | .int _ (.ofNat i)=>if Nat.ble i y then some i else none
 | _=>none
def fx (a b:AV):Option Bool:=
 match a,b with
 | .int j x, .int k y=>if j=k then some (decide (x=y)) else none
 | .str x, .str y=>some (x.beq y)
 | .bool x, .bool y=>some (x==y)
 | _,_=>none
def nA (k:AV):List (AV×AV)→Option (Option AV)
 |[]=>some none
 |(a,v)::es=>match fx k a with
  |some true=>some (some v)
  |some false=>nA k es
  |none=>none
def nz (k x:AV):List (AV×AV)→Option (List (AV×AV))
 |[]=>some [(k,x)]
 |(a,v)::es=>match fx k a with
  |some true=>some ((a,x)::es)
  |some false=>match nz k x es with
   |some l=>some ((a,v)::l)
   |none=>none
  |none=>none
def IP (k:AV):List (AV×AV)→Option (List (AV×AV))
 |[]=>some []
 |(a,v)::es=>match fx k a with
  |some true=>some es
  |some false=>match IP k es with
   |some l=>some ((a,v)::l)
   |none=>none
  |none=>none
def plainKey:TypeDesc→AV→Bool
 | .int _, .int _ _=>true
 | .string, .str _=>true
 | .bool, .bool _=>true
 | _,_=>false
def oU (X:Ctx)(t:TypeId)(x:AV)(s:St):Option AV:=
 match X.und t,x with
 |some .string, .str a=>some (.int .i64 a.len)
 |some (.array n _),_=>some (.int .i64 n)
 |some (.slice _), .slc _ n _ _=>some (.int .i64 n)
 |some (.map _ _), .map none=>some (.int .i64 0)
 |some (.map _ _), .map (some r)=>match s.h.get r with
  |some (.map es)=>some (.int .i64 es.length)
  | _=>none
 | _,_=>none
def aZ (s:St)(size:Nat):AV→Option (Nat×List AV)
 | .slc none n _ _=>if Nat.beq n 0 then some (0,[]) else none
 | .slc (some (b,off,_)) n _ _=>match Nat.beq n 0 with
  |true=>some (0,[])
  |false=>match s.cells b with
   |some (c,_)=>match ldL c off (n*size) with
    |some l=>some (n,l)
    |none=>none
   |none=>none
 | .str a=>match Nat.beq size 1 with
  |true=>some (a.len,fX a a.len)
  |false=>none
 | _=>none
def uW (base:Option (Nat×Nat×Nat))(len n cap size:Nat)(exact:Bool)(new:List AV)(s:St):Option OR:=match base with
 |some (b,off,es)=>match s.cells b with
  |some (c,m)=>match stL new (off+len*size) c with
   |some c'=>some (.val (.slc (some (b,off,es)) (len+n) cap exact) (s.q7 b c' m))
   |none=>none
  |none=>none
 |none=>none
def ka (off len size m:Nat)(c:Tr AV)(new:List AV):Option (Tr AV):=match Nat.beq off 0&&Nat.beq m (len*size) with
 |true=>match ldL c 0 (len*size) with
  |some _=>some (Tr.kg new (len*size) c)
  |none=>none
 |false=>match ldL c off (len*size) with
  |some old=>some (Tr.of (old++new))
  |none=>none
def iM:Nat:=1099511627776
def cD (m:Nat):Nat:=match Nat.blt m iM with
 |true=>0
 |false=>iM
def qC (b m:Nat)(len n size:Nat)(exact:Bool)(s:St):Option (Tr AV)→Option OR
 |some c'=>
  let r:=St.jU (match exact with|true=>s|false=>{s with h:=s.h.del b,sh:=s.nx::s.sh}) c' ((len+n)*size+cD m)
  some (.val (.slc (some (r.1,0,size)) (len+n) (len+n) false) r.2)
 |none=>none
def kW (base:Option (Nat×Nat×Nat))(len n size:Nat)(exact:Bool)(new:List AV)(s:St):Option OR:=match base with
 |none=>
  let r:=s.jU (Tr.of new) new.length
  some (.val (.slc (some (r.1,0,size)) n n false) r.2)
 |some (b,off,es)=>match Nat.beq es size,s.cells b with
  |true,some (c,m)=>qC b m len n size exact s (ka off len size m c new)
  | _,_=>none
def rS (base:Option (Nat×Nat×Nat))(len cap size n:Nat)(exact:Bool)(new:List AV)(s:St):Option OR:=
 match Nat.beq n 0 with
 |true=>some (.old (.slc base len cap exact))
 |false=>match aX new with
  |false=>none
  |true=>match Nat.ble (len+n) cap with
   |true=>uW base len n cap size exact new s
   |false=>match Nat.ble (len+n) 1000000 with
    |true=>kW base len n size exact new s
    |false=>none
def cN (X:Ctx)(st:TypeId)(x y:AV)(s:St):Option OR:=
 match X.und st with
 |some (.slice elem)=>match X.elem elem,x with
  |some size, .slc base len cap exact=>match aZ s size y with
   |some (n,new)=>rS base len cap size n exact new s
   |none=>none
  | _,_=>none
 | _=>none
def lenOf:AV→Option Nat
 | .slc _ n _ _=>some n
 | .str a=>some a.len
 | _=>none
def cutAt (n:Nat):AV→AV
 | .slc a _ _ _=> .slc a n n false
 | .str a=> .str (a.sub 0 n)
 |v=>v
def wR (base:Option (Nat×Nat×Nat))(n:Nat)(s:St):Option (Nat×List AV)→Option OR
 |some (_,new)=>match base with
  |none=>some (.pure (.int .i64 n))
  |some (b,off,_)=>match Nat.beq n 0,aX new,s.cells b with
   |true,_,_=>some (.pure (.int .i64 n))
   |false,true,some (c,k)=>match stL new off c with
    |some c'=>some (.val (.int .i64 n) (s.q7 b c' k))
    |none=>none
   | _,_,_=>none
 |none=>none
def CG (s:St)(size:Nat)(base:Option (Nat×Nat×Nat))(len:Nat)(y:AV):Option Nat→Option OR
 |some m=>wR base (min m len) s (aZ s size (cutAt (min m len) y))
 |none=>none
def jG (X:Ctx)(dt:TypeId)(x y:AV)(s:St):Option OR:=
 match X.und dt with
 |some (.slice elem)=>match X.size elem,x with
  |some size, .slc base len _ _=>CG s size base len y (lenOf y)
  | _,_=>none
 | _=>none
def EW:List AV→Option AV
 |[]=>none
 | .int k x::rest=>go k x rest
 | _=>none
where
 go (k:IntKind) (x:Int):List AV→Option AV
  |[]=>some (.int k x)
  | .int _ y::l=>go k (if x<y then y else x) l
  | _=>none
def E6:List AV→Option AV
 |[]=>none
 | .int k x::rest=>go k x rest
 | _=>none
where
 go (k:IntKind) (x:Int):List AV→Option AV
  |[]=>some (.int k x)
  | .int _ y::l=>go k (if y<x then y else x) l
  | _=>none
def tf:Option AV→Option OR
 |some v=>some (.old v)
 |none=>none
def jA:Option AV→Option OR
 |some v=>some (.pure v)
 |none=>none
def AE (X:Ctx)(t:TypeId)(x:AV):Option AV:=match x with
 | .slc _ _ c true=>match X.und t with
  |some (.slice _)=>some (.int .i64 c)
  | _=>none
 | _=>none
def rM (X:Ctx)(t:TypeId):AV→AV→St→Option OR
 | .slc (some b) len cap true, .int .i64 (.ofNat k),s=>match X.und t with
  |some (.slice e)=>match X.elem e,X.zero e with
   |some size,some z=>match Nat.blt cap (len+k)&& (Nat.ble (len+k) 1000000&& (aX z.cells&&Nat.beq z.cells.length size)) with
    |true=>kW (some b) len k size true (lR z.cells k) s
    |false=>none
   | _,_=>none
  | _=>none
 | _,_,_=>none
def j8 (X:Ctx)(t u:TypeId)(x y:AV)(s:St):Option OR:=match X.und u with
 |some (.slice _)=>cN X t x y s
 |some .string=>cN X t x y s
 |some (.int _)=>rM X t x y s
 | _=>none
def I8 (X:Ctx)(t:TypeId)(m k:AV)(s:St):Option OR:=match m,X.und t with
 | .map (some r),some (.map kt _)=>match X.und kt,s.h.get r with
  |some d,some (.map es)=>match plainKey d k,IP k es with
   |true,some es'=>some (.val (.tup []) (s.xI r es'))
   | _,_=>none
  | _,_=>none
 | _,_=>none
def uf (f:AV→Option OR):List AV→Option OR
 |[x]=>f x
 | _=>none
def ya (f:AV→AV→Option OR):List AV→Option OR
 |[x,y]=>f x y
 | _=>none
def dX (X:Ctx)(b:Builtin)(ts:List TypeId)(args:List AV)(s:St):Option OR:=
 match b with
 | .len=>match ts with
  |[t]=>uf (fun x=>jA (oU X t x s)) args
  | _=>none
 | .cap=>match ts with
  |[t]=>uf (fun x=>jA (AE X t x)) args
  | _=>none
 | .append=>match ts with
  |t::u::_=>ya (fun x y=>j8 X t u x y s) args
  | _=>none
 | .copy=>match ts with
  |t::_=>ya (fun x y=>jG X t x y s) args
  | _=>none
 | .max=>jA (EW args)
 | .min=>jA (E6 args)
 | .delete=>match ts with
  |t::_=>ya (fun x y=>I8 X t x y s) args
  | _=>none
 | _=>none
def ti (f:AV)(args:List AV):Option OR:=
 match f with
 | .func (.func g) first captured=>some (.call g (first++args++captured))
 | .yld b=>some (.round b args)
 | _=>none
def uh (lo:Option AV)(h:Nat):Option Nat:=match lo with
 |some v=>kR v h
 |none=>some 0
def ob (hi mx:Option AV)(m len:Nat):Option Nat:=match hi with
 |some v=>kR v m
 |none=>match mx with
  |some _=>none
  |none=>some len
def tZ (mx:Option AV)(cap:Nat):Option Nat:=match mx with
 |some v=>kR v cap
 |none=>some cap
def oQ (lo hi mx:Option AV)(len cap:Nat):Option (Nat×Nat×Nat):=match tZ mx cap with
 |some m=>match ob hi mx m len with
  |some h=>match uh lo h with
   |some l=>some (l,h,m)
   |none=>none
  |none=>none
 |none=>none
def sw (a:Str):Option (Nat×Nat×Nat)→Option AV
 |some (l,h,_)=>some (.str (a.sub l h))
 |none=>none
def mW (a:Option (Nat×Nat×Nat))(size l h m:Nat)(ex:Bool):Option AV:=match a with
 |none=>some (.slc none (h- l) (m- l) true)
 |some (b,off,es)=>match Nat.beq es size,Nat.beq l 0,Nat.beq m l,ex with
  |true,true,_,_=>some (.slc (some (b,off,es)) (h- l) (m- l) ex)
  |true,false,false,_=>some (.slc (some (b,off+l*size,es)) (h- l) (m- l) ex)
  |true,false,true,true=>some (.slc (some (b,off,es)) (h- l) (m- l) true)
  |true,false,true,false=>some (.slc (some (b,off,es)) 0 0 false)
  |false,_,_,_=>none
def AP (mx:Option AV)(exact:Bool)(cap:Nat):Bool:=match mx with
 |some _=>exact||Nat.blt 0 cap
 |none=>exact
def qO (X:Ctx)(elem:TypeId)(a:Option (Nat×Nat×Nat))(cap:Nat)(exact:Bool)(mx:Option AV):Option (Nat×Nat×Nat)→Option AV
 |some (l,h,m)=>match X.size elem with
  |some size=>mW a size l h m (AP mx exact cap)
  |none=>none
 |none=>none
def Co (X:Ctx)(s:St)(elem n b off:Nat):Option (Nat×Nat×Nat)→Option AV
 |some (l,h,m)=>match X.size elem,s.cells b with
  |some size,some (c,_)=>match Nat.blt 0 size&&Nat.blt 0 n,Nat.beq m l,ldL c off (n*size) with
   |true,true,some _=>some (.slc (some (b,off,size)) (h- l) (m- l) true)
   |true,false,some _=>some (.slc (some (b,off+l*size,size)) (h- l) (m- l) true)
   | _,_,_=>none
  | _,_=>none
 |none=>none
def cP (X:Ctx)(s:St)(t:TypeId)(x:AV)(lo hi mx:Option AV):Option AV:=
 match X.und t,x with
 |some .string, .str a=>match mx with
  |some _=>none
  |none=>sw a (oQ lo hi none a.len a.len)
 |some (.slice elem), .slc a len cap exact=>qO X elem a cap exact mx (oQ lo hi mx len cap)
 |some (.array n elem), .ptr (some (b,off))=>Co X s elem n b off (oQ lo hi mx n n)
 | _,_=>none
def parts (fr:Fr)(ps:Array (Nat×Operand)):List (Nat×AV):=ps.toList.map fun(i,x)=>(i,fr.opd x)
def cS (X:Ctx):List Field→Option (List (Nat×Nat))
 |[]=>some []
 |f::fs=>match X.size f.type with
  |some n=>match cS X fs with
   |some l=>some ((f.offset,n)::l)
   |none=>none
  |none=>none
def loadT (X:Ctx)(t:TypeId)(a:AV)(s:St):Option AV:=
 match a with
 | .ptr (some (b,off))=>match s.cells b with
  |some (c,_)=>match X.und t,X.size t with
   |some d,some n=>match m9 d with
    |true=>match ldL c off n with
     |some l=>some (.agg l)
     |none=>none
    |false=>c.get off
   | _,_=>none
  |none=>none
 | .gp g off=>match s.gl.get g with
  |some c=>match X.und t with
   |some d=>match m9 d with
    |true=>none
    |false=>c.get off
   |none=>none
  |none=>none
 | _=>none
def storeT (X:Ctx)(t:TypeId)(a v:AV)(s:St):Option St:=
 match a with
 | .ptr (some (b,off))=>match s.cells b with
  |some (c,m)=>match X.size t,aX v.cells with
   |some n,true=>match Nat.beq v.cells.length n with
    |true=>match stL v.cells off c with
     |some c'=>some (s.q7 b c' m)
     |none=>none
    |false=>none
   | _,_=>none
  |none=>none
 | _=>none
def dO (cs:List AV)(s:St):Option OR:=
 match aX cs with
 |true=>
  let r:=s.jU (Tr.of cs) cs.length
  some (.val (.ptr (some (r.1,0))) r.2)
 |false=>none
def qA (c a b:AV):Option OR:=match c with
 | .bool true=>some (.old a)
 | .bool false=>some (.old b)
 | _=>none
def ja (X:Ctx)(t:TypeId)(s:St):Option OR:=match X.zero t with
 |some z=>dO z.cells s
 |none=>none
def dY (x:AV)(s:St):Option OR:=match x with
 | .top=>none
 |v=>dO v.cells s
def fB:Option (List AV)→Option OR
 |some cs=>some (.pure (.agg cs))
 |none=>none
def wG (X:Ctx)(elem:TypeId)(z:AV)(ps:List (Nat×AV)):Option OR:=match X.size elem with
 |some n=>fB (dc (fun i=>some (i*n,n)) ps z.cells)
 |none=>none
def cL (z:AV)(ps:List (Nat×AV)):Option (List (Nat×Nat))→Option OR
 |some pl=>fB (dc (fun i=>pl[i]?) ps z.cells)
 |none=>none
def bz (X:Ctx)(t:TypeId)(ps:List (Nat×AV)):Option OR:=match X.zero t,X.und t with
 |some z,some (.struct fs)=>cL z ps (cS X fs.toList)
 |some z,some (.array _ elem)=>wG X elem z ps
 | _,_=>none
def fE (cs:List AV)(len size:Nat)(s:St):Option OR:=match aX cs with
 |true=>
  let r:=s.jU (Tr.of cs) cs.length
  some (.val (.slc (some (r.1,0,size)) len len true) r.2)
 |false=>none
def eG (n:Nat)(z:AV)(len:Nat)(ps:List (Nat×AV))(s:St):Option OR:=
 match dc (fun i=>some (i*n,n)) ps (lR z.cells len) with
 |some cs=>fE cs len n s
 |none=>none
def bB (X:Ctx)(t:TypeId)(len:Nat)(ps:List (Nat×AV))(s:St):Option OR:=match X.und t with
 |some (.slice elem)=>match X.size elem,X.zero elem with
  |some n,some z=>match Nat.ble (len*n) 100000&&Nat.beq z.cells.length n&&Nat.blt 0 n with
   |true=>eG n z len ps s
   |false=>none
  | _,_=>none
 | _=>none
def cK (X:Ctx)(t:TypeId)(a x:AV)(s:St):Option OR:=match storeT X t a x s with
 |some s'=>some (.val (.tup []) s')
 |none=>none
def uq (x:AV):Option OR:=match x with
 | .ptr (some a)=>some (.old (.ptr (some a)))
 | .func (.func f) a b=>some (.old (.func (.func f) a b))
 | .iface t v=>some (.old (.iface t v))
 | .yld b=>some (.old (.yld b))
 | .gp g o=>some (.old (.gp g o))
 | _=>none
def iI (X:Ctx)(e:TypeId)(v:Str)(s:St):Option OR:=match X.und e with
 |some (.int .u8)=>match Nat.ble v.len 1000000 with
  |true=>
   let r:=s.jU (Tr.of (fX v v.len)) (v.len+iM)
   some (.val (.slc (some (r.1,0,1)) v.len v.len false) r.2)
  |false=>none
 | _=>none
def pN (X:Ctx)(e:TypeId)(a:Option (Nat×Nat×Nat))(n:Nat)(s:St):Option OR:=match X.und e with
 |some (.int .u8)=>match aZ s 1 (.slc a n n false) with
  |some (_,l)=>match bytesOf l with
   |some v=>some (.pure (.str v))
   |none=>none
  |none=>none
 | _=>none
def bH (X:Ctx)(a b:TypeId)(x:AV)(s:St):Option OR:=match X.und a,X.und b,x with
 |some _,some (.int k), .int _ n=>some (.pure (.int k (wr k n)))
 |some _,some (.int k), .cls _ b m r=>match fits k b with
  |true=>some (.pure (.cls k b m r))
  |false=>none
 |some _,some .string, .str v=>some (.old (.str v))
 |some .string,some (.slice e), .str v=>iI X e v s
 |some (.slice e),some .string, .slc a n _ _=>pN X e a n s
 | _,_,_=>none
def iK (X:Ctx)(t:TypeId)(v:AV):Option OR:=match X.und t with
 |some (.interface _)=>none
 |some _=>some (.old (.iface t v))
 |none=>none
def nY (s:St):Option OR:=
 let r:=s.new (.map [])
 some (.val (.map (some r.1)) r.2)
def nf (k:Nat)(z:AV)(n m:Nat)(s:St):Option OR:=
 match Nat.ble n m&&Nat.ble m 100000&& (aX z.cells&&Nat.beq z.cells.length k) with
 |true=>
  let r:=s.jU (Tr.of (lR z.cells m)) (m*k)
  some (.val (.slc (some (r.1,0,k)) n m true) r.2)
 |false=>none
def eF (X:Ctx)(t:TypeId)(l c:AV)(s:St):Option OR:=match X.und t,l,c with
 |some (.slice elem), .int _ (.ofNat n), .int _ (.ofNat m)=>match X.elem elem,X.zero elem with
  |some k,some z=>nf k z n m s
  | _,_=>none
 | _,_,_=>none
def bh (X:Ctx)(b off:Nat):Option Field→Option OR
 |some f=>match X.size f.type with
  |some 0=>none
  |some (_+1)=>some (.pure (.ptr (some (b,off+f.offset))))
  |none=>none
 |none=>none
def we (X:Ctx)(g off:Nat):Option Field→Option OR
 |some f=>match X.size f.type with
  |some 0=>none
  |some (_+1)=>some (.pure (.gp g (off+f.offset)))
  |none=>none
 |none=>none
def z5 (X:Ctx)(elem g off n k:Nat):Option OR:=match X.size elem,Nat.blt k n with
 |some m,true=>some (.pure (.gp g (off+k*m)))
 | _,_=>none
def af (X:Ctx)(t:TypeId)(x:AV)(i:Nat):Option OR:=match x with
 | .gp g off=>match X.und t with
  |some (.struct fs)=>we X g off (fs.toList[i]?)
  | _=>none
 | .ptr (some (b,off))=>match X.und t with
  |some (.struct fs)=>bh X b off (fs.toList[i]?)
  | _=>none
 | _=>none
def sj (X:Ctx)(t:TypeId)(x:AV)(i:Nat):Option OR:=match X.und t,x with
 |some (.struct fs), .agg cs=>match fs.toList[i]? with
  |some f=>tf (partAt X f.type cs f.offset)
  |none=>none
 | _,_=>none
def tA (X:Ctx)(elem b off n k:Nat):Option OR:=match X.size elem,Nat.blt k n with
 |some m,true=>some (.pure (.ptr (some (b,off+k*m))))
 | _,_=>none
def fh (X:Ctx)(t:TypeId)(x i:AV):Option OR:=match X.und t,x,i with
 |some (.array n elem), .ptr (some (b,off)), .int _ (.ofNat k)=>tA X elem b off n k
 |some (.array n elem), .gp g off, .int _ (.ofNat k)=>z5 X elem g off n k
 |some (.slice elem), .slc (some (b,off,_)) n _ _, .int _ (.ofNat k)=>tA X elem b off n k
 | _,_,_=>none
def vp (X:Ctx)(elem n k:Nat)(cs:List AV):Option OR:=match X.size elem,Nat.blt k n with
 |some m,true=>tf (partAt X elem cs (k*m))
 | _,_=>none
def mL (X:Ctx)(t:TypeId)(x i:AV):Option OR:=match X.und t,x,i with
 |some .string, .str v, .int _ (.ofNat k)=>match Nat.blt k v.len with
  |true=>some (.pure (.int .u8 (v.at k)))
  |false=>none
 |some (.array n elem), .agg cs, .int _ (.ofNat k)=>vp X elem n k cs
 | _,_,_=>none
def mapOf (x:AV)(s:St):Option (List (AV×AV)):=match x with
 | .map none=>some []
 | .map (some r)=>match s.h.get r with
  |some (.map es)=>some es
  | _=>none
 | _=>none
def oR (ok:Bool)(v:AV)(b:Bool):Option OR:=match ok with
 |true=>some (.pure (.tup [v, .bool b]))
 |false=>some (.pure v)
def w6 (X:Ctx)(vt:TypeId)(ok:Bool):Option (Option AV)→Option OR
 |some (some v)=>oR ok v true
 |some none=>match X.zero vt with
  |some z=>oR ok z false
  |none=>none
 |none=>none
def eN (X:Ctx)(t:TypeId)(x k:AV)(ok:Bool)(s:St):Option OR:=match X.und t with
 |some (.map kt vt)=>match X.und kt,mapOf x s with
  |some d,some es=>match plainKey d k with
   |true=>w6 X vt ok (nA k es)
   |false=>none
  | _,_=>none
 | _=>none
def fy (X:Ctx)(t:TypeId)(m k v:AV)(s:St):Option OR:=match v with
 | .top=>none
 |v=>match X.und t,m with
  |some (.map kt _), .map (some r)=>match X.und kt,s.h.get r with
   |some d,some (.map es)=>match plainKey d k,nz k v es with
    |true,some es'=>some (.val (.tup []) (s.xI r es'))
    | _,_=>none
   | _,_=>none
  | _,_=>none
def lH (x:AV)(i:Nat):Option OR:=match x with
 | .tup vs=>tf (vs[i]?)
 | _=>none
def zL (X:Ctx)(u:TypeId)(ok:Bool):Option OR:=match ok with
 |true=>match X.zero u with
  |some z=>some (.pure (.tup [z, .bool false]))
  |none=>none
 |false=>none
def rT (X:Ctx)(x:AV)(u:TypeId)(ok:Bool):Option OR:=match X.und u,x with
 |some (.interface _),_=>none
 |some _, .iface t' v=>match decide (t'=u) with
  |true=>oR ok v true
  |false=>zL X u ok
 |some _, .nilIface=>zL X u ok
 | _,_=>none
def va (f:AV)(args:List AV):Option OR:=match f with
 | .func (.func g) first captured=>some (.dfr ⟨g,first++args++captured⟩)
 | _=>none
def vh (x:AV):Option OR:=match x with
 | .iface t v=>some (.pan (.iface t v))
 | _=>none
def MC (x:AV)(args:List AV)(ptr:Bool):Option (FuncId×Bool)→Option OR
 |some (f,b)=>match b==ptr with
  |true=>some (.call f (x::args))
  |false=>none
 |none=>none
def Ch:TypeDesc→Bool
 | .pointer _=>true
 | _=>false
def Mp (X:Ctx)(t:TypeId)(x:AV)(args:List AV):Option Method→Option OR
 |some m=>match m.path.toList,X.und t with
  |[],some d=>MC x args (Ch d) m.func
  | _,_=>none
 |none=>none
def sK (X:Ctx)(x:AV)(name:String)(args:List AV):Option OR:=match x with
 | .iface t v=>match X.tys.get t with
  |some i=>Mp X t v args (i.methods.toList.find? fun m=>m.name==name)
  |none=>none
 | _=>none
def pz (X:Ctx)(c:Call)(fr:Fr)(s:St):Option OR:=match c.callee with
 | .value f=>ti (fr.opd f) (c.args.toList.map fr.opd)
 | .builtin b=>dX X b c.argTypes.toList (c.args.toList.map fr.opd) s
 | .invoke r name=>sK X (fr.opd r) name (c.args.toList.map fr.opd)
def Gm (c:Call)(fr:Fr):Option OR:=match c.callee with
 | .value f=>va (fr.opd f) (c.args.toList.map fr.opd)
 | _=>none
def aO (X:Ctx)(t:TypeId)(a:AV)(s:St):Option OR:=tf (loadT X t a s)
def fZ (X:Ctx)(o:Oper)(fr:Fr)(s:St):Option OR:=
 match o.op with
 | .move x=>some (.old (fr.opd x))
 | .assign x=>some (.old (fr.opd x))
 | .pick c a b=>qA (fr.opd c) (fr.opd a) (fr.opd b)
 | .alloc t=>ja X t s
 | .box _ x=>dY (fr.opd x) s
 | .build t ps=>bz X t (parts fr ps)
 | .buildSlice t len ps=>bB X t len (parts fr ps) s
 | .load t a=>aO X t (fr.opd a) s
 | .store t a x=>cK X t (fr.opd a) (fr.opd x) s
 | .nilCheck x=>uq (fr.opd x)
 | .binOp op t x y _=>jA (aW X op t (qu x||qu y) (fr.opd x) (fr.opd y))
 | .unOp op _ x=>jA (F2 op (fr.opd x))
 | .convert a b x=>bH X a b (fr.opd x) s
 | .makeInterface t x=>iK X t (fr.opd x)
 | .makeFunc fn first cap=>some (.pure (.func fn (first.toList.map fr.opd) (cap.toList.map fr.opd)))
 | .makeMap _ none=>nY s
 | .makeSlice t l c=>eF X t (fr.opd l) (fr.opd c) s
 | .slice t x lo hi mx=>jA (cP X s t (fr.opd x) (lo.map fr.opd) (hi.map fr.opd) (mx.map fr.opd))
 | .fieldAddr t x i=>af X t (fr.opd x) i
 | .field t x i=>sj X t (fr.opd x) i
 | .indexAddr t x i=>fh X t (fr.opd x) (fr.opd i)
 | .index t x i=>mL X t (fr.opd x) (fr.opd i)
 | .lookup t x k ok=>eN X t (fr.opd x) (fr.opd k) ok s
 | .mapUpdate t m k x=>fy X t (fr.opd m) (fr.opd k) (fr.opd x) s
 | .insert t m k x=>fy X t (fr.opd m) (fr.opd k) (fr.opd x) s
 | .extract t i=>lH (fr.opd t) i
 | .typeAssert x _ u ok=>rT X (fr.opd x) u ok
 | .call c=>pz X c fr s
 | .defer c=>Gm c fr
 | .panic x=>vh (fr.opd x)
 | _=>none
inductive CR where
 |ret (v:AV) (s:St)
 |pan (v:AV) (s:St)
inductive EX where
 |norm
 |brk (id:Nat)
 |ret
 |pan (v:AV)
inductive Tgt where
 |fn (f:FuncId)
 |rnd (b:Nat)
abbrev dh:=Tgt→List AV→St→Option CR
def z7 (fr:Fr)(want:Bool)(d:Nat):Option Bool:=match fr.t.get d with
 |some (.bool b)=>some (b==want)
 |some (.tup _)=>some false
 | _=>none
def uZ (ops:Array Oper)(fr:Fr)(j:Nat)(want:Bool):Option Bool:=match ops.toList[j]? with
 |some g=>match g.dst with
  |some d=>z7 fr want d
  |none=>none
 |none=>none
def bI (ops:Array Oper)(fr:Fr)(o:Oper):Option Bool:=
 match o.guard with
 |none=>some true
 |some (j,want)=>uZ ops fr j want
inductive PR where
 |go (fr:Fr) (s:St)
 |pan (v:AV) (fr:Fr) (s:St)
def kG (fr:Fr)(dst:Option Nat)(v:AV)(s:St):Option PR:=match dst with
 |none=>some (.go fr s)
 |some t=>fr.t.nz t v fun x=>some (.go ⟨x,fr.d⟩ s)
def vR (fr:Fr)(dst:Option Nat)(v:AV)(s:St):Option PR:=kS s fun s=>kV v fun v=>kG fr dst v s
def iu (fr:Fr)(dst:Option Nat):Option CR→Option PR
 |some (.ret v s)=>vR fr dst v s
 |some (.pan v s)=>some (.pan v fr s)
 |none=>none
def my (call:dh)(fr:Fr)(dst:Option Nat)(s:St):Option OR→Option PR
 |none=>none
 |some (.old v)=>kG fr dst v s
 |some (.pure v)=>kV v fun v=>kG fr dst v s
 |some (.val v s')=>vR fr dst v s'
 |some (.dfr d)=>kG {fr with d:= .fn d::fr.d} dst (.tup []) s
 |some (.pan v)=>some (.pan v fr s)
 |some (.call f args)=>kL args fun args=>iu fr dst (call (.fn f) args s)
 |some (.round b args)=>kL args fun args=>iu fr dst (call (.rnd b) args s)
def Nf (X:Ctx)(g:FuncId):Bool:=match X.fns.get g with
 |some _=>true
 |none=>false
def zi (X:Ctx):AV→Bool
 | .func (.func g) _ _=>Nf X g
 | .tup []=>true
 | .nilFunc=>true
 | .yld _=>true
 | _=>false
def HP:AV→Bool
 | .tup []=>true
 | .nilIface=>true
 | _=>false
def Eo (X:Ctx)(fr:Fr):Callee→Bool
 | .builtin _=>true
 | .value x=>zi X (fr.opd x)
 | .invoke x _=>HP (fr.opd x)
def w8 (X:Ctx)(o:Oper)(fr:Fr):Bool:=match o.op with
 | .call c=>Eo X fr c.callee
 | _=>true
def mX (X:Ctx)(o:Oper)(fr:Fr)(s:St):Option PR:=match w8 X o fr with
 |true=>kG fr o.dst (.tup []) s
 |false=>none
def xD (X:Ctx)(call:dh)(o:Oper)(fr:Fr)(s:St):Option Bool→Option PR
 |none=>none
 |some false=>mX X o fr s
 |some true=>my call fr o.dst s (fZ X o fr s)
def eA (X:Ctx)(call:dh)(ops:Array Oper)(o:Oper)(fr:Fr)(s:St):Option PR:=xD X call o fr s (bI ops fr o)
def jg (k:Fr→St→Option (EX×Fr×St)):Option PR→Option (EX×Fr×St)
 |some (.go fr s)=>k fr s
 |some (.pan v fr s)=>some (.pan v,fr,s)
 |none=>none
def nV (X:Ctx)(call:dh)(ops:Array Oper):List Oper→Fr→St→Option (EX×Fr×St)
 |[],fr,s=>some (.norm,fr,s)
 |o::rest,fr,s=>jg (nV X call ops rest) (eA X call ops o fr s)
def bit (m i:Nat):Bool:=Nat.beq (Nat.mod (Nat.shiftRight m i) 2) 1
def vi (done:Nat)(o:Oper):Bool:=o.after.toList.all fun e=> !onB e||bit done e.on
structure bn where
 i:Nat
 o:Oper
 v:AV
 laid:Option (Nat×AB)
def GX:Option AV→Option AV→Bool
 |none,none=>true
 |some x,some y=>x.same y
 | _,_=>false
def MB:Tr AV→Tr AV→Bool:=Tr.q8 GX
def Db:AB→AB→Bool
 | .cells a n, .cells b m=>Nat.beq n m&&MB a b
 | .map [], .map []=>true
 | _,_=>false
def pD (s:St)(b:Nat)(x:AB):Bool:=match s.h.get b with
 |some y=>Db x y
 |none=>false
def aB (v:AV):Option OR→Bool
 |some (.old u)=>u.same v
 |some (.pure u)=>u.same v
 | _=>false
def m5 (X:Ctx)(ops:Array Oper)(fr:Fr)(s:St)(p:bn):Bool:=
 match p.laid with
 |some (b,x)=>pD s b x
 |none=>match bI ops fr p.o with
  |some true=>aB p.v (fZ X p.o fr s)
  |some false=>match p.v with
   | .tup []=>true
   | _=>false
  |none=>false
def B2 (i:Nat)(o:Oper)(fr:Fr)(s:St):Option OR→Option (bn×Fr×St)
 |some (.old v)=>kT (fr.put o.dst v).t fun x=>some (⟨i,o,v,none⟩,⟨x,fr.d⟩,s)
 |some (.pure v)=>kV v fun v=>kT (fr.put o.dst v).t fun x=>some (⟨i,o,v,none⟩,⟨x,fr.d⟩,s)
 |some (.val v s')=>match s.h.get s.nx with
  |none=>kS s' fun s'=>kV v fun v=>match s'.h.get s.nx with
   |some b=>kT (fr.put o.dst v).t fun x=>some (⟨i,o,v,some (s.nx,b)⟩,⟨x,fr.d⟩,s')
   |none=>none
  | _=>none
 | _=>none
def kC (X:Ctx)(i:Nat)(o:Oper)(fr:Fr)(s:St):Option Bool→Option (bn×Fr×St)
 |none=>none
 |some false=>kT (fr.put o.dst (.tup [])).t fun x=>some (⟨i,o, .tup [],none⟩,⟨x,fr.d⟩,s)
 |some true=>B2 i o fr s (fZ X o fr s)
def zq (k:Nat→List bn→Fr→St→Option (EX×Fr×St))(done i:Nat)(pend:List bn):Option (bn×Fr×St)→Option (EX×Fr×St)
 |some (p,fr,s)=>kN (Nat.lor done (Nat.pow 2 i)) fun done=>k done (p::pend) fr s
 |none=>none
def rR (done i:Nat)(o:Oper):Bool:= !bit done i&& !mC o&&vi done o
def lz (X:Ctx)(ops:Array Oper)(k:Nat→List bn→Fr→St→Option (EX×Fr×St)):List (Nat×Oper)→Nat→List bn→Fr→St→Option (EX×Fr×St)
 |[],done,pend,fr,s=>k done pend fr s
 |io::rest,done,pend,fr,s=>match rR done io.1 io.2 with
  |false=>lz X ops k rest done pend fr s
  |true=>zq (lz X ops k rest) done io.1 pend (kC X io.1 io.2 fr s (bI ops fr io.2))
def gC (ops:List (Nat×Oper))(done:Nat):List (Nat×Oper):=ops.filter fun io=> !bit done io.1&&vi done io.2
def DB (X:Ctx)(ops:Array Oper)(k:Nat→List bn→Fr→St→Option (EX×Fr×St))(done i:Nat)(o:Oper)(pend:List bn):Option PR→Option (EX×Fr×St)
 |some (.go fr s)=>match(pend.filter fun p=> !bS o p.i).all (m5 X ops fr s) with
  |true=>kN (Nat.lor done (Nat.pow 2 i)) fun done=>k done (pend.filter fun p=> !bS o p.i) fr s
  |false=>none
 |some (.pan v fr s)=>some (.pan v,⟨.e,fr.d⟩,s)
 |none=>none
def AF (X:Ctx)(call:dh)(ops:Array Oper)(k:Nat→List bn→Fr→St→Option (EX×Fr×St))(done:Nat)(pend:List bn)(fr:Fr)(s:St):List (Nat×Oper)→Option (EX×Fr×St)
 |[]=>some (.norm,fr,s)
 |[io]=>match mC io.2 with
  |false=>none
  |true=>DB X ops k done io.1 io.2 pend (eA X call ops io.2 fr s)
 | _=>none
def oF (X:Ctx)(call:dh)(ops:Array Oper)(l:List (Nat×Oper)):Nat→Nat→List bn→Fr→St→Option (EX×Fr×St)
 |0=>fun _ _ _ _=>none
 |f+1=>lz X ops (fun done pend fr s=>AF X call ops (oF X call ops l f) done pend fr s (gC l done)) l
end
end Go.Am
end
section
namespace Go.Am
noncomputable section
abbrev Ev:=Code→Fr→St→Option (EX×Fr×St)
def xS (X:Ctx)(fr:Fr)(s:St):ResultVar→Option AV
 | .tmp t=>match fr.t.get t with
  |some v=>some v
  |none=>some .top
 | .cell a t=>loadT X t (fr.opd (.tmp a)) s
def ux (X:Ctx)(fr:Fr)(s:St):List ResultVar→Option (List AV)
 |[]=>some []
 |r::rs=>match xS X fr s r with
  |some v=>match ux X fr s rs with
   |some l=>some (v::l)
   |none=>none
  |none=>none
def su (X:Ctx)(fr:Fr)(s:St)(rs:Array ResultVar):Option AV:=
 match ux X fr s rs.toList with
 |some [v]=>some v
 |some l=>some (.tup l)
 |none=>none
def Ea (X:Ctx)(fn:Func)(fr:Fr)(s:St):Option CR:=match su X fr s fn.results with
 |some v=>some (.ret v s)
 |none=>none
inductive DM where
 |ret
 |pan (v:AV)
 |rcv (v:AV)
def isRec (o:Oper):Bool:=match o.op with
 | .call c=>match c.callee with
  | .builtin .recover=>true
  | _=>false
 | _=>false
def jC:DM→AV×DM
 | .ret=>(.nilIface, .ret)
 | .pan v=>(v, .rcv v)
 | .rcv v=>(.nilIface, .rcv v)
abbrev SR:=Option (EX×Fr×St×DM)
def wJ (k:DM→Fr→St→SR)(m:DM):Option PR→SR
 |some (.go fr s)=>match fr.d with
  |[]=>k m fr s
  | _=>none
 |some (.pan v fr s)=>some (.pan v,fr,s,m)
 |none=>none
def D4 (k:DM→Fr→St→SR)(fr:Fr)(dst:Option Nat)(s:St)(m:DM):Option Bool→SR
 |some true=>wJ k (jC m).2 (kG fr dst (jC m).1 s)
 | _=>none
def gf:dh:=fun _ _ _=>none
def fD (X:Ctx)(call:dh)(ops:Array Oper):List Oper→DM→Fr→St→SR
 |[],m,fr,s=>some (.norm,fr,s,m)
 |o::rest,m,fr,s=>match isRec o with
  |true=>D4 (fD X call ops rest) fr o.dst s m (bI ops fr o)
  |false=>wJ (fD X call ops rest) m (eA X call ops o fr s)
def oz (m:DM):Option (EX×Fr×St)→SR
 |some (x,fr,s)=>some (x,fr,s,m)
 |none=>none
def evS (X:Ctx)(ev:Ev):Code→DM→Fr→St→SR
 | .seq a b=>fun m fr s=>match evS X ev a m fr s with
  |some (.norm,fr,s,m)=>evS X ev b m fr s
  |r=>r
 | .region id ops draw=>fun m fr s=>match !draw&&ops.toList.any isRec with
  |true=>fD X gf ops ops.toList m fr s
  |false=>oz m (ev (.region id ops draw) fr s)
 |c=>fun m fr s=>oz m (ev c fr s)
def settled:DM→DM
 | .rcv _=> .ret
 |m=>m
def Ae (X:Ctx)(fn:Func):SR→Option (DM×St)
 |some (.norm,fr,s,m)=>match fr.d,su X fr s fn.results with
  |[],some _=>some (settled m,s)
  | _,_=>none
 |some (.ret,fr,s,m)=>match fr.d,su X fr s fn.results with
  |[],some _=>some (settled m,s)
  | _,_=>none
 | _=>none
def lD (X:Ctx)(ev:Ev)(d:qT)(m:DM)(s:St):Option (DM×St):=
 match X.fns.get d.fn with
 |some fn=>match fn.body with
  |some c=>Ae X fn (evS X ev c m {t:=Tr.of d.args,d:=[]} s)
  |none=>none
 |none=>none
def tv (b:Nat)(s:St):Option AB→Option St
 |some .dfr=>some {s with h:=s.h.del b}
 | _=>none
def leave (X:Ctx)(ev:Ev)(fn:Func)(fr:Fr):List DE→DM→St→Option CR
 |[], .ret,s=>Ea X fn fr s
 |[], .pan v,s=>some (.pan v s)
 |[], .rcv _,_=>none
 | .fn d::ds,m,s=>match lD X ev d m s with
  |some (m,s)=>leave X ev fn fr ds m s
  |none=>none
 | .mark b::ds,m,s=>match tv b s (s.h.get b) with
  |some s=>leave X ev fn fr ds m s
  |none=>none
def rD (X:Ctx)(ev:Ev)(fn:Func):Option (EX×Fr×St)→Option CR
 |some (.norm,fr,s)=>leave X ev fn fr fr.d .ret s
 |some (.ret,fr,s)=>leave X ev fn fr fr.d .ret s
 |some (.pan v,fr,s)=>leave X ev fn fr fr.d (.pan v) s
 | _=>none
def dE (X:Ctx)(ev:Ev)(f:FuncId)(args:List AV)(s:St):Option CR:=
 match X.fns.get f with
 |some fn=>match fn.body with
  |some c=>rD X ev fn (ev c {t:=Tr.of args,d:=[]} s)
  |none=>none
 |none=>none
def jE:List Nat→List AV→Tr AV→Option (Tr AV)
 |[],[],t=>some t
 |p::ps,v::vs,t=>kT (t.put p v) fun t=>jE ps vs t
 | _,_,_=>none
def Je (v:AV)(s:St):List DE→Option CR
 |[]=>some (.pan v s)
 | _=>none
def vw (b:Nat)(x:EX)(d:List DE)(s:St):Option AB→Option CR
 |some (.loop t ps QQ bd .busy)=>match x with
  | .norm=>some (.ret (.bool true) {s with h:=s.h.put b (.loop t ps QQ bd .ready)})
  | .ret=>some (.ret (.bool false) {s with h:=s.h.put b (.loop t ps QQ bd (.done .ret))})
  | .brk i=>some (.ret (.bool false) {s with h:=s.h.put b (.loop t ps QQ bd (.done (.exit i)))})
  | .pan v=>Je v s d
 | _=>none
def rP (b:Nat):Option (EX×Fr×St)→Option CR
 |some (x,fr,s)=>vw b x fr.d s (s.h.get b)
 |none=>none
def pS (ev:Ev)(b:Nat)(bd0:Code)(fr:Fr)(s:St):Option AB→Option CR
 |some (.loop t ps QQ bd .ready)=>rP b (ev bd0 fr {s with h:=s.h.put b (.loop t ps QQ bd .busy)})
 | _=>none
def nB (ev:Ev)(b:Nat)(bd0:Code):Option (EX×Fr×St)→Option CR
 |some (.norm,fr,s)=>pS ev b bd0 fr s (s.h.get b)
 | _=>none
def yl (ev:Ev)(b:Nat)(QQ bd0:Code)(s:St):Option (Tr AV)→Option CR
 |some t=>nB ev b bd0 (ev QQ ⟨t,[]⟩ s)
 |none=>none
def Er (ev:Ev)(b:Nat)(args:List AV)(s:St):Option AB→Option CR
 |some (.loop t ps QQ bd .ready)=>yl ev b QQ bd s (jE ps args t)
 | _=>none
def mQ (ev:Ev)(b:Nat)(args:List AV)(s:St):Option CR:=Er ev b args s (s.h.get b)
abbrev bj:=FuncId→Option (List AV→St→Option CR)
def fN (X:Ctx)(own:bj)(ih:Ev)(f:FuncId)(args:List AV)(s:St):Option CR:=match own f with
 |some g=>g args s
 |none=>dE X ih f args s
def cF (X:Ctx)(own:bj)(ih:Ev)(f:Tgt)(args:List AV)(s:St):Option CR:=match f with
 | .fn f=>fN X own ih f args s
 | .rnd b=>mQ ih b args s
def wQ (X:Ctx)(own:bj)(ih:Ev)(ops:Array Oper)(fr:Fr)(s:St)(draw:Bool):Option (EX×Fr×St):=match draw with
 |false=>nV X (cF X own ih) ops ops.toList fr s
 |true=>oF X (cF X own ih) ops (ef ops) (ops.size+1) 0 [] fr s
def mF (ih:Ev)(b:Code):Option (EX×Fr×St)→Option (EX×Fr×St)
 |some (.norm,fr,s)=>ih b fr s
 |r=>r
def qM (ih:Ev)(a b:Code)(fr:Fr)(s:St):AV→Option (EX×Fr×St)
 | .bool true=>ih a fr s
 | .bool false=>ih b fr s
 | _=>none
def mJ (id:Nat):Option (EX×Fr×St)→Option (EX×Fr×St)
 |some (.brk j,fr,s)=>match Nat.beq j id with
  |true=>some (.norm,fr,s)
  |false=>some (.brk j,fr,s)
 |r=>r
def wE:Code→Bool
 | .ret=>true
 | .exit _=>true
 | _=>false
def pZ (ih:Ev)(fr:Fr)(b0 l:Nat)(s:St):Option AB→Option (EX×Fr×St)
 |some (.loop _ _ _ _ .ready)=>some (.norm,⟨fr.t, .mark b0::fr.d⟩,{s with h:=s.h.del l})
 |some (.loop _ _ _ _ (.done c))=>match wE c with
  |true=>ih c ⟨fr.t, .mark b0::fr.d⟩ {s with h:=s.h.del l}
  |false=>none
 | _=>none
def ta (ih:Ev)(fr:Fr)(b0 l:Nat):Option CR→Option (EX×Fr×St)
 |some (.ret _ s)=>pZ ih fr b0 l s (s.h.get l)
 |some (.pan v s)=>some (.pan v,⟨fr.t, .mark b0::fr.d⟩,s)
 |none=>none
def rq (X:Ctx)(ih:Ev)(f:FuncId)(first cap:List AV)(fr:Fr)(b0 l:Nat)(s:St):Option (EX×Fr×St):=
 kL (first++(.yld l::cap)) fun args=>kS s fun s=>ta ih fr b0 l (dE X ih f args s)
def ov (X:Ctx)(ih:Ev)(ps:List Nat)(QQ bd:Code)(fr:Fr)(s:St):AV→Option (EX×Fr×St)
 | .func (.func f) first cap=>rq X ih f first cap fr s.nx (s.nx+1) ((s.new .dfr).2.new (.loop fr.t ps QQ bd .ready)).2
 | _=>none
def px (X:Ctx)(own:bj)(ih:Ev):Ev:=fun c fr s=>
 match c with
 | .skip=>some (.norm,fr,s)
 | .label _=>some (.norm,fr,s)
 | .region _ ops draw=>wQ X own ih ops fr s draw
 | .seq a b=>mF ih b (ih a fr s)
 | .cond x a b=>qM ih a b fr s (fr.opd x)
 | .block id b=>mJ id (ih b fr s)
 | .loop b=>mF ih (.loop b) (ih b fr s)
 | .exit id=>some (.brk id,fr,s)
 | .scope b=>ih b fr s
 | .ret=>some (.ret,fr,s)
 | .goto _=>none
 | .refuse _=>none
 | .rangeFunc g ps QQ bd=>ov X ih ps.toList QQ bd fr s (fr.opd g)
def ev (X:Ctx)(own:bj)(n:Nat):Ev:=Nat.rec (motive:=fun _=>Ev) (fun _ _ _=>none) (fun _ ih=>px X own ih) n
def mw (X:Ctx)(own:bj)(n:Nat):FuncId→List AV→St→Option CR:=dE X (ev X own n)
end
end Go.Am
end
section
namespace Go.Am
section
variable {α β:Type}
@[simp] theorem o9 (m : Nat) (k : Nat → β) : kN m k = k m := by cases m <;> rfl
@[simp] theorem QB (i : Int) (k : Int → β) : kI i k = k i := by cases i <;> simp [kI]
@[simp] theorem QC (b : Bool) (k : Bool → β) : kB b k = k b := by cases b <;> rfl
@[simp] theorem QE (a : Option (Nat × Nat)) (k : Option (Nat × Nat) → β) : kA a k = k a := by
 cases a with
 |none=>rfl
 |some p=>cases p;simp[kA]
@[simp] theorem Qv (a : Option (Nat × Nat × Nat)) (k : Option (Nat × Nat × Nat) → β) : kA3 a k = k a := by
 cases a with
 |none=>rfl
 |some p=>obtain⟨b,o,e⟩:=p;simp[kA3]
@[simp] theorem tK (v : AV) (k : AV → β) : kV0 v k = k v := by
 cases v<;>simp[kV0]
 case map r=>cases r<;>simp
@[simp] theorem mG (l : List AV) (k : List AV → β) : kL l k = k l := by
 induction l generalizing k with
 |nil=>rfl
 |cons v vs ih=>simp[kL,ih]
@[simp] theorem kF (v : AV) (k : AV → β) : kV v k = k v := by cases v <;> simp [kV]
@[simp] theorem QD (l : List (AV × AV)) (k : List (AV × AV) → β) : kP l k = k l := by
 induction l generalizing k with
 |nil=>rfl
 |cons v vs ih=>cases v;simp[kP,ih]
@[simp] theorem oW (s : St) (k : St → β) : kS s k = k s := by cases s; simp [kS]
end
theorem Tr.iG {α:Type}:∀ (l:List α) (i:Nat) (t:Tr α) (j:Nat) (x:α),(Tr.kg l i t).get j=some x→(i≤j∧l[j- i]? =some x)∨((j<i∨i+l.length≤j)∧t.get j=some x)
 |[],i,t,j,x,h=>by
  refine .inr ⟨?_,h⟩
  simp;omega
 |y::ys,i,t,j,x,h=>by
  simp only[Tr.kg,Tr.rN,o9] at h
  rcases Tr.iG ys (i+1) _ j x h with⟨a,b⟩|⟨a,b⟩
  ·refine .inl ⟨by omega,?_⟩
   have:j- i=(j- (i+1))+1:=by omega
   rw[this];simpa using b
  ·rcases Tr.df b with⟨c,d⟩|⟨c,d⟩
   ·subst c;subst d;exact .inl ⟨by omega,by simp⟩
   ·refine .inr ⟨?_,d⟩
    simp;omega
theorem Tr.dF {α:Type}{l:List α}{j:Nat}{x:α}(h:(Tr.of l).get j=some x):l[j]? =some x:=by
 rcases Tr.iG l 0 .e j x h with⟨_,b⟩|⟨_,b⟩
 ·simpa using b
 ·rw[Tr.ry] at b;cases b
abbrev WD:=Nat× (Nat→Prop)
abbrev up (z:Nat):Nat→Prop:=fun j=>j<z
abbrev Inj:=Nat→Option (Nat×WD)
def Inj.le (ι κ:Inj):Prop:=∀b x,ι b=some x→κ b=some x
theorem Inj.le_refl (ι:Inj):ι.le ι:=fun _ _ h=>h
theorem Inj.le_trans {ι κ μ:Inj}(h:ι.le κ)(h':κ.le μ):ι.le μ:=fun b x hb=>h' b x (h b x hb)
mutual
def VR (ι:Inj):AV→Value→Prop
 | .top,_=>True
 | .bool b,v=>v= .bool b
 | .int k n,v=>v= .int k n
 | .flt k b,v=>v= .float k b
 | .str s,v=>∃bs,v= .string bs∧s=Str.of bs
 | .ptr none,v=>v= .pointer none
 | .ptr (some (b,o)),v=>∃c d,ι b=some (c,d)∧v= .pointer (some ⟨c,d.1+o,none⟩)
 | .slc none n c x,v=>n=0∧c=0∧x=true∧v= .slice none 0 0
 | .slc (some (b,o,es)) n c x,v=>∃cb d off m,ι b=some (cb,d)∧v= .slice (some ⟨cb,off,none⟩) n m∧(0<c∨x=true→off=d.1+o)∧n≤c∧c≤m∧(x=true→m=c)∧∀j,off≤j→j<off+m*es→d.2 j
 | .map none,v=>v= .map none
 | .map (some r),v=>∃c d,ι r=some (c,d)∧v= .map (some c)
 | .func f a b,v=>∃x y,v= .func f x y∧VRs ι a x.toList∧VRs ι b y.toList
 | .nilFunc,v=>v= .nilFunc
 | .any,v=>(∀x,v≠ .agg x)∧∀x,v≠ .tuple x
 | .yld b,v=>∃c d,ι b=some (c,d)∧v= .func (.yield c) #[] #[]
 | .gp g o,v=>v= .pointer (some ⟨g,o,none⟩)
 | .cls k b m r,v=>∃n:Nat,v= .int k n∧n<b∧n % m=r
 | .ne k n,v=>∃m:Int,v= .int k m∧m≠n
 | .iface t u,v=>∃x,v= .iface t x∧VR ι u x
 | .nilIface,v=>v= .nilIface
 | .agg cs,v=>∃x,v= .agg x∧VRs ι cs x.toList
 | .tup cs,v=>∃x,v= .tuple x∧VRs ι cs x.toList
def VRs (ι:Inj):List AV→List Value→Prop
 |[],[]=>True
 |a::l,v::m=>VR ι a v∧VRs ι l m
 | _,_=>False
end
mutual
theorem VR.mono {ι κ:Inj}(h:ι.le κ):∀ {a:AV} {v:Value},VR ι a v→VR κ a v
 | .top,_,_=>by simp[VR]
 | .bool _,_,hv=>by simpa[VR] using hv
 | .int _ _,_,hv=>by simpa[VR] using hv
 | .flt _ _,_,hv=>by simpa[VR] using hv
 | .str _,_,hv=>by simpa[VR] using hv
 | .ptr none,_,hv=>by simpa[VR] using hv
 | .ptr (some (b,o)),_,hv=>by
  simp only[VR] at hv ⊢
  obtain⟨c,d,h1,h2⟩:=hv
  exact⟨c,d,h _ _ h1,h2⟩
 | .slc none _ _ _,_,hv=>by simpa[VR] using hv
 | .slc (some (b,o,es)) n c x,_,hv=>by
  simp only[VR] at hv ⊢
  obtain⟨cb,d,off,m,h1,h2⟩:=hv
  exact⟨cb,d,off,m,h _ _ h1,h2⟩
 | .map none,_,hv=>by simpa[VR] using hv
 | .map (some r),_,hv=>by
  simp only[VR] at hv ⊢
  obtain⟨c,d,h1,h2⟩:=hv
  exact⟨c,d,h _ _ h1,h2⟩
 | .func f a b,_,hv=>by
  simp only[VR] at hv ⊢
  obtain⟨x,y,h1,h2,h3⟩:=hv
  exact⟨x,y,h1,VRs.mono h h2,VRs.mono h h3⟩
 | .nilFunc,_,hv=>by simpa[VR] using hv
 | .any,_,hv=>by simp only[VR] at hv ⊢;exact hv
 | .gp _ _,_,hv=>by simp only[VR] at hv ⊢;exact hv
 | .cls _ _ _ _,_,hv=>by simp only[VR] at hv ⊢;exact hv
 | .ne _ _,_,hv=>by simp only[VR] at hv ⊢;exact hv
 | .yld b,_,hv=>by
  simp only[VR] at hv ⊢
  obtain⟨c,d,h1,h2⟩:=hv
  exact⟨c,d,h _ _ h1,h2⟩
 | .iface t u,_,hv=>by
  simp only[VR] at hv ⊢
  obtain⟨x,h1,h2⟩:=hv
  exact⟨x,h1,VR.mono h h2⟩
 | .nilIface,_,hv=>by simpa[VR] using hv
 | .agg cs,_,hv=>by
  simp only[VR] at hv ⊢
  obtain⟨x,h1,h2⟩:=hv
  exact⟨x,h1,VRs.mono h h2⟩
 | .tup cs,_,hv=>by
  simp only[VR] at hv ⊢
  obtain⟨x,h1,h2⟩:=hv
  exact⟨x,h1,VRs.mono h h2⟩
theorem VRs.mono {ι κ:Inj}(h:ι.le κ):∀ {l:List AV} {m:List Value},VRs ι l m→VRs κ l m
 |[],[],_=>by simp[VRs]
 |[],_::_,hv=>by simp[VRs] at hv
 | _::_,[],hv=>by simp[VRs] at hv
 |a::l,v::m,hv=>by
  simp only[VRs] at hv ⊢
  exact⟨VR.mono h hv.1,VRs.mono h hv.2⟩
end
section
variable {ι:Inj}
theorem VRs.length:∀ {l:List AV} {m:List Value},VRs ι l m→l.length=m.length
 |[],[],_=>rfl
 |[],_::_,h=>by simp[VRs] at h
 | _::_,[],h=>by simp[VRs] at h
 | _::l,_::m,h=>by simp only[VRs] at h;simp[VRs.length h.2]
theorem VRs.get:∀ {l:List AV} {m:List Value} {i:Nat} {a:AV},VRs ι l m→l[i]? =some a→∃v,m[i]? =some v∧VR ι a v
 |[],_,_,_,_,hi=>by simp at hi
 | _::_,[],_,_,h,_=>by simp[VRs] at h
 |b::l,v::m,0,a,h,hi=>by
  simp only[VRs] at h;simp at hi;subst hi;exact⟨v,rfl,h.1⟩
 |b::l,v::m,i+1,a,h,hi=>by
  simp only[VRs] at h;simp at hi;simpa using VRs.get h.2 hi
theorem VRs.append:∀ {l:List AV} {m:List Value} {l':List AV} {m':List Value},VRs ι l m→VRs ι l' m'→VRs ι (l++l') (m++m')
 |[],[],_,_,_,h'=>by simpa using h'
 |[],_::_,_,_,h,_=>by simp[VRs] at h
 | _::_,[],_,_,h,_=>by simp[VRs] at h
 | _::l,_::m,_,_,h,h'=>by
  simp only[VRs] at h;simp only[List.cons_append,VRs];exact⟨h.1,VRs.append h.2 h'⟩
theorem VRs.drop:∀ {l:List AV} {m:List Value} (n:Nat),VRs ι l m→VRs ι (l.drop n) (m.drop n)
 |l,m,0,h=>by simpa using h
 |[],[],n+1,_=>by simp[VRs]
 |[],_::_,_+1,h=>by simp[VRs] at h
 | _::_,[],_+1,h=>by simp[VRs] at h
 | _::l,_::m,n+1,h=>by simp only[VRs] at h;simpa using VRs.drop n h.2
theorem VRs.take:∀ {l:List AV} {m:List Value} (n:Nat),VRs ι l m→VRs ι (l.take n) (m.take n)
 |l,m,0,h=>by simp[VRs]
 |[],[],n+1,_=>by simp[VRs]
 |[],_::_,_+1,h=>by simp[VRs] at h
 | _::_,[],_+1,h=>by simp[VRs] at h
 | _::l,_::m,n+1,h=>by simp only[VRs] at h;simp only[List.take_succ_cons,VRs];exact⟨h.1,VRs.take n h.2⟩
theorem VRs.set:∀ {l:List AV} {m:List Value} (i:Nat) {a:AV} {v:Value},VRs ι l m→VR ι a v→VRs ι (l.set i a) (m.set i v)
 |[],[],i,_,_,_,_=>by simp[VRs]
 |[],_::_,_,_,_,h,_=>by simp[VRs] at h
 | _::_,[],_,_,_,h,_=>by simp[VRs] at h
 | _::l,_::m,0,_,_,h,ha=>by simp only[VRs] at h;simp only[List.set_cons_zero,VRs];exact⟨ha,h.2⟩
 | _::l,_::m,i+1,_,_,h,ha=>by simp only[VRs] at h;simp only[List.set_cons_succ,VRs];exact⟨h.1,VRs.set i h.2 ha⟩
theorem VRs.one {a:AV}{v:Value}(h:VR ι a v):VRs ι [a] [v]:=by simp only[VRs];exact⟨h,trivial⟩
theorem VRs.ext:∀ {l:List AV} {m:List Value},l.length=m.length→(∀ (i:Nat) (a:AV) (v:Value),l[i]? =some a→m[i]? =some v→VR ι a v)→VRs ι l m
 |[],[],_,_=>by simp[VRs]
 |[],_::_,h,_=>by simp at h
 | _::_,[],h,_=>by simp at h
 |a::l,v::m,h,hi=>by
  simp only[VRs]
  exact⟨hi 0 a v rfl rfl,VRs.ext (by simpa using h) fun i b w h1 h2=>hi (i+1) b w (by simpa using h1) (by simpa using h2)⟩
end
theorem EG (ι:Inj)(v:Value):VR ι (pe v) v:=by
 cases v<;>simp only[pe,VR]
 case string s=>exact⟨s,rfl,rfl⟩
 case pointer a=>cases a<;>simp[VR]
 case slice a n c=>
  cases a with
  |none=>
   match n,c with
   |0,0=>simp[VR]
   |0,_+1=>simp[VR]
   | _+1,_=>simp[VR]
  |some a=>simp[VR]
 case map r=>cases r<;>simp[VR]
theorem BD (ι:Inj):∀ (l:List Value),VRs ι (l.map pe) l
 |[]=>by simp[VRs]
 |v::l=>by simp only[List.map_cons,VRs];exact⟨EG ι v,BD ι l⟩
theorem jJ (ι:Inj)(v:Value):VR ι (ofV v) v:=by
 unfold ofV
 split
 ·simp only[VR];exact⟨_,rfl,BD ι _⟩
 ·simp only[VR];exact⟨_,rfl,by simp[VRs]⟩
 ·exact EG ι v
end Go.Am
end
