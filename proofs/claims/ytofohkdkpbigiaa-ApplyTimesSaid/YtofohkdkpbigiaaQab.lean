/-
  A part of the texts.
-/
import Derived.Test.YtofohkdkpbigiaaQaa
section
namespace Go.Am
noncomputable section
def kN {β:Type}(m:Nat)(k:Nat→β):β:=match m with
 |0=>k 0
 |n+1=>k (Nat.succ n)
def Tr.lP {α:Type}:List α→Nat→Tr α→Tr α
 |[],_,t=>t
 |x::xs,i,t=>t.nw i x fun t=>kN i fun i=>lP xs (i+1) t
def Tr.of {α:Type}(l:List α):Tr α:=Tr.lP l 0 .e
structure Str where
 len:Nat
 val:Nat
def fW (l:List UInt8):Nat:=l.foldl (fun a b=>a*256+b.toNat) 0
def Str.of (b:ByteArray):Str:=⟨b.data.toList.length,fW b.data.toList⟩
def Str.cat (a b:Str):Str:=⟨a.len+b.len,a.val*256^b.len+b.val⟩
def Str.at (s:Str)(i:Nat):Nat:=s.val/256^ (s.len- 1- i) % 256
def Str.sub (s:Str)(l h:Nat):Str:=⟨h- l,s.val/256^ (s.len- h) % 256^ (h- l)⟩
def Str.beq (a b:Str):Bool:=Nat.beq a.len b.len&&Nat.beq a.val b.val
def Str.lt (a b:Str):Bool:=
 let m:=min a.len b.len
 let x:=a.val/256^ (a.len- m)
 let y:=b.val/256^ (b.len- m)
 Nat.blt x y|| (Nat.beq x y&&Nat.blt a.len b.len)
inductive AV where
 |top
 |bool (b:Bool)
 |int (k:IntKind) (n:Int)
 |flt (k:FloatKind) (bits:Nat)
 |str (s:Str)
 |ptr (a:Option (Nat×Nat))
 |slc (a:Option (Nat×Nat×Nat)) (len cap:Nat) (exact:Bool)
 |map (r:Option Nat)
 |func (fn:Fn) (first captured:List AV)
 |nilFunc
 |iface (t:TypeId) (v:AV)
 |nilIface
 |agg (cs:List AV)
 |tup (vs:List AV)
 |any
 |yld (b:Nat)
 |gp (g off:Nat)
 |cls (k:IntKind) (b m r:Nat)
 |ne (k:IntKind) (n:Int)
instance:Inhabited AV:=⟨.top⟩
def pk:Value→AV
 | .bool b=> .bool b
 | .int k n=> .int k n
 | .float k b=> .flt k b
 | .string s=> .str (Str.of s)
 | .pointer none=> .ptr none
 | .slice none 0 0=> .slc none 0 0 true
 | .map none=> .map none
 | .nilFunc=> .nilFunc
 | .nilIface=> .nilIface
 | _=> .top
def ofV:Value→AV
 | .agg cs=> .agg (cs.toList.map pk)
 | .tuple ⟨[]⟩=> .tup []
 |v=>pk v
def AV.cells:AV→List AV
 | .agg cs=>cs
 |v=>[v]
def AV.one:AV→Bool
 | .top| .agg _| .tup _=>false
 | _=>true
def aX:List AV→Bool
 |[]=>true
 |v::vs=>v.one&&aX vs
mutual
def AV.same:AV→AV→Bool
 | .bool a, .bool b=>a==b
 | .int j a, .int k b=>decide (j=k)&&decide (a=b)
 | .flt j a, .flt k b=>decide (j=k)&&Nat.beq a b
 | .str a, .str b=>a.beq b
 | .ptr a, .ptr b=>decide (a=b)
 | .slc a n c x, .slc b m d y=>decide (a=b)&&Nat.beq n m&&Nat.beq c d&& (x==y)
 | .map a, .map b=>decide (a=b)
 | .func f a b, .func g c d=>decide (f=g)&&ja a c&&ja b d
 | .nilFunc, .nilFunc=>true
 | .nilIface, .nilIface=>true
 | .any, .any=>true
 | .yld a, .yld b=>Nat.beq a b
 | .gp a o, .gp b p=>Nat.beq a b&&Nat.beq o p
 | .cls j a m r, .cls k b n s=>decide (j=k)&& (Nat.beq a b&& (Nat.beq m n&&Nat.beq r s))
 | .ne j a, .ne k b=>decide (j=k)&&decide (a=b)
 | .iface t v, .iface u w=>decide (t=u)&&v.same w
 | .agg a, .agg b=>ja a b
 | .tup a, .tup b=>ja a b
 | _,_=>false
def ja:List AV→List AV→Bool
 |[],[]=>true
 |a::QE,b::bs=>a.same b&&ja QE bs
 | _,_=>false
end
inductive LSt where
 |ready
 |busy
 |done (jump:Code)
inductive AB where
 |cells (c:Tr AV) (n:Nat)
 |map (es:List (AV×AV))
 |loop (t:Tr AV) (ps:List Nat) (assign body:Code) (st:LSt)
 |dfr
structure St where
 h:Tr AB
 nx:Nat
 gl:Tr (Tr AV)
 sh:List Nat
def St.new (s:St)(b:AB):Nat×St:=(s.nx,{s with h:=s.h.put s.nx b,nx:=s.nx+1})
def St.jN (s:St)(c:Tr AV)(n:Nat):Nat×St:=kT c fun c=>kN n fun n=>s.new (.cells c n)
def St.qF (s:St)(b:Nat)(c:Tr AV)(n:Nat):St:=kT c fun c=>{s with h:=s.h.put b (.cells c n)}
def St.cells (s:St)(b:Nat):Option (Tr AV×Nat):=
 match s.h.get b with
 |some (.cells c n)=>some (c,n)
 | _=>none
section
variable {β:Type}
def kI (i:Int)(k:Int→β):β:=match i with
 | .ofNat m=>kN m fun m=>k (.ofNat m)
 | .negSucc m=>kN m fun m=>k (.negSucc m)
def kB (b:Bool)(k:Bool→β):β:=match b with
 |true=>k true
 |false=>k false
def kA (a:Option (Nat×Nat))(k:Option (Nat×Nat)→β):β:=match a with
 |none=>k none
 |some (b,o)=>kN b fun b=>kN o fun o=>k (some (b,o))
def kA3 (a:Option (Nat×Nat×Nat))(k:Option (Nat×Nat×Nat)→β):β:=match a with
 |none=>k none
 |some (b,o,e)=>kN b fun b=>kN o fun o=>kN e fun e=>k (some (b,o,e))
def kV0 (v:AV)(k:AV→β):β:=match v with
 | .bool b=>kB b fun b=>k (.bool b)
 | .int d n=>kI n fun n=>k (.int d n)
 | .flt d n=>kN n fun n=>k (.flt d n)
 | .str ⟨n,x⟩=>kN n fun n=>kN x fun x=>k (.str ⟨n,x⟩)
 | .ptr a=>kA a fun a=>k (.ptr a)
 | .slc a n c x=>kA3 a fun a=>kN n fun n=>kN c fun c=>kB x fun x=>k (.slc a n c x)
 | .map none=>k (.map none)
 | .map (some r)=>kN r fun r=>k (.map (some r))
 | .yld r=>kN r fun r=>k (.yld r)
 | .gp g o=>kN g fun g=>kN o fun o=>k (.gp g o)
 |v=>k v
def kL:List AV→(List AV→β)→β
 |[],k=>k []
 |v::vs,k=>kV0 v fun v=>kL vs fun vs=>k (v::vs)
def kV (v:AV)(k:AV→β):β:=match v with
 | .agg cs=>kL cs fun cs=>k (.agg cs)
 | .tup vs=>kL vs fun vs=>k (.tup vs)
 | .func f a b=>kL a fun a=>kL b fun b=>k (.func f a b)
 | .iface t v=>kV0 v fun v=>k (.iface t v)
 |v=>kV0 v k
def kS (s:St)(k:St→β):β:=match s with
 |⟨h,nx,gl,sh⟩=>kT h fun h=>kN nx fun nx=>k ⟨h,nx,gl,sh⟩
def kP:List (AV×AV)→(List (AV×AV)→β)→β
 |[],k=>k []
 |(a,v)::es,k=>kV a fun a=>kV v fun v=>kP es fun es=>k ((a,v)::es)
end
def St.xh (s:St)(b:Nat)(es:List (AV×AV)):St:=kP es fun es=>{s with h:=s.h.put b (.map es)}
def ldL (c:Tr AV):Nat→Nat→Option (List AV)
 | _,0=>some []
 |i,n+1=>match c.get i with
  |some v=>match ldL c (i+1) n with
   |some l=>some (v::l)
   |none=>none
  |none=>none
def stL:List AV→Nat→Tr AV→Option (Tr AV)
 |[],_,c=>some c
 |v::vs,i,c=>match c.get i with
  |some _=>kV0 v fun v=>kT (c.put i v) fun c=>stL vs (i+1) c
  |none=>none
structure Ctx where
 fns:Tr Func
 tys:Tr TypeInfo
 eqs:List TypeId
def Ctx.of (P:Program)(eqs:List TypeId):Ctx:={fns:=Tr.of P.funcs.toList,tys:=Tr.of P.types.toList,eqs}
def du (n:Nat):List Nat→Bool
 |[]=>false
 |m::l=>match Nat.beq n m with
  |true=>true
  |false=>du n l
def Ctx.und (X:Ctx)(t:TypeId):Option TypeDesc:=
 match X.tys.get t with
 |some i=>match i.desc with
  | .named _ u=>match X.tys.get u with
   |some j=>some j.desc
   |none=>none
  |d=>some d
 |none=>none
def Ctx.size (X:Ctx)(t:TypeId):Option Nat:=
 match X.tys.get t with
 |some i=>some i.size
 |none=>none
def Ctx.elem (X:Ctx)(t:TypeId):Option Nat:=
 match X.tys.get t with
 |some i=>match i.zero with
  |some z=>match Nat.ble i.bytes 1048576&&Nat.ble 1 i.size&&Nat.beq z.cells.size i.size&&Nat.ble i.size 1048576 with
   |true=>some i.size
   |false=>none
  |none=>none
 |none=>none
def mL:TypeDesc→Bool
 | .struct _| .array _ _=>true
 | _=>false
def Ctx.zero (X:Ctx)(t:TypeId):Option AV:=
 match X.tys.get t with
 |some i=>match i.zero with
  |some z=>some (ofV z)
  |none=>none
 |none=>none
structure qC where
 fn:FuncId
 args:List AV
inductive DE where
 |fn (d:qC)
 |mark (b:Nat)
structure Fr where
 t:Tr AV
 d:List DE
def Fr.opd (fr:Fr):Operand→AV
 | .tmp t=>match fr.t.get t with
  |some v=>v
  |none=> .top
 | .const v=>ofV v
 | .global g=> .gp g 0
 | .func f=> .func (.func f) [] []
def Fr.put (fr:Fr)(d:Option Nat)(v:AV):Fr:=
 match d with
 |some t=>{fr with t:=fr.t.put t v}
 |none=>fr
inductive OR where
 |old (v:AV)
 |pure (v:AV)
 |val (v:AV) (s:St)
 |call (f:FuncId) (args:List AV)
 |round (b:Nat) (args:List AV)
 |dfr (d:qC)
 |pan (v:AV)
def fits (k:IntKind)(n:Int):Bool:=
 match n with
 | .ofNat m=>match k with
  | .i8=>Nat.blt m 128| .i16=>Nat.blt m 32768| .i32=>Nat.blt m 2147483648| .i64=>Nat.blt m 9223372036854775808
  | .u8=>Nat.blt m 256| .u16=>Nat.blt m 65536| .u32=>Nat.blt m 4294967296| .u64=>Nat.blt m 18446744073709551616
 | .negSucc m=>match k with
  | .i8=>Nat.blt m 128| .i16=>Nat.blt m 32768| .i32=>Nat.blt m 2147483648| .i64=>Nat.blt m 9223372036854775808
  | _=>false
def wr (k:IntKind)(n:Int):Int:=match fits k n with
 |true=>n
 |false=>k.wrap n
def bitsOf (op:BinOp)(k:IntKind)(x y:Int):Option Int:=
 let a:=(x % (2^k.bits:Int)).toNat
 let b:=(y % (2^k.bits:Int)).toNat
 match op with
 | .and=>some (wr k (Nat.land a b))
 | .or=>some (wr k (Nat.lor a b))
 | .xor=>some (wr k (Nat.xor a b))
 | .andNot=>some (wr k (Nat.land a (2^k.bits- 1- b)))
 | _=>none
def jJ (op:BinOp)(k:IntKind)(x y:Int):Option AV:=
 match op with
 | .add=>some (.int k (wr k (x+y)))
 | .sub=>some (.int k (wr k (x- y)))
 | .mul=>some (.int k (wr k (x*y)))
 | .quo=>if y=0 then none else some (.int k (wr k (x.tdiv y)))
 | .rem=>if y=0 then none else some (.int k (x.tmod y))
 | .eql=>some (.bool (decide (x=y)))
 | .neq=>some (.bool (!decide (x=y)))
 | .lss=>some (.bool (decide (x<y)))
 | .leq=>some (.bool (decide (x≤y)))
 | .gtr=>some (.bool (decide (y<x)))
 | .geq=>some (.bool (decide (y≤x)))
 |op=>match bitsOf op k x y with
  |some r=>some (.int k r)
  |none=>none
def oa (op:BinOp)(k:IntKind)(x y:Int):Option AV:=
 if y<0 then none else
  let n:=min y.toNat k.bits
  match op with
  | .shl=>some (.int k (wr k (x*2^n)))
  | .shr=>some (.int k (x.fdiv (2^n)))
  | _=>none
def B2 (op:BinOp)(x y:Str):Option AV:=
 match op with
 | .add=>if Nat.ble (x.len+y.len) 9223372036854775807 then some (.str (x.cat y)) else none
 | .eql=>some (.bool (x.beq y))
 | .neq=>some (.bool (!x.beq y))
 | .lss=>some (.bool (x.lt y))
 | .leq=>some (.bool (x.lt y||x.beq y))
 | .gtr=>some (.bool (!(x.lt y||x.beq y)))
 | .geq=>some (.bool (!x.lt y))
 | _=>none
def partAt (X:Ctx)(t:TypeId)(cs:List AV)(off:Nat):Option AV:=
 match X.und t,X.size t with
 |some d,some n=>match mL d with
  |true=>match Nat.ble (off+n) cs.length with
   |true=>some (.agg ((cs.drop off).take n))
   |false=>none
  |false=>cs[off]?
 | _,_=>none
def eqFields (X:Ctx)(eq:TypeId→AV→AV→Option Bool)(xs ys:List AV):List Field→Option Bool
 |[]=>some true
 |fd::fds=>
  if fd.name= "_" then none else
  match partAt X fd.type xs fd.offset,partAt X fd.type ys fd.offset with
  |some a,some b=>match eq fd.type a b with
   |some true=>eqFields X eq xs ys fds
   |r=>r
  | _,_=>none
def iU (X:Ctx):Nat→TypeId→AV→AV→Option Bool
 |0,_,_,_=>none
 |f+1,t,x,y=>
  match X.und t,x,y with
  |some .bool, .bool a, .bool b=>some (a==b)
  |some (.int _), .int j a, .int k b=>if j=k then some (decide (a=b)) else none
  |some .string, .str a, .str b=>some (a.beq b)
  |some (.pointer _), .ptr none, .ptr b=>some b.isNone
  |some (.pointer _), .ptr (some _), .ptr none=>some false
  |some (.slice _), .slc none _ _ _, .slc b _ _ _=>some b.isNone
  |some (.slice _), .slc (some _) _ _ _, .slc none _ _ _=>some false
  |some (.map _ _), .map none, .map b=>some b.isNone
  |some (.map _ _), .map (some _), .map none=>some false
  |some (.interface ms), .nilIface, .nilIface=>match ms.toList with
   |[]=>some true
   | _=>none
  |some (.interface _), .nilIface, .iface _ _=>some false
  |some (.interface _), .iface _ _, .nilIface=>some false
  |some (.struct fs), .agg xs, .agg ys=>match du t X.eqs with
   |true=>eqFields X (iU X f) xs ys fs.toList
   |false=>none
  |some (.func _ _ _), .nilFunc, .nilFunc=>some true
  |some (.func _ _ _), .nilFunc, .func _ _ _=>some false
  |some (.func _ _ _), .func _ _ _, .nilFunc=>some false
  | _,_,_=>none
def vB (k:FloatKind):Option Nat→Option AV
 |some r=>some (.flt k r)
 |none=>none
def BS (op:BinOp)(k:FloatKind)(x y:Nat):Option AV:=match op with
 | .eql=>some (.bool (k.format.order x y==some .eq))
 | .neq=>some (.bool (k.format.order x y != some .eq))
 | .lss=>some (.bool (k.format.order x y==some .lt))
 | .leq=>some (.bool (k.format.order x y==some .lt||k.format.order x y==some .eq))
 | .gtr=>some (.bool (k.format.order x y==some .gt))
 | .geq=>some (.bool (k.format.order x y==some .gt||k.format.order x y==some .eq))
 | .add=>vB k (k.format.add x y)
 | .sub=>vB k (k.format.sub x y)
 | .mul=>vB k (k.format.mul x y)
 | .quo=>vB k (k.format.div x y)
 | _=>none
def fL (X:Ctx)(op:BinOp)(t:TypeId)(x y:AV):Option AV:=
 match x,y with
 | .flt k a, .flt j b=>if k=j then BS op k a b else none
 | .int k a, .int j b=>match op with
  | .shl| .shr=>oa op k a b
  |op=>if k=j then jJ op k a b else none
 | .str a, .str b=>B2 op a b
 |x,y=>match op with
  | .eql=>match iU X 20 t x y with
   |some b=>some (.bool b)
   |none=>none
  | .neq=>match iU X 20 t x y with
   |some b=>some (.bool (!b))
   |none=>none
  | _=>none
def qc:Operand→Bool
 | .const _=>true
 | _=>false
def zG (X:Ctx)(op:BinOp)(t:TypeId):Option AV:=match X.und t with
 |some (.interface _)=>match op with
  | .eql=>some (.bool true)
  | .neq=>some (.bool false)
  | _=>none
 | _=>none
def Hs (op:BinOp)(k:IntKind)(m r d:Nat)(j:IntKind):Option AV:=match op with
 | .rem=>match decide (k=j)&& (Nat.blt 0 d&&Nat.beq (m % d) 0) with
  |true=>some (.int k (r % d:Nat))
  |false=>none
 | _=>none
def yo (op:BinOp)(k j:IntKind)(n m:Int):Option AV:=match decide (k=j)&&decide (n=m) with
 |true=>match op with
  | .eql=>some (.bool false)
  | .neq=>some (.bool true)
  | _=>none
 |false=>none
def aU (X:Ctx)(op:BinOp)(t:TypeId)(c:Bool)(x y:AV):Option AV:=match x,y with
 | .nilIface, .nilIface=>match c with
  |true=>zG X op t
  |false=>fL X op t .nilIface .nilIface
 | .cls k _ m r, .int j (.ofNat d)=>Hs op k m r d j
 | .ne k n, .int j m=>yo op k j n m
 | .int j m, .ne k n=>yo op k j n m
 |x,y=>fL X op t x y
def EW (op:UnOp)(x:AV):Option AV:=
 match op,x with
 | .not, .bool b=>some (.bool (!b))
 | .neg, .int k n=>some (.int k (wr k (0- n)))
 | .xor, .int k n=>match bitsOf .xor k (if k.signed then-1 else k.max) n with
  |some r=>some (.int k r)
  |none=>none
 | _,_=>none
def db:List AV→Nat→List AV→List AV
 |cs,_,[]=>cs
 |cs,off,v::vs=>db (cs.set off v) (off+1) vs
def cO (place:Nat→Option (Nat×Nat)):List (Nat×AV)→List AV→Option (List AV)
 |[],cells=>some cells
 |(i,v)::rest,cells=>match place i with
  |some (off,size)=>match v with
   | .top=>none
   |v=>if Nat.beq v.cells.length size&&Nat.ble (off+size) cells.length then cO place rest (db cells off v.cells) else none
  |none=>none
def kR (z:List AV):Nat→List AV
 |0=>[]
 |n+1=>z++kR z n
def bytesOf:List AV→Option Str
 |l=>go l ⟨0,0⟩
where
 go:List AV→Str→Option Str
  |[],s=>some s
  | .int .u8 n::l,s=>if 0≤n∧n<256 then go l ⟨s.len+1,s.val*256+n.toNat⟩ else none
  | _,_=>none
def fM (s:Str):Nat→List AV
 |0=>[]
 |n+1=> .int .u8 (s.at (s.len- (n+1)))::fM s n
def kC (v:AV)(y:Nat):Option Nat:=
 match v with
 | .int _ (.ofNat i)=>if Nat.ble i y then some i else none
 | _=>none
def fA (a b:AV):Option Bool:=
 match a,b with
 | .int j x, .int k y=>if j=k then some (decide (x=y)) else none
 | .str x, .str y=>some (x.beq y)
 | .bool x, .bool y=>some (x==y)
 | _,_=>none
def nk (k:AV):List (AV×AV)→Option (Option AV)
 |[]=>some none
 |(a,v)::es=>match fA k a with
  |some true=>some (some v)
  |some false=>nk k es
  |none=>none
def nw (k x:AV):List (AV×AV)→Option (List (AV×AV))
 |[]=>some [(k,x)]
 |(a,v)::es=>match fA k a with
  |some true=>some ((a,x)::es)
  |some false=>match nw k x es with
   |some l=>some ((a,v)::l)
   |none=>none
  |none=>none
def Hb (k:AV):List (AV×AV)→Option (List (AV×AV))
 |[]=>some []
 |(a,v)::es=>match fA k a with
  |some true=>some es
  |some false=>match Hb k es with
   |some l=>some ((a,v)::l)
   |none=>none
  |none=>none
def plainKey:TypeDesc→AV→Bool
 | .int _, .int _ _=>true
 | .string, .str _=>true
 | .bool, .bool _=>true
 | _,_=>false
def oJ (X:Ctx)(t:TypeId)(x:AV)(s:St):Option AV:=
 match X.und t,x with
 |some .string, .str a=>some (.int .i64 a.len)
 |some (.array n _),_=>some (.int .i64 n)
 |some (.slice _), .slc _ n _ _=>some (.int .i64 n)
 |some (.map _ _), .map none=>some (.int .i64 0)
 |some (.map _ _), .map (some r)=>match s.h.get r with
  |some (.map es)=>some (.int .i64 es.length)
  | _=>none
 | _,_=>none
def bb (s:St)(size:Nat):AV→Option (Nat×List AV)
 | .slc none n _ _=>if Nat.beq n 0 then some (0,[]) else none
 | .slc (some (b,off,_)) n _ _=>match Nat.beq n 0 with
  |true=>some (0,[])
  |false=>match s.cells b with
   |some (c,_)=>match ldL c off (n*size) with
    |some l=>some (n,l)
    |none=>none
   |none=>none
 | .str a=>match Nat.beq size 1 with
  |true=>some (a.len,fM a a.len)
  |false=>none
 | _=>none
def uz (base:Option (Nat×Nat×Nat))(len n cap size:Nat)(exact:Bool)(new:List AV)(s:St):Option OR:=match base with
 |some (b,off,es)=>match s.cells b with
  |some (c,m)=>match stL new (off+len*size) c with
   |some c'=>some (.val (.slc (some (b,off,es)) (len+n) cap exact) (s.qF b c' m))
   |none=>none
  |none=>none
 |none=>none
def jT (off len size m:Nat)(c:Tr AV)(new:List AV):Option (Tr AV):=match Nat.beq off 0&&Nat.beq m (len*size) with
 |true=>match ldL c 0 (len*size) with
  |some _=>some (Tr.lP new (len*size) c)
  |none=>none
 |false=>match ldL c off (len*size) with
  |some old=>some (Tr.of (old++new))
  |none=>none
def jK:Nat:=1099511627776
def cf (m:Nat):Nat:=match Nat.blt m jK with
 |true=>0
 |false=>jK
def qX (b m:Nat)(len n size:Nat)(exact:Bool)(s:St):Option (Tr AV)→Option OR
 |some c'=>
  let r:=St.jN (match exact with|true=>s|false=>{s with h:=s.h.del b,sh:=s.nx::s.sh}) c' ((len+n)*size+cf m)
  some (.val (.slc (some (r.1,0,size)) (len+n) (len+n) false) r.2)
 |none=>none
def kW (base:Option (Nat×Nat×Nat))(len n size:Nat)(exact:Bool)(new:List AV)(s:St):Option OR:=match base with
 |none=>
  let r:=s.jN (Tr.of new) new.length
  some (.val (.slc (some (r.1,0,size)) n n false) r.2)
 |some (b,off,es)=>match Nat.beq es size,s.cells b with
  |true,some (c,m)=>qX b m len n size exact s (jT off len size m c new)
  | _,_=>none
def rq (base:Option (Nat×Nat×Nat))(len cap size n:Nat)(exact:Bool)(new:List AV)(s:St):Option OR:=
 match Nat.beq n 0 with
 |true=>some (.old (.slc base len cap exact))
 |false=>match aX new with
  |false=>none
  |true=>match Nat.ble (len+n) cap with
   |true=>uz base len n cap size exact new s
   |false=>match Nat.ble (len+n) 1000000 with
    |true=>kW base len n size exact new s
    |false=>none
def cL (X:Ctx)(st:TypeId)(x y:AV)(s:St):Option OR:=
 match X.und st with
 |some (.slice elem)=>match X.elem elem,x with
  |some size, .slc base len cap exact=>match bb s size y with
   |some (n,new)=>rq base len cap size n exact new s
   |none=>none
  | _,_=>none
 | _=>none
def lenOf:AV→Option Nat
 | .slc _ n _ _=>some n
 | .str a=>some a.len
 | _=>none
def cutAt (n:Nat):AV→AV
 | .slc a _ _ _=> .slc a n n false
 | .str a=> .str (a.sub 0 n)
 |v=>v
def wC (base:Option (Nat×Nat×Nat))(n:Nat)(s:St):Option (Nat×List AV)→Option OR
 |some (_,new)=>match base with
  |none=>some (.pure (.int .i64 n))
  |some (b,off,_)=>match Nat.beq n 0,aX new,s.cells b with
   |true,_,_=>some (.pure (.int .i64 n))
   |false,true,some (c,k)=>match stL new off c with
    |some c'=>some (.val (.int .i64 n) (s.qF b c' k))
    |none=>none
   | _,_,_=>none
 |none=>none
def Db (s:St)(size:Nat)(base:Option (Nat×Nat×Nat))(len:Nat)(y:AV):Option Nat→Option OR
 |some m=>wC base (min m len) s (bb s size (cutAt (min m len) y))
 |none=>none
def jj (X:Ctx)(dt:TypeId)(x y:AV)(s:St):Option OR:=
 match X.und dt with
 |some (.slice elem)=>match X.size elem,x with
  |some size, .slc base len _ _=>Db s size base len y (lenOf y)
  | _,_=>none
 | _=>none
def EY:List AV→Option AV
 |[]=>none
 | .int k x::rest=>go k x rest
 | _=>none
where
 go (k:IntKind) (x:Int):List AV→Option AV
  |[]=>some (.int k x)
  | .int _ y::l=>go k (if x<y then y else x) l
  | _=>none
def F7:List AV→Option AV
 |[]=>none
 | .int k x::rest=>go k x rest
 | _=>none
where
 go (k:IntKind) (x:Int):List AV→Option AV
  |[]=>some (.int k x)
  | .int _ y::l=>go k (if y<x then y else x) l
  | _=>none
def sT:Option AV→Option OR
 |some v=>some (.old v)
 |none=>none
def jf:Option AV→Option OR
 |some v=>some (.pure v)
 |none=>none
def Bh (X:Ctx)(t:TypeId)(x:AV):Option AV:=match x with
 | .slc _ _ c true=>match X.und t with
  |some (.slice _)=>some (.int .i64 c)
  | _=>none
 | _=>none
def sF (X:Ctx)(t:TypeId):AV→AV→St→Option OR
 | .slc (some b) len cap true, .int .i64 (.ofNat k),s=>match X.und t with
  |some (.slice e)=>match X.elem e,X.zero e with
   |some size,some z=>match Nat.blt cap (len+k)&& (Nat.ble (len+k) 1000000&& (aX z.cells&&Nat.beq z.cells.length size)) with
    |true=>kW (some b) len k size true (kR z.cells k) s
    |false=>none
   | _,_=>none
  | _=>none
 | _,_,_=>none
def jO (X:Ctx)(t u:TypeId)(x y:AV)(s:St):Option OR:=match X.und u with
 |some (.slice _)=>cL X t x y s
 |some .string=>cL X t x y s
 |some (.int _)=>sF X t x y s
 | _=>none
def I2 (X:Ctx)(t:TypeId)(m k:AV)(s:St):Option OR:=match m,X.und t with
 | .map (some r),some (.map kt _)=>match X.und kt,s.h.get r with
  |some d,some (.map es)=>match plainKey d k,Hb k es with
   |true,some es'=>some (.val (.tup []) (s.xh r es'))
   | _,_=>none
  | _,_=>none
 | _,_=>none
def tY (f:AV→Option OR):List AV→Option OR
 |[x]=>f x
 | _=>none
def yG (f:AV→AV→Option OR):List AV→Option OR
 |[x,y]=>f x y
 | _=>none
def dP (X:Ctx)(b:Builtin)(ts:List TypeId)(args:List AV)(s:St):Option OR:=
 match b with
 | .len=>match ts with
  |[t]=>tY (fun x=>jf (oJ X t x s)) args
  | _=>none
 | .cap=>match ts with
  |[t]=>tY (fun x=>jf (Bh X t x)) args
  | _=>none
 | .append=>match ts with
  |t::u::_=>yG (fun x y=>jO X t u x y s) args
  | _=>none
 | .copy=>match ts with
  |t::_=>yG (fun x y=>jj X t x y s) args
  | _=>none
 | .max=>jf (EY args)
 | .min=>jf (F7 args)
 | .delete=>match ts with
  |t::_=>yG (fun x y=>I2 X t x y s) args
  | _=>none
 | _=>none
def tm (f:AV)(args:List AV):Option OR:=
 match f with
 | .func (.func g) first captured=>some (.call g (first++args++captured))
 | .yld b=>some (.round b args)
 | _=>none
def tL (lo:Option AV)(h:Nat):Option Nat:=match lo with
 |some v=>kC v h
 |none=>some 0
def nP (hi mx:Option AV)(m len:Nat):Option Nat:=match hi with
 |some v=>kC v m
 |none=>match mx with
  |some _=>none
  |none=>some len
def tV (mx:Option AV)(cap:Nat):Option Nat:=match mx with
 |some v=>kC v cap
 |none=>some cap
def oL (lo hi mx:Option AV)(len cap:Nat):Option (Nat×Nat×Nat):=match tV mx cap with
 |some m=>match nP hi mx m len with
  |some h=>match tL lo h with
   |some l=>some (l,h,m)
   |none=>none
  |none=>none
 |none=>none
def rN (a:Str):Option (Nat×Nat×Nat)→Option AV
 |some (l,h,_)=>some (.str (a.sub l h))
 |none=>none
def mq (a:Option (Nat×Nat×Nat))(size l h m:Nat)(ex:Bool):Option AV:=match a with
 |none=>some (.slc none (h- l) (m- l) true)
 |some (b,off,es)=>match Nat.beq es size,Nat.beq l 0,Nat.beq m l,ex with
  |true,true,_,_=>some (.slc (some (b,off,es)) (h- l) (m- l) ex)
  |true,false,false,_=>some (.slc (some (b,off+l*size,es)) (h- l) (m- l) ex)
  |true,false,true,true=>some (.slc (some (b,off,es)) (h- l) (m- l) true)
  |true,false,true,false=>some (.slc (some (b,off,es)) 0 0 false)
  |false,_,_,_=>none
def Bg (mx:Option AV)(exact:Bool)(cap:Nat):Bool:=match mx with
 |some _=>exact||Nat.blt 0 cap
 |none=>exact
def qI (X:Ctx)(elem:TypeId)(a:Option (Nat×Nat×Nat))(cap:Nat)(exact:Bool)(mx:Option AV):Option (Nat×Nat×Nat)→Option AV
 |some (l,h,m)=>match X.size elem with
  |some size=>mq a size l h m (Bg mx exact cap)
  |none=>none
 |none=>none
def C2 (X:Ctx)(s:St)(elem n b off:Nat):Option (Nat×Nat×Nat)→Option AV
 |some (l,h,m)=>match X.size elem,s.cells b with
  |some size,some (c,_)=>match Nat.blt 0 size&&Nat.blt 0 n,Nat.beq m l,c.get (off+n*size- 1) with
   |true,true,some _=>some (.slc (some (b,off,size)) (h- l) (m- l) true)
   |true,false,some _=>some (.slc (some (b,off+l*size,size)) (h- l) (m- l) true)
   | _,_,_=>none
  | _,_=>none
 |none=>none
def cN (X:Ctx)(s:St)(t:TypeId)(x:AV)(lo hi mx:Option AV):Option AV:=
 match X.und t,x with
 |some .string, .str a=>match mx with
  |some _=>none
  |none=>rN a (oL lo hi none a.len a.len)
 |some (.slice elem), .slc a len cap exact=>qI X elem a cap exact mx (oL lo hi mx len cap)
 |some (.array n elem), .ptr (some (b,off))=>C2 X s elem n b off (oL lo hi mx n n)
 | _,_=>none
def parts (fr:Fr)(ps:Array (Nat×Operand)):List (Nat×AV):=ps.toList.map fun(i,x)=>(i,fr.opd x)
def cI (X:Ctx):List Field→Option (List (Nat×Nat))
 |[]=>some []
 |f::fs=>match X.size f.type with
  |some n=>match cI X fs with
   |some l=>some ((f.offset,n)::l)
   |none=>none
  |none=>none
def loadT (X:Ctx)(t:TypeId)(a:AV)(s:St):Option AV:=
 match a with
 | .ptr (some (b,off))=>match s.cells b with
  |some (c,_)=>match X.und t,X.size t with
   |some d,some n=>match mL d with
    |true=>match ldL c off n with
     |some l=>some (.agg l)
     |none=>none
    |false=>c.get off
   | _,_=>none
  |none=>none
 | .gp g off=>match s.gl.get g with
  |some c=>match X.und t with
   |some d=>match mL d with
    |true=>none
    |false=>c.get off
   |none=>none
  |none=>none
 | _=>none
def storeT (X:Ctx)(t:TypeId)(a v:AV)(s:St):Option St:=
 match a with
 | .ptr (some (b,off))=>match s.cells b with
  |some (c,m)=>match X.size t,aX v.cells with
   |some n,true=>match Nat.beq v.cells.length n with
    |true=>match stL v.cells off c with
     |some c'=>some (s.qF b c' m)
     |none=>none
    |false=>none
   | _,_=>none
  |none=>none
 | _=>none
def dD (cs:List AV)(s:St):Option OR:=
 match aX cs with
 |true=>
  let r:=s.jN (Tr.of cs) cs.length
  some (.val (.ptr (some (r.1,0))) r.2)
 |false=>none
def qo (c a b:AV):Option OR:=match c with
 | .bool true=>some (.old a)
 | .bool false=>some (.old b)
 | _=>none
def iT (X:Ctx)(t:TypeId)(s:St):Option OR:=match X.zero t with
 |some z=>dD z.cells s
 |none=>none
def dS (x:AV)(s:St):Option OR:=match x with
 | .top=>none
 |v=>dD v.cells s
def eL:Option (List AV)→Option OR
 |some cs=>some (.pure (.agg cs))
 |none=>none
def vZ (X:Ctx)(elem:TypeId)(z:AV)(ps:List (Nat×AV)):Option OR:=match X.size elem with
 |some n=>eL (cO (fun i=>some (i*n,n)) ps z.cells)
 |none=>none
def bZ (z:AV)(ps:List (Nat×AV)):Option (List (Nat×Nat))→Option OR
 |some pl=>eL (cO (fun i=>pl[i]?) ps z.cells)
 |none=>none
def bf (X:Ctx)(t:TypeId)(ps:List (Nat×AV)):Option OR:=match X.zero t,X.und t with
 |some z,some (.struct fs)=>bZ z ps (cI X fs.toList)
 |some z,some (.array _ elem)=>vZ X elem z ps
 | _,_=>none
def eV (cs:List AV)(len size:Nat)(s:St):Option OR:=match aX cs with
 |true=>
  let r:=s.jN (Tr.of cs) cs.length
  some (.val (.slc (some (r.1,0,size)) len len true) r.2)
 |false=>none
def dQ (n:Nat)(z:AV)(len:Nat)(ps:List (Nat×AV))(s:St):Option OR:=
 match cO (fun i=>some (i*n,n)) ps (kR z.cells len) with
 |some cs=>eV cs len n s
 |none=>none
def bh (X:Ctx)(t:TypeId)(len:Nat)(ps:List (Nat×AV))(s:St):Option OR:=match X.und t with
 |some (.slice elem)=>match X.size elem,X.zero elem with
  |some n,some z=>match Nat.ble (len*n) 100000&&Nat.beq z.cells.length n&&Nat.blt 0 n with
   |true=>dQ n z len ps s
   |false=>none
  | _,_=>none
 | _=>none
def cF (X:Ctx)(t:TypeId)(a x:AV)(s:St):Option OR:=match storeT X t a x s with
 |some s'=>some (.val (.tup []) s')
 |none=>none
def tJ (x:AV):Option OR:=match x with
 | .ptr (some a)=>some (.old (.ptr (some a)))
 | .func (.func f) a b=>some (.old (.func (.func f) a b))
 | .iface t v=>some (.old (.iface t v))
 | .yld b=>some (.old (.yld b))
 | .gp g o=>some (.old (.gp g o))
 | _=>none
def iG (X:Ctx)(e:TypeId)(v:Str)(s:St):Option OR:=match X.und e with
 |some (.int .u8)=>match Nat.ble v.len 1000000 with
  |true=>
   let r:=s.jN (Tr.of (fM v v.len)) (v.len+jK)
   some (.val (.slc (some (r.1,0,1)) v.len v.len false) r.2)
  |false=>none
 | _=>none
def pK (X:Ctx)(e:TypeId)(a:Option (Nat×Nat×Nat))(n:Nat)(s:St):Option OR:=match X.und e with
 |some (.int .u8)=>match bb s 1 (.slc a n n false) with
  |some (_,l)=>match bytesOf l with
   |some v=>some (.pure (.str v))
   |none=>none
  |none=>none
 | _=>none
def bG (X:Ctx)(a b:TypeId)(x:AV)(s:St):Option OR:=match X.und a,X.und b,x with
 |some _,some (.int k), .int _ n=>some (.pure (.int k (wr k n)))
 |some _,some (.int k), .cls _ b m r=>match fits k b with
  |true=>some (.pure (.cls k b m r))
  |false=>none
 |some _,some .string, .str v=>some (.old (.str v))
 |some .string,some (.slice e), .str v=>iG X e v s
 |some (.slice e),some .string, .slc a n _ _=>pK X e a n s
 | _,_,_=>none
def iz (X:Ctx)(t:TypeId)(v:AV):Option OR:=match X.und t with
 |some (.interface _)=>none
 |some _=>some (.old (.iface t v))
 |none=>none
def nI (s:St):Option OR:=
 let r:=s.new (.map [])
 some (.val (.map (some r.1)) r.2)
def mX (k:Nat)(z:AV)(n m:Nat)(s:St):Option OR:=
 match Nat.ble n m&&Nat.ble m 100000&& (aX z.cells&&Nat.beq z.cells.length k) with
 |true=>
  let r:=s.jN (Tr.of (kR z.cells m)) (m*k)
  some (.val (.slc (some (r.1,0,k)) n m true) r.2)
 |false=>none
def eu (X:Ctx)(t:TypeId)(l c:AV)(s:St):Option OR:=match X.und t,l,c with
 |some (.slice elem), .int _ (.ofNat n), .int _ (.ofNat m)=>match X.elem elem,X.zero elem with
  |some k,some z=>mX k z n m s
  | _,_=>none
 | _,_,_=>none
def bj (X:Ctx)(b off:Nat):Option Field→Option OR
 |some f=>match X.size f.type with
  |some 0=>none
  |some (_+1)=>some (.pure (.ptr (some (b,off+f.offset))))
  |none=>none
 |none=>none
def vO (X:Ctx)(g off:Nat):Option Field→Option OR
 |some f=>match X.size f.type with
  |some 0=>none
  |some (_+1)=>some (.pure (.gp g (off+f.offset)))
  |none=>none
 |none=>none
def zE (X:Ctx)(elem g off n k:Nat):Option OR:=match X.size elem,Nat.blt k n with
 |some m,true=>some (.pure (.gp g (off+k*m)))
 | _,_=>none
def ah (X:Ctx)(t:TypeId)(x:AV)(i:Nat):Option OR:=match x with
 | .gp g off=>match X.und t with
  |some (.struct fs)=>vO X g off (fs.toList[i]?)
  | _=>none
 | .ptr (some (b,off))=>match X.und t with
  |some (.struct fs)=>bj X b off (fs.toList[i]?)
  | _=>none
 | _=>none
def sd (X:Ctx)(t:TypeId)(x:AV)(i:Nat):Option OR:=match X.und t,x with
 |some (.struct fs), .agg cs=>match fs.toList[i]? with
  |some f=>sT (partAt X f.type cs f.offset)
  |none=>none
 | _,_=>none
def te (X:Ctx)(elem b off n k:Nat):Option OR:=match X.size elem,Nat.blt k n with
 |some m,true=>some (.pure (.ptr (some (b,off+k*m))))
 | _,_=>none
def fc (X:Ctx)(t:TypeId)(x i:AV):Option OR:=match X.und t,x,i with
 |some (.array n elem), .ptr (some (b,off)), .int _ (.ofNat k)=>te X elem b off n k
 |some (.array n elem), .gp g off, .int _ (.ofNat k)=>zE X elem g off n k
 |some (.slice elem), .slc (some (b,off,_)) n _ _, .int _ (.ofNat k)=>te X elem b off n k
 | _,_,_=>none
def wV (X:Ctx)(elem n k:Nat)(cs:List AV):Option OR:=match X.size elem,Nat.blt k n with
 |some m,true=>sT (partAt X elem cs (k*m))
 | _,_=>none
def mu (X:Ctx)(t:TypeId)(x i:AV):Option OR:=match X.und t,x,i with
 |some .string, .str v, .int _ (.ofNat k)=>match Nat.blt k v.len with
  |true=>some (.pure (.int .u8 (v.at k)))
  |false=>none
 |some (.array n elem), .agg cs, .int _ (.ofNat k)=>wV X elem n k cs
 | _,_,_=>none
def mapOf (x:AV)(s:St):Option (List (AV×AV)):=match x with
 | .map none=>some []
 | .map (some r)=>match s.h.get r with
  |some (.map es)=>some es
  | _=>none
 | _=>none
def oM (ok:Bool)(v:AV)(b:Bool):Option OR:=match ok with
 |true=>some (.pure (.tup [v, .bool b]))
 |false=>some (.pure v)
def vq (X:Ctx)(vt:TypeId)(ok:Bool):Option (Option AV)→Option OR
 |some (some v)=>oM ok v true
 |some none=>match X.zero vt with
  |some z=>oM ok z false
  |none=>none
 |none=>none
def eC (X:Ctx)(t:TypeId)(x k:AV)(ok:Bool)(s:St):Option OR:=match X.und t with
 |some (.map kt vt)=>match X.und kt,mapOf x s with
  |some d,some es=>match plainKey d k with
   |true=>vq X vt ok (nk k es)
   |false=>none
  | _,_=>none
 | _=>none
def fB (X:Ctx)(t:TypeId)(m k v:AV)(s:St):Option OR:=match v with
 | .top=>none
 |v=>match X.und t,m with
  |some (.map kt _), .map (some r)=>match X.und kt,s.h.get r with
   |some d,some (.map es)=>match plainKey d k,nw k v es with
    |true,some es'=>some (.val (.tup []) (s.xh r es'))
    | _,_=>none
   | _,_=>none
  | _,_=>none
def lr (x:AV)(i:Nat):Option OR:=match x with
 | .tup vs=>sT (vs[i]?)
 | _=>none
def zU (X:Ctx)(u:TypeId)(ok:Bool):Option OR:=match ok with
 |true=>match X.zero u with
  |some z=>some (.pure (.tup [z, .bool false]))
  |none=>none
 |false=>none
def sf (X:Ctx)(x:AV)(u:TypeId)(ok:Bool):Option OR:=match X.und u,x with
 |some (.interface _),_=>none
 |some _, .iface t' v=>match decide (t'=u) with
  |true=>oM ok v true
  |false=>zU X u ok
 |some _, .nilIface=>zU X u ok
 | _,_=>none
def uC (f:AV)(args:List AV):Option OR:=match f with
 | .func (.func g) first captured=>some (.dfr ⟨g,first++args++captured⟩)
 | _=>none
def uN (x:AV):Option OR:=match x with
 | .iface t v=>some (.pan (.iface t v))
 | _=>none
def Ma (x:AV)(args:List AV)(ptr:Bool):Option (FuncId×Bool)→Option OR
 |some (f,b)=>match b==ptr with
  |true=>some (.call f (x::args))
  |false=>none
 |none=>none
def CB:TypeDesc→Bool
 | .pointer _=>true
 | _=>false
def Mb (X:Ctx)(t:TypeId)(x:AV)(args:List AV):Option Method→Option OR
 |some m=>match m.path.toList,X.und t with
  |[],some d=>Ma x args (CB d) m.func
  | _,_=>none
 |none=>none
def rO (X:Ctx)(x:AV)(name:String)(args:List AV):Option OR:=match x with
 | .iface t v=>match X.tys.get t with
  |some i=>Mb X t v args (i.methods.toList.find? fun m=>m.name==name)
  |none=>none
 | _=>none
def px (X:Ctx)(c:Call)(fr:Fr)(s:St):Option OR:=match c.callee with
 | .value f=>tm (fr.opd f) (c.args.toList.map fr.opd)
 | .builtin b=>dP X b c.argTypes.toList (c.args.toList.map fr.opd) s
 | .invoke r name=>rO X (fr.opd r) name (c.args.toList.map fr.opd)
def Ic (c:Call)(fr:Fr):Option OR:=match c.callee with
 | .value f=>uC (fr.opd f) (c.args.toList.map fr.opd)
 | _=>none
def aO (X:Ctx)(t:TypeId)(a:AV)(s:St):Option OR:=sT (loadT X t a s)
def fQ (X:Ctx)(o:Oper)(fr:Fr)(s:St):Option OR:=
 match o.op with
 | .move x=>some (.old (fr.opd x))
 | .assign x=>some (.old (fr.opd x))
 | .pick c a b=>qo (fr.opd c) (fr.opd a) (fr.opd b)
 | .alloc t=>iT X t s
 | .box _ x=>dS (fr.opd x) s
 | .build t ps=>bf X t (parts fr ps)
 | .buildSlice t len ps=>bh X t len (parts fr ps) s
 | .load t a=>aO X t (fr.opd a) s
 | .store t a x=>cF X t (fr.opd a) (fr.opd x) s
 | .nilCheck x=>tJ (fr.opd x)
 | .binOp op t x y _=>jf (aU X op t (qc x||qc y) (fr.opd x) (fr.opd y))
 | .unOp op _ x=>jf (EW op (fr.opd x))
 | .convert a b x=>bG X a b (fr.opd x) s
 | .makeInterface t x=>iz X t (fr.opd x)
 | .makeFunc fn first cap=>some (.pure (.func fn (first.toList.map fr.opd) (cap.toList.map fr.opd)))
 | .makeMap _ none=>nI s
 | .makeSlice t l c=>eu X t (fr.opd l) (fr.opd c) s
 | .slice t x lo hi mx=>jf (cN X s t (fr.opd x) (lo.map fr.opd) (hi.map fr.opd) (mx.map fr.opd))
 | .fieldAddr t x i=>ah X t (fr.opd x) i
 | .field t x i=>sd X t (fr.opd x) i
 | .indexAddr t x i=>fc X t (fr.opd x) (fr.opd i)
 | .index t x i=>mu X t (fr.opd x) (fr.opd i)
 | .lookup t x k ok=>eC X t (fr.opd x) (fr.opd k) ok s
 | .mapUpdate t m k x=>fB X t (fr.opd m) (fr.opd k) (fr.opd x) s
 | .insert t m k x=>fB X t (fr.opd m) (fr.opd k) (fr.opd x) s
 | .extract t i=>lr (fr.opd t) i
 | .typeAssert x _ u ok=>sf X (fr.opd x) u ok
 | .call c=>px X c fr s
 | .defer c=>Ic c fr
 | .panic x=>uN (fr.opd x)
 | _=>none
inductive CR where
 |ret (v:AV) (s:St)
 |pan (v:AV) (s:St)
inductive EX where
 |norm
 |brk (id:Nat)
 |ret
 |pan (v:AV)
inductive Tgt where
 |fn (f:FuncId)
 |rnd (b:Nat)
abbrev dh:=Tgt→List AV→St→Option CR
def zH (fr:Fr)(want:Bool)(d:Nat):Option Bool:=match fr.t.get d with
 |some (.bool b)=>some (b==want)
 |some (.tup _)=>some false
 | _=>none
def va (ops:Array Oper)(fr:Fr)(j:Nat)(want:Bool):Option Bool:=match ops.toList[j]? with
 |some g=>match g.dst with
  |some d=>zH fr want d
  |none=>none
 |none=>none
def bI (ops:Array Oper)(fr:Fr)(o:Oper):Option Bool:=
 match o.guard with
 |none=>some true
 |some (j,want)=>va ops fr j want
inductive PR where
 |go (fr:Fr) (s:St)
 |pan (v:AV) (fr:Fr) (s:St)
def ku (fr:Fr)(dst:Option Nat)(v:AV)(s:St):Option PR:=match dst with
 |none=>some (.go fr s)
 |some t=>fr.t.nw t v fun x=>some (.go ⟨x,fr.d⟩ s)
def vx (fr:Fr)(dst:Option Nat)(v:AV)(s:St):Option PR:=kS s fun s=>kV v fun v=>ku fr dst v s
def hU (fr:Fr)(dst:Option Nat):Option CR→Option PR
 |some (.ret v s)=>vx fr dst v s
 |some (.pan v s)=>some (.pan v fr s)
 |none=>none
def mg (call:dh)(fr:Fr)(dst:Option Nat)(s:St):Option OR→Option PR
 |none=>none
 |some (.old v)=>ku fr dst v s
 |some (.pure v)=>kV v fun v=>ku fr dst v s
 |some (.val v s')=>vx fr dst v s'
 |some (.dfr d)=>ku {fr with d:= .fn d::fr.d} dst (.tup []) s
 |some (.pan v)=>some (.pan v fr s)
 |some (.call f args)=>kL args fun args=>hU fr dst (call (.fn f) args s)
 |some (.round b args)=>kL args fun args=>hU fr dst (call (.rnd b) args s)
def NG (X:Ctx)(g:FuncId):Bool:=match X.fns.get g with
 |some _=>true
 |none=>false
def Aj (X:Ctx):AV→Bool
 | .func (.func g) _ _=>NG X g
 | .tup []=>true
 | .nilFunc=>true
 | .yld _=>true
 | _=>false
def IU:AV→Bool
 | .tup []=>true
 | .nilIface=>true
 | _=>false
def Ez (X:Ctx)(fr:Fr):Callee→Bool
 | .builtin _=>true
 | .value x=>Aj X (fr.opd x)
 | .invoke x _=>IU (fr.opd x)
def wk (X:Ctx)(o:Oper)(fr:Fr):Bool:=match o.op with
 | .call c=>Ez X fr c.callee
 | _=>true
def mM (X:Ctx)(o:Oper)(fr:Fr)(s:St):Option PR:=match wk X o fr with
 |true=>ku fr o.dst (.tup []) s
 |false=>none
def xu (X:Ctx)(call:dh)(o:Oper)(fr:Fr)(s:St):Option Bool→Option PR
 |none=>none
 |some false=>mM X o fr s
 |some true=>mg call fr o.dst s (fQ X o fr s)
def ed (X:Ctx)(call:dh)(ops:Array Oper)(o:Oper)(fr:Fr)(s:St):Option PR:=xu X call o fr s (bI ops fr o)
def iS (k:Fr→St→Option (EX×Fr×St)):Option PR→Option (EX×Fr×St)
 |some (.go fr s)=>k fr s
 |some (.pan v fr s)=>some (.pan v,fr,s)
 |none=>none
def oc (X:Ctx)(call:dh)(ops:Array Oper):List Oper→Fr→St→Option (EX×Fr×St)
 |[],fr,s=>some (.norm,fr,s)
 |o::rest,fr,s=>iS (oc X call ops rest) (ed X call ops o fr s)
def bit (m i:Nat):Bool:=Nat.beq (Nat.mod (Nat.shiftRight m i) 2) 1
def uU (done:Nat)(o:Oper):Bool:=o.after.toList.all fun e=> !onB e||bit done e.on
structure bt where
 i:Nat
 o:Oper
 v:AV
 laid:Option (Nat×AB)
def Gr:Option AV→Option AV→Bool
 |none,none=>true
 |some x,some y=>x.same y
 | _,_=>false
def Mk:Tr AV→Tr AV→Bool:=Tr.qB Gr
def Dh:AB→AB→Bool
 | .cells a n, .cells b m=>Nat.beq n m&&Mk a b
 | .map [], .map []=>true
 | _,_=>false
def pB (s:St)(b:Nat)(x:AB):Bool:=match s.h.get b with
 |some y=>Dh x y
 |none=>false
def aA (v:AV):Option OR→Bool
 |some (.old u)=>u.same v
 |some (.pure u)=>u.same v
 | _=>false
def mT (X:Ctx)(ops:Array Oper)(fr:Fr)(s:St)(p:bt):Bool:=
 match p.laid with
 |some (b,x)=>pB s b x
 |none=>match bI ops fr p.o with
  |some true=>aA p.v (fQ X p.o fr s)
  |some false=>match p.v with
   | .tup []=>true
   | _=>false
  |none=>false
def A4 (i:Nat)(o:Oper)(fr:Fr)(s:St):Option OR→Option (bt×Fr×St)
 |some (.old v)=>kT (fr.put o.dst v).t fun x=>some (⟨i,o,v,none⟩,⟨x,fr.d⟩,s)
 |some (.pure v)=>kV v fun v=>kT (fr.put o.dst v).t fun x=>some (⟨i,o,v,none⟩,⟨x,fr.d⟩,s)
 |some (.val v s')=>match s.h.get s.nx with
  |none=>kS s' fun s'=>kV v fun v=>match s'.h.get s.nx with
   |some b=>kT (fr.put o.dst v).t fun x=>some (⟨i,o,v,some (s.nx,b)⟩,⟨x,fr.d⟩,s')
   |none=>none
  | _=>none
 | _=>none
def jX (X:Ctx)(i:Nat)(o:Oper)(fr:Fr)(s:St):Option Bool→Option (bt×Fr×St)
 |none=>none
 |some false=>kT (fr.put o.dst (.tup [])).t fun x=>some (⟨i,o, .tup [],none⟩,⟨x,fr.d⟩,s)
 |some true=>A4 i o fr s (fQ X o fr s)
def yU (k:Nat→List bt→Fr→St→Option (EX×Fr×St))(done i:Nat)(pend:List bt):Option (bt×Fr×St)→Option (EX×Fr×St)
 |some (p,fr,s)=>kN (Nat.lor done (Nat.pow 2 i)) fun done=>k done (p::pend) fr s
 |none=>none
def rS (done i:Nat)(o:Oper):Bool:= !bit done i&& !mi o&&uU done o
def kF (X:Ctx)(ops:Array Oper)(k:Nat→List bt→Fr→St→Option (EX×Fr×St)):List (Nat×Oper)→Nat→List bt→Fr→St→Option (EX×Fr×St)
 |[],done,pend,fr,s=>k done pend fr s
 |io::rest,done,pend,fr,s=>match rS done io.1 io.2 with
  |false=>kF X ops k rest done pend fr s
  |true=>yU (kF X ops k rest) done io.1 pend (jX X io.1 io.2 fr s (bI ops fr io.2))
def gA (ops:List (Nat×Oper))(done:Nat):List (Nat×Oper):=ops.filter fun io=> !bit done io.1&&uU done io.2
def DH (X:Ctx)(ops:Array Oper)(k:Nat→List bt→Fr→St→Option (EX×Fr×St))(done i:Nat)(o:Oper)(pend:List bt):Option PR→Option (EX×Fr×St)
 |some (.go fr s)=>match(pend.filter fun p=> !bP o p.i).all (mT X ops fr s) with
  |true=>kN (Nat.lor done (Nat.pow 2 i)) fun done=>k done (pend.filter fun p=> !bP o p.i) fr s
  |false=>none
 |some (.pan v fr s)=>some (.pan v,⟨.e,fr.d⟩,s)
 |none=>none
def Bt (X:Ctx)(call:dh)(ops:Array Oper)(k:Nat→List bt→Fr→St→Option (EX×Fr×St))(done:Nat)(pend:List bt)(fr:Fr)(s:St):List (Nat×Oper)→Option (EX×Fr×St)
 |[]=>some (.norm,fr,s)
 |[io]=>match mi io.2 with
  |false=>none
  |true=>DH X ops k done io.1 io.2 pend (ed X call ops io.2 fr s)
 | _=>none
def nX (X:Ctx)(call:dh)(ops:Array Oper)(l:List (Nat×Oper)):Nat→Nat→List bt→Fr→St→Option (EX×Fr×St)
 |0=>fun _ _ _ _=>none
 |f+1=>kF X ops (fun done pend fr s=>Bt X call ops (nX X call ops l f) done pend fr s (gA l done)) l
end
end Go.Am
end
section
namespace Go.Am
noncomputable section
abbrev Ev:=Code→Fr→St→Option (EX×Fr×St)
def yM (X:Ctx)(fr:Fr)(s:St):ResultVar→Option AV
 | .tmp t=>match fr.t.get t with
  |some v=>some v
  |none=>some .top
 | .cell a t=>loadT X t (fr.opd (.tmp a)) s
def uu (X:Ctx)(fr:Fr)(s:St):List ResultVar→Option (List AV)
 |[]=>some []
 |r::rs=>match yM X fr s r with
  |some v=>match uu X fr s rs with
   |some l=>some (v::l)
   |none=>none
  |none=>none
def q7 (X:Ctx)(fr:Fr)(s:St)(rs:Array ResultVar):Option AV:=
 match uu X fr s rs.toList with
 |some [v]=>some v
 |some l=>some (.tup l)
 |none=>none
def DA (X:Ctx)(fn:Func)(fr:Fr)(s:St):Option CR:=match q7 X fr s fn.results with
 |some v=>some (.ret v s)
 |none=>none
inductive DM where
 |ret
 |pan (v:AV)
 |rcv (v:AV)
def isRec (o:Oper):Bool:=match o.op with
 | .call c=>match c.callee with
  | .builtin .recover=>true
  | _=>false
 | _=>false
def jy:DM→AV×DM
 | .ret=>(.nilIface, .ret)
 | .pan v=>(v, .rcv v)
 | .rcv v=>(.nilIface, .rcv v)
abbrev SR:=Option (EX×Fr×St×DM)
def wq (k:DM→Fr→St→SR)(m:DM):Option PR→SR
 |some (.go fr s)=>match fr.d with
  |[]=>k m fr s
  | _=>none
 |some (.pan v fr s)=>some (.pan v,fr,s,m)
 |none=>none
def Eg (k:DM→Fr→St→SR)(fr:Fr)(dst:Option Nat)(s:St)(m:DM):Option Bool→SR
 |some true=>wq k (jy m).2 (ku fr dst (jy m).1 s)
 | _=>none
def fV:dh:=fun _ _ _=>none
def fx (X:Ctx)(call:dh)(ops:Array Oper):List Oper→DM→Fr→St→SR
 |[],m,fr,s=>some (.norm,fr,s,m)
 |o::rest,m,fr,s=>match isRec o with
  |true=>Eg (fx X call ops rest) fr o.dst s m (bI ops fr o)
  |false=>wq (fx X call ops rest) m (ed X call ops o fr s)
def oz (m:DM):Option (EX×Fr×St)→SR
 |some (x,fr,s)=>some (x,fr,s,m)
 |none=>none
def evS (X:Ctx)(ev:Ev):Code→DM→Fr→St→SR
 | .seq a b=>fun m fr s=>match evS X ev a m fr s with
  |some (.norm,fr,s,m)=>evS X ev b m fr s
  |r=>r
 | .region id ops draw=>fun m fr s=>match !draw&&ops.toList.any isRec with
  |true=>fx X fV ops ops.toList m fr s
  |false=>oz m (ev (.region id ops draw) fr s)
 |c=>fun m fr s=>oz m (ev c fr s)
def settled:DM→DM
 | .rcv _=> .ret
 |m=>m
def z9 (X:Ctx)(fn:Func):SR→Option (DM×St)
 |some (.norm,fr,s,m)=>match fr.d,q7 X fr s fn.results with
  |[],some _=>some (settled m,s)
  | _,_=>none
 |some (.ret,fr,s,m)=>match fr.d,q7 X fr s fn.results with
  |[],some _=>some (settled m,s)
  | _,_=>none
 | _=>none
def kM (X:Ctx)(ev:Ev)(d:qC)(m:DM)(s:St):Option (DM×St):=
 match X.fns.get d.fn with
 |some fn=>match fn.body with
  |some c=>z9 X fn (evS X ev c m {t:=Tr.of d.args,d:=[]} s)
  |none=>none
 |none=>none
def tv (b:Nat)(s:St):Option AB→Option St
 |some .dfr=>some {s with h:=s.h.del b}
 | _=>none
def leave (X:Ctx)(ev:Ev)(fn:Func)(fr:Fr):List DE→DM→St→Option CR
 |[], .ret,s=>DA X fn fr s
 |[], .pan v,s=>some (.pan v s)
 |[], .rcv _,_=>none
 | .fn d::ds,m,s=>match kM X ev d m s with
  |some (m,s)=>leave X ev fn fr ds m s
  |none=>none
 | .mark b::ds,m,s=>match tv b s (s.h.get b) with
  |some s=>leave X ev fn fr ds m s
  |none=>none
def rB (X:Ctx)(ev:Ev)(fn:Func):Option (EX×Fr×St)→Option CR
 |some (.norm,fr,s)=>leave X ev fn fr fr.d .ret s
 |some (.ret,fr,s)=>leave X ev fn fr fr.d .ret s
 |some (.pan v,fr,s)=>leave X ev fn fr fr.d (.pan v) s
 | _=>none
def dy (X:Ctx)(ev:Ev)(f:FuncId)(args:List AV)(s:St):Option CR:=
 match X.fns.get f with
 |some fn=>match fn.body with
  |some c=>rB X ev fn (ev c {t:=Tr.of args,d:=[]} s)
  |none=>none
 |none=>none
def jx:List Nat→List AV→Tr AV→Option (Tr AV)
 |[],[],t=>some t
 |p::ps,v::vs,t=>kT (t.put p v) fun t=>jx ps vs t
 | _,_,_=>none
def IY (v:AV)(s:St):List DE→Option CR
 |[]=>some (.pan v s)
 | _=>none
def wH (b:Nat)(x:EX)(d:List DE)(s:St):Option AB→Option CR
 |some (.loop t ps QE bd .busy)=>match x with
  | .norm=>some (.ret (.bool true) {s with h:=s.h.put b (.loop t ps QE bd .ready)})
  | .ret=>some (.ret (.bool false) {s with h:=s.h.put b (.loop t ps QE bd (.done .ret))})
  | .brk i=>some (.ret (.bool false) {s with h:=s.h.put b (.loop t ps QE bd (.done (.exit i)))})
  | .pan v=>IY v s d
 | _=>none
def rk (b:Nat):Option (EX×Fr×St)→Option CR
 |some (x,fr,s)=>wH b x fr.d s (s.h.get b)
 |none=>none
def pL (ev:Ev)(b:Nat)(bd0:Code)(fr:Fr)(s:St):Option AB→Option CR
 |some (.loop t ps QE bd .ready)=>rk b (ev bd0 fr {s with h:=s.h.put b (.loop t ps QE bd .busy)})
 | _=>none
def nE (ev:Ev)(b:Nat)(bd0:Code):Option (EX×Fr×St)→Option CR
 |some (.norm,fr,s)=>pL ev b bd0 fr s (s.h.get b)
 | _=>none
def xR (ev:Ev)(b:Nat)(QE bd0:Code)(s:St):Option (Tr AV)→Option CR
 |some t=>nE ev b bd0 (ev QE ⟨t,[]⟩ s)
 |none=>none
def Dy (ev:Ev)(b:Nat)(args:List AV)(s:St):Option AB→Option CR
 |some (.loop t ps QE bd .ready)=>xR ev b QE bd s (jx ps args t)
 | _=>none
def mw (ev:Ev)(b:Nat)(args:List AV)(s:St):Option CR:=Dy ev b args s (s.h.get b)
abbrev bk:=FuncId→Option (List AV→St→Option CR)
def fF (X:Ctx)(own:bk)(ih:Ev)(f:FuncId)(args:List AV)(s:St):Option CR:=match own f with
 |some g=>g args s
 |none=>dy X ih f args s
def cn (X:Ctx)(own:bk)(ih:Ev)(f:Tgt)(args:List AV)(s:St):Option CR:=match f with
 | .fn f=>fF X own ih f args s
 | .rnd b=>mw ih b args s
def vz (X:Ctx)(own:bk)(ih:Ev)(ops:Array Oper)(fr:Fr)(s:St)(draw:Bool):Option (EX×Fr×St):=match draw with
 |false=>oc X (cn X own ih) ops ops.toList fr s
 |true=>nX X (cn X own ih) ops (dT ops) (ops.size+1) 0 [] fr s
def my (ih:Ev)(b:Code):Option (EX×Fr×St)→Option (EX×Fr×St)
 |some (.norm,fr,s)=>ih b fr s
 |r=>r
def qy (ih:Ev)(a b:Code)(fr:Fr)(s:St):AV→Option (EX×Fr×St)
 | .bool true=>ih a fr s
 | .bool false=>ih b fr s
 | _=>none
def mI (id:Nat):Option (EX×Fr×St)→Option (EX×Fr×St)
 |some (.brk j,fr,s)=>match Nat.beq j id with
  |true=>some (.norm,fr,s)
  |false=>some (.brk j,fr,s)
 |r=>r
def vY:Code→Bool
 | .ret=>true
 | .exit _=>true
 | _=>false
def pV (ih:Ev)(fr:Fr)(b0 l:Nat)(s:St):Option AB→Option (EX×Fr×St)
 |some (.loop _ _ _ _ .ready)=>some (.norm,⟨fr.t, .mark b0::fr.d⟩,{s with h:=s.h.del l})
 |some (.loop _ _ _ _ (.done c))=>match vY c with
  |true=>ih c ⟨fr.t, .mark b0::fr.d⟩ {s with h:=s.h.del l}
  |false=>none
 | _=>none
def tE (ih:Ev)(fr:Fr)(b0 l:Nat):Option CR→Option (EX×Fr×St)
 |some (.ret _ s)=>pV ih fr b0 l s (s.h.get l)
 |some (.pan v s)=>some (.pan v,⟨fr.t, .mark b0::fr.d⟩,s)
 |none=>none
def rp (X:Ctx)(ih:Ev)(f:FuncId)(first cap:List AV)(fr:Fr)(b0 l:Nat)(s:St):Option (EX×Fr×St):=
 kL (first++(.yld l::cap)) fun args=>kS s fun s=>tE ih fr b0 l (dy X ih f args s)
def om (X:Ctx)(ih:Ev)(ps:List Nat)(QE bd:Code)(fr:Fr)(s:St):AV→Option (EX×Fr×St)
 | .func (.func f) first cap=>rp X ih f first cap fr s.nx (s.nx+1) ((s.new .dfr).2.new (.loop fr.t ps QE bd .ready)).2
 | _=>none
def ph (X:Ctx)(own:bk)(ih:Ev):Ev:=fun c fr s=>
 match c with
 | .skip=>some (.norm,fr,s)
 | .label _=>some (.norm,fr,s)
 | .region _ ops draw=>vz X own ih ops fr s draw
 | .seq a b=>my ih b (ih a fr s)
 | .cond x a b=>qy ih a b fr s (fr.opd x)
 | .block id b=>mI id (ih b fr s)
 | .loop b=>my ih (.loop b) (ih b fr s)
 | .exit id=>some (.brk id,fr,s)
 | .scope b=>ih b fr s
 | .ret=>some (.ret,fr,s)
 | .goto _=>none
 | .refuse _=>none
 | .rangeFunc g ps QE bd=>om X ih ps.toList QE bd fr s (fr.opd g)
def ev (X:Ctx)(own:bk)(n:Nat):Ev:=Nat.rec (motive:=fun _=>Ev) (fun _ _ _=>none) (fun _ ih=>ph X own ih) n
def jr (X:Ctx)(own:bk)(n:Nat):FuncId→List AV→St→Option CR:=dy X (ev X own n)
end
end Go.Am
end
section
namespace Go.Am
section
variable {α β:Type}
@[simp] theorem pC (m : Nat) (k : Nat → β) : kN m k = k m := by cases m <;> rfl
@[simp] theorem Qp (i : Int) (k : Int → β) : kI i k = k i := by cases i <;> simp [kI]
@[simp] theorem Qr (b : Bool) (k : Bool → β) : kB b k = k b := by cases b <;> rfl
@[simp] theorem Qs (a : Option (Nat × Nat)) (k : Option (Nat × Nat) → β) : kA a k = k a := by
 cases a with
 |none=>rfl
 |some p=>cases p;simp[kA]
@[simp] theorem PS (a : Option (Nat × Nat × Nat)) (k : Option (Nat × Nat × Nat) → β) : kA3 a k = k a := by
 cases a with
 |none=>rfl
 |some p=>obtain⟨b,o,e⟩:=p;simp[kA3]
@[simp] theorem sP (v : AV) (k : AV → β) : kV0 v k = k v := by
 cases v<;>simp[kV0]
 case map r=>cases r<;>simp
@[simp] theorem mz (l : List AV) (k : List AV → β) : kL l k = k l := by
 induction l generalizing k with
 |nil=>rfl
 |cons v vs ih=>simp[kL,ih]
@[simp] theorem km (v : AV) (k : AV → β) : kV v k = k v := by cases v <;> simp [kV]
@[simp] theorem Qq (l : List (AV × AV)) (k : List (AV × AV) → β) : kP l k = k l := by
 induction l generalizing k with
 |nil=>rfl
 |cons v vs ih=>cases v;simp[kP,ih]
@[simp] theorem oF (s : St) (k : St → β) : kS s k = k s := by cases s; simp [kS]
end
theorem Tr.im {α:Type}:∀ (l:List α) (i:Nat) (t:Tr α) (j:Nat) (x:α),(Tr.lP l i t).get j=some x→(i≤j∧l[j- i]? =some x)∨((j<i∨i+l.length≤j)∧t.get j=some x)
 |[],i,t,j,x,h=>by
  refine .inr ⟨?_,h⟩
  simp;omega
 |y::ys,i,t,j,x,h=>by
  simp only[Tr.lP,Tr.rL,pC] at h
  rcases Tr.im ys (i+1) _ j x h with⟨a,b⟩|⟨a,b⟩
  ·refine .inl ⟨by omega,?_⟩
   have:j- i=(j- (i+1))+1:=by omega
   rw[this];simpa using b
  ·rcases Tr.dB b with⟨c,d⟩|⟨c,d⟩
   ·subst c;subst d;exact .inl ⟨by omega,by simp⟩
   ·refine .inr ⟨?_,d⟩
    simp;omega
theorem Tr.df {α:Type}{l:List α}{j:Nat}{x:α}(h:(Tr.of l).get j=some x):l[j]? =some x:=by
 rcases Tr.im l 0 .e j x h with⟨_,b⟩|⟨_,b⟩
 ·simpa using b
 ·rw[Tr.wv] at b;cases b
abbrev Inj:=Nat→Option (Nat×Nat×Nat)
def Inj.le (ι κ:Inj):Prop:=∀b x,ι b=some x→κ b=some x
theorem Inj.le_refl (ι:Inj):ι.le ι:=fun _ _ h=>h
theorem Inj.le_trans {ι κ μ:Inj}(h:ι.le κ)(h':κ.le μ):ι.le μ:=fun b x hb=>h' b x (h b x hb)
mutual
def VR (ι:Inj):AV→Value→Prop
 | .top,_=>True
 | .bool b,v=>v= .bool b
 | .int k n,v=>v= .int k n
 | .flt k b,v=>v= .float k b
 | .str s,v=>∃bs,v= .string bs∧s=Str.of bs
 | .ptr none,v=>v= .pointer none
 | .ptr (some (b,o)),v=>∃c d,ι b=some (c,d)∧v= .pointer (some ⟨c,d.1+o,none⟩)
 | .slc none n c x,v=>n=0∧c=0∧x=true∧v= .slice none 0 0
 | .slc (some (b,o,es)) n c x,v=>∃cb d off m,ι b=some (cb,d)∧v= .slice (some ⟨cb,off,none⟩) n m∧(0<c∨x=true→off=d.1+o)∧n≤c∧c≤m∧(x=true→m=c)∧off+m*es≤d.2
 | .map none,v=>v= .map none
 | .map (some r),v=>∃c d,ι r=some (c,d)∧v= .map (some c)
 | .func f a b,v=>∃x y,v= .func f x y∧VRs ι a x.toList∧VRs ι b y.toList
 | .nilFunc,v=>v= .nilFunc
 | .any,v=>(∀x,v≠ .agg x)∧∀x,v≠ .tuple x
 | .yld b,v=>∃c d,ι b=some (c,d)∧v= .func (.yield c) #[] #[]
 | .gp g o,v=>v= .pointer (some ⟨g,o,none⟩)
 | .cls k b m r,v=>∃n:Nat,v= .int k n∧n<b∧n % m=r
 | .ne k n,v=>∃m:Int,v= .int k m∧m≠n
 | .iface t u,v=>∃x,v= .iface t x∧VR ι u x
 | .nilIface,v=>v= .nilIface
 | .agg cs,v=>∃x,v= .agg x∧VRs ι cs x.toList
 | .tup cs,v=>∃x,v= .tuple x∧VRs ι cs x.toList
def VRs (ι:Inj):List AV→List Value→Prop
 |[],[]=>True
 |a::l,v::m=>VR ι a v∧VRs ι l m
 | _,_=>False
end
mutual
theorem VR.mono {ι κ:Inj}(h:ι.le κ):∀ {a:AV} {v:Value},VR ι a v→VR κ a v
 | .top,_,_=>by simp[VR]
 | .bool _,_,hv=>by simpa[VR] using hv
 | .int _ _,_,hv=>by simpa[VR] using hv
 | .flt _ _,_,hv=>by simpa[VR] using hv
 | .str _,_,hv=>by simpa[VR] using hv
 | .ptr none,_,hv=>by simpa[VR] using hv
 | .ptr (some (b,o)),_,hv=>by
  simp only[VR] at hv ⊢
  obtain⟨c,d,h1,h2⟩:=hv
  exact⟨c,d,h _ _ h1,h2⟩
 | .slc none _ _ _,_,hv=>by simpa[VR] using hv
 | .slc (some (b,o,es)) n c x,_,hv=>by
  simp only[VR] at hv ⊢
  obtain⟨cb,d,off,m,h1,h2⟩:=hv
  exact⟨cb,d,off,m,h _ _ h1,h2⟩
 | .map none,_,hv=>by simpa[VR] using hv
 | .map (some r),_,hv=>by
  simp only[VR] at hv ⊢
  obtain⟨c,d,h1,h2⟩:=hv
  exact⟨c,d,h _ _ h1,h2⟩
 | .func f a b,_,hv=>by
  simp only[VR] at hv ⊢
  obtain⟨x,y,h1,h2,h3⟩:=hv
  exact⟨x,y,h1,VRs.mono h h2,VRs.mono h h3⟩
 | .nilFunc,_,hv=>by simpa[VR] using hv
 | .any,_,hv=>by simp only[VR] at hv ⊢;exact hv
 | .gp _ _,_,hv=>by simp only[VR] at hv ⊢;exact hv
 | .cls _ _ _ _,_,hv=>by simp only[VR] at hv ⊢;exact hv
 | .ne _ _,_,hv=>by simp only[VR] at hv ⊢;exact hv
 | .yld b,_,hv=>by
  simp only[VR] at hv ⊢
  obtain⟨c,d,h1,h2⟩:=hv
  exact⟨c,d,h _ _ h1,h2⟩
 | .iface t u,_,hv=>by
  simp only[VR] at hv ⊢
  obtain⟨x,h1,h2⟩:=hv
  exact⟨x,h1,VR.mono h h2⟩
 | .nilIface,_,hv=>by simpa[VR] using hv
 | .agg cs,_,hv=>by
  simp only[VR] at hv ⊢
  obtain⟨x,h1,h2⟩:=hv
  exact⟨x,h1,VRs.mono h h2⟩
 | .tup cs,_,hv=>by
  simp only[VR] at hv ⊢
  obtain⟨x,h1,h2⟩:=hv
  exact⟨x,h1,VRs.mono h h2⟩
theorem VRs.mono {ι κ:Inj}(h:ι.le κ):∀ {l:List AV} {m:List Value},VRs ι l m→VRs κ l m
 |[],[],_=>by simp[VRs]
 |[],_::_,hv=>by simp[VRs] at hv
 | _::_,[],hv=>by simp[VRs] at hv
 |a::l,v::m,hv=>by
  simp only[VRs] at hv ⊢
  exact⟨VR.mono h hv.1,VRs.mono h hv.2⟩
end
section
variable {ι:Inj}
theorem VRs.length:∀ {l:List AV} {m:List Value},VRs ι l m→l.length=m.length
 |[],[],_=>rfl
 |[],_::_,h=>by simp[VRs] at h
 | _::_,[],h=>by simp[VRs] at h
 | _::l,_::m,h=>by simp only[VRs] at h;simp[VRs.length h.2]
theorem VRs.get:∀ {l:List AV} {m:List Value} {i:Nat} {a:AV},VRs ι l m→l[i]? =some a→∃v,m[i]? =some v∧VR ι a v
 |[],_,_,_,_,hi=>by simp at hi
 | _::_,[],_,_,h,_=>by simp[VRs] at h
 |b::l,v::m,0,a,h,hi=>by
  simp only[VRs] at h;simp at hi;subst hi;exact⟨v,rfl,h.1⟩
 |b::l,v::m,i+1,a,h,hi=>by
  simp only[VRs] at h;simp at hi;simpa using VRs.get h.2 hi
theorem VRs.append:∀ {l:List AV} {m:List Value} {l':List AV} {m':List Value},VRs ι l m→VRs ι l' m'→VRs ι (l++l') (m++m')
 |[],[],_,_,_,h'=>by simpa using h'
 |[],_::_,_,_,h,_=>by simp[VRs] at h
 | _::_,[],_,_,h,_=>by simp[VRs] at h
 | _::l,_::m,_,_,h,h'=>by
  simp only[VRs] at h;simp only[List.cons_append,VRs];exact⟨h.1,VRs.append h.2 h'⟩
theorem VRs.drop:∀ {l:List AV} {m:List Value} (n:Nat),VRs ι l m→VRs ι (l.drop n) (m.drop n)
 |l,m,0,h=>by simpa using h
 |[],[],n+1,_=>by simp[VRs]
 |[],_::_,_+1,h=>by simp[VRs] at h
 | _::_,[],_+1,h=>by simp[VRs] at h
 | _::l,_::m,n+1,h=>by simp only[VRs] at h;simpa using VRs.drop n h.2
theorem VRs.take:∀ {l:List AV} {m:List Value} (n:Nat),VRs ι l m→VRs ι (l.take n) (m.take n)
 |l,m,0,h=>by simp[VRs]
 |[],[],n+1,_=>by simp[VRs]
 |[],_::_,_+1,h=>by simp[VRs] at h
 | _::_,[],_+1,h=>by simp[VRs] at h
 | _::l,_::m,n+1,h=>by simp only[VRs] at h;simp only[List.take_succ_cons,VRs];exact⟨h.1,VRs.take n h.2⟩
theorem VRs.set:∀ {l:List AV} {m:List Value} (i:Nat) {a:AV} {v:Value},VRs ι l m→VR ι a v→VRs ι (l.set i a) (m.set i v)
 |[],[],i,_,_,_,_=>by simp[VRs]
 |[],_::_,_,_,_,h,_=>by simp[VRs] at h
 | _::_,[],_,_,_,h,_=>by simp[VRs] at h
 | _::l,_::m,0,_,_,h,ha=>by simp only[VRs] at h;simp only[List.set_cons_zero,VRs];exact⟨ha,h.2⟩
 | _::l,_::m,i+1,_,_,h,ha=>by simp only[VRs] at h;simp only[List.set_cons_succ,VRs];exact⟨h.1,VRs.set i h.2 ha⟩
theorem VRs.one {a:AV}{v:Value}(h:VR ι a v):VRs ι [a] [v]:=by simp only[VRs];exact⟨h,trivial⟩
theorem VRs.ext:∀ {l:List AV} {m:List Value},l.length=m.length→(∀ (i:Nat) (a:AV) (v:Value),l[i]? =some a→m[i]? =some v→VR ι a v)→VRs ι l m
 |[],[],_,_=>by simp[VRs]
 |[],_::_,h,_=>by simp at h
 | _::_,[],h,_=>by simp at h
 |a::l,v::m,h,hi=>by
  simp only[VRs]
  exact⟨hi 0 a v rfl rfl,VRs.ext (by simpa using h) fun i b w h1 h2=>hi (i+1) b w (by simpa using h1) (by simpa using h2)⟩
end
theorem Ek (ι:Inj)(v:Value):VR ι (pk v) v:=by
 cases v<;>simp only[pk,VR]
 case string s=>exact⟨s,rfl,rfl⟩
 case pointer a=>cases a<;>simp[VR]
 case slice a n c=>
  cases a with
  |none=>
   match n,c with
   |0,0=>simp[VR]
   |0,_+1=>simp[VR]
   | _+1,_=>simp[VR]
  |some a=>simp[VR]
 case map r=>cases r<;>simp[VR]
theorem A6 (ι:Inj):∀ (l:List Value),VRs ι (l.map pk) l
 |[]=>by simp[VRs]
 |v::l=>by simp only[List.map_cons,VRs];exact⟨Ek ι v,A6 ι l⟩
theorem ju (ι:Inj)(v:Value):VR ι (ofV v) v:=by
 unfold ofV
 split
 ·simp only[VR];exact⟨_,rfl,A6 ι _⟩
 ·simp only[VR];exact⟨_,rfl,by simp[VRs]⟩
 ·exact Ek ι v
end Go.Am
end
